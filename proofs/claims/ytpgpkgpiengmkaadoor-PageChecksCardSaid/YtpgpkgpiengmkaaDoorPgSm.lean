/-
  Layer 40 (page): are pages few, with few boxes?
-/
import Derived.Test.YtpgpkgpiengmkaaDoorPgU
namespace Go.Proofs.YtpgpkgpiengmkaaDoor
open Go.RowKit
set_option linter.unusedVariables false
set_option linter.unusedSimpArgs false
attribute [local go_sem] B_data B_size

structure SmallP (ps : List Pg) : Prop where
  n : ps.length ≤ 60
  b : ∀ p ∈ ps, p.nb ≤ 60
theorem SmallP.pgb {ps : List Pg} (h : SmallP ps) : PgB ps := ⟨by have := h.n; omega, fun p hp => by have := h.b p hp; omega⟩
set_option maxHeartbeats 4000000 in
set_option maxRecDepth 100000 in
theorem small_any (A : Option Addr) (m c : Nat) (ps : List Pg) (w : World) (hp : PgAt w w.heap.size A m ps) (hm : m ≤ 140737488355328) :
    Calls Tryd.prog 16 #[.slice A m c] w (FPost (SmallP ps) w) := by
  have HM := Lib.hid hp.len
  go_enter Tryd.func16, Tryd.ntmps16
  go_wp2
  go_loopw [3, 4] (fun nv i wr => ∃ (j s : Nat), j ≤ m ∧ j ≤ 60 ∧ i = .int .i64 j ∧ nv = .int .i64 s ∧ s ≤ j * 60 ∧ Below w.heap.size w wr ∧ Hid (∀ p ∈ ps.take j, p.nb ≤ 60)) (fun _ i _ => m - (intOf i).toNat)
  case atStart => exact ⟨0, 0, Nat.zero_le _, Nat.zero_le _, rfl, rfl, Nat.le_refl _, Below.refl _ _, fun p hp => by simp at hp⟩
  case round =>
    obtain ⟨j, s, hj, hj6, rfl, rfl, hs, hbw, hr⟩ := hrel
    by_cases hlt : j < m
    · by_cases h60 : j < 60
      · obtain ⟨p, hpj⟩ := get_of (l := ps) (k := j) (by rw [HM.out]; exact hlt)
        obtain ⟨g, o, rfl, hg, c0, c1⟩ := (hp.below hbw).at2 hpj
        have i1 : (0 : Int) ≤ (j : Int) := by omega
        have i2 : (j : Int) < (m : Int) := by omega
        by_cases h6 : 60 < p.nb
        · go_wp2
          go_ret
          exact ⟨false, rfl, hbw, nofun⟩
        · have HN := Lib.hid (all_take (P := fun q : Pg => q.nb ≤ 60) hr.out (by omega) hpj)
          clear hr
          go_wp2
          go_roundw
          case rel => exact ⟨j + 1, s + p.nb, by omega, by omega, by go_num, by go_num, by omega, hbw, HN⟩
          case measure => simp [intOf]; omega
      · go_wp2
        go_ret
        exact ⟨_, rfl, hbw, fun h => by
          exfalso
          simp at h <;> omega⟩
    · have e : j = m := by omega
      subst e
      have HS : SmallP ps := ⟨by rw [HM.out]; omega, by have h := hr.out; rwa [List.take_of_length_le (by rw [HM.out]; omega)] at h⟩
      clear hr
      go_wp2
      go_ret
      exact ⟨_, rfl, hbw, fun _ => HS⟩
end Go.Proofs.YtpgpkgpiengmkaaDoor
