/-
  Layer 40 (page): the walk of the law PageSound.
-/
import Derived.Test.YtpgpkgpiengmkaaDoorPgAw
import Derived.Test.YtpgpkgpiengmkaaDoorPgSo
namespace Go.Proofs.YtpgpkgpiengmkaaDoor
open Go.RowKit
set_option linter.unusedVariables false
set_option linter.unusedSimpArgs false
attribute [local go_sem] B_data B_size

theorem on_few {n m : Nat} {l : List Bx} {H : Int} {ps : List Pg} (hO : OnOk n l H ps) (hM : ps.length = m) (hn : n ≤ 60) (hb : ∀ p ∈ ps, p.bs.length = p.nb) : PgB ps := by
  constructor
  · have h1 : ps.length ≤ (fl ps).length := by
      have h2 : ∀ p ∈ ps, p.bs ≠ [] := fun p hp => (hO.pg p hp).1
      clear hO hM hb
      induction ps with
      | nil => exact Nat.le_refl _
      | cons a r ih =>
        have h3 := ih (fun p hp => h2 p (List.mem_cons_of_mem _ hp))
        have h4 := List.length_pos_iff.2 (h2 a (List.mem_cons_self ..))
        have e : fl (a :: r) = a.bs ++ fl r := rfl
        rw [e, List.length_append, List.length_cons]; omega
    rw [hO.len] at h1; omega
  · intro p hp
    have h1 : p.bs.Sublist (fl ps) := by unfold fl; rw [List.flatMap_def]; exact List.sublist_flatten_of_mem (List.mem_map.2 ⟨p, hp, rfl⟩)
    have h2 := h1.length_le
    rw [hb p hp, hO.len] at h2; omega
set_option maxHeartbeats 8000000 in
set_option maxRecDepth 100000 in
theorem pageSound_walk (w : World) (A : Option Addr) (n c : Nat) (l : List Bx) (hx : BxAt w w.heap.size A n l) (hn : n ≤ 140737488355328) (H : Int) (hG : GlobP w) :
    Calls Tryd.prog 4 #[.slice A n c, .int .i64 H] w fun e w' => e = .returned (.bool true) ∧ Below w.heap.size w w' := by
  have HL := Lib.hid hx.len
  go_enter Tryd.func4, Tryd.ntmps4
  go_wp2_with fail
  refine (few_any A n c l w hx hn).mono ?_
  rintro e w1 ⟨b, rfl, hbw, hfw⟩
  cases b with
  | false =>
    clear hfw
    go_wp2_with fail
    refine (awake_any _ (hG.below hbw)).mono ?_
    rintro e w9 ⟨rfl, hb9⟩
    have hb10 := hbw.trans (hb9.mono hbw.size)
    clear hb9 hbw
    go_wp2
    go_ret
    exact ⟨rfl, hb10⟩
  | true =>
    have hF := hfw rfl
    have hn60 : n ≤ 60 := by have := hF.n; rw [hx.len] at this; exact this
    clear hfw
    go_wp2_with fail
    refine (break_any A n c l H _ (hx.step hbw) hF).mono ?_
    rintro e w2 ⟨A1, m, c1, ps, rfl, hp, hd, hb2⟩
    have hx2 := (hx.step hbw).step hb2
    replace hbw := hbw.trans (hb2.mono hbw.size)
    clear hb2
    by_cases hE : brkE l H = 0
    rotate_left
    · have z1 : (brkE l H != 0) = true := by simpa using hE
      have hm0 : m = 0 := by
        have h := congrArg List.length hd
        unfold brkP at h
        rw [if_neg hE] at h
        have h2 := hp.len
        simpa [h2] using h
      subst hm0
      generalize brkE l H = ce at *
      clear hE hd hp hx2 hF
      go_wp2_with fail
      refine (awake_any _ (hG.below hbw)).mono ?_
      rintro e w9 ⟨rfl, hb9⟩
      have hb10 := hbw.trans (hb9.mono hbw.size)
      clear hb9 hbw
      go_wp2
      go_ret
      exact ⟨rfl, hb10⟩
    obtain ⟨hO, hP, hh⟩ := on_ok (n := n) hx.len hn60 hE hd
    have hC := chk_ok (n := n) hx.len hn60 hE hd
    have hPB := on_few hO hp.len hn60 (fun p hp' => (hp.bs p hp').ints_len)
    rw [hE]
    clear hO hP hh hF hE hd
    go_wp2_with fail
    refine (rcheck_any A A1 n c m c1 l ps H w2 hx2 hp (by omega) hPB).mono ?_
    rintro e w3 ⟨rfl, hb3⟩
    rw [rck_chk HL.out, hC]
    have hx3 := hx2.step hb3
    have hp3 := hp.step hb3
    replace hbw := hbw.trans (hb3.mono hbw.size)
    clear hb3 hx2 hp
    go_wp2_with fail
    refine (pcheck_any A A1 n c m c1 l ps H w3 hx3 hp3 (by omega) hPB).mono ?_
    rintro e w4 ⟨rfl, hb4⟩
    rw [hC]
    replace hbw := hbw.trans (hb4.mono hbw.size)
    clear hb4 hx3 hp3 hPB hC
    go_wp2_with fail
    refine (awake_any _ (hG.below hbw)).mono ?_
    rintro e w9 ⟨rfl, hb9⟩
    have hb10 := hbw.trans (hb9.mono hbw.size)
    clear hb9 hbw
    go_wp2
    go_ret
    exact ⟨rfl, hb10⟩
end Go.Proofs.YtpgpkgpiengmkaaDoor
