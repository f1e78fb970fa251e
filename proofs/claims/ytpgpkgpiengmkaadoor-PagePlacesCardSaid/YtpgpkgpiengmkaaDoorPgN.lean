/-
  Layer 40 (page), the chapter's: numbers, an anchor with its page, Places.
-/
import Derived.Test.YtpgpkgpiengmkaaDoorPgZ
import Derived.Deep.RegionLaw
namespace Go.Proofs.YtpgpkgpiengmkaaDoor
open Go.RowKit
set_option linter.unusedVariables false
set_option linter.unusedSimpArgs false
attribute [local go_sem] B_data B_size

theorem dig_at (d : Nat) (h : d < 10) : (⟨#[48, 49, 50, 51, 52, 53, 54, 55, 56, 57]⟩ : ByteArray).extract d (d + 1) = B [UInt8.ofNat (48 + d)] := by
  have : d = 0 ∨ d = 1 ∨ d = 2 ∨ d = 3 ∨ d = 4 ∨ d = 5 ∨ d = 6 ∨ d = 7 ∨ d = 8 ∨ d = 9 := by omega
  rcases this with rfl | rfl | rfl | rfl | rfl | rfl | rfl | rfl | rfl | rfl <;> rfl
theorem nd_le (u : Nat) : Lib.nDigits u ≤ u + 1 := by
  induction u using Nat.strongRecOn with
  | _ u ih =>
    rw [Lib.nDigits]
    split
    · omega
    · rename_i h
      have := ih (u / 10) (by omega)
      omega
theorem B_app (a b : List UInt8) : B a ++ B b = B (a ++ b) := by
  apply ByteArray.ext
  simp [B]
set_option maxHeartbeats 4000000 in
set_option maxRecDepth 100000 in
theorem num_any : ∀ (n : Nat), n ≤ 1000000 → ∀ w : World, Calls Tryd.prog 37 #[.int .i64 n] w (SPost (Lib.decDigits n) w) := by
  intro n
  induction n using Nat.strongRecOn with
  | _ n ih =>
    intro hn w
    obtain ⟨d, hdn⟩ : ∃ d, d = n % 10 := ⟨_, rfl⟩
    obtain ⟨q, hqn⟩ : ∃ q, q = n / 10 := ⟨_, rfl⟩
    have hd10 : d < 10 := by omega
    have hd := dig_at d hd10
    obtain ⟨ch, hch⟩ : ∃ ch, ch = UInt8.ofNat (48 + d) := ⟨_, rfl⟩
    rw [← hch] at hd
    have hm : ((n : Int) % 10) = (d : Int) := by omega
    have hq : ((n : Int) / 10) = (q : Int) := by omega
    by_cases h : n < 10
    · have HX : Hid (Lib.decDigits n = [ch]) := by show _ = _; rw [Lib.decDigits, dif_pos h, hch, hdn, Nat.mod_eq_of_lt h]
      clear ih hdn hqn hq hch
      go_enter Tryd.func37, Tryd.ntmps37
      go_wp2
      go_ret
      exact s_post HX (Below.refl _ _)
    · have HX : Hid (Lib.decDigits n = Lib.decDigits q ++ [ch]) := by show _ = _; rw [Lib.decDigits, dif_neg h, hch, hdn, hqn]
      have HC := Lib.hid (ih q (by omega) (by omega) w)
      have hl : (Lib.decDigits q).length ≤ 1000001 := by rw [Lib.decDigits_length]; have := nd_le q; omega
      clear ih hdn hqn hch
      go_enter Tryd.func37, Tryd.ntmps37
      go_wp2_with fail
      refine HC.out.mono ?_
      rintro e w1 ⟨rfl, hb1⟩
      generalize Lib.decDigits q = dq at *
      go_wp2
      go_ret
      exact ⟨by rw [HX.out, ← B_app]; rfl, hb1⟩
/-- what with leaves -/
def WithPost (L : List KV) (base : Nat) (v : Value) (w : World) (e : Ending) (w' : World) : Prop :=
  ∃ A m c, e = .returned (.slice A m c) ∧ w'.ownsRow base 37 2 (.slice A m c) m (L.flatMap prF) ∧ Below base w w'
set_option maxHeartbeats 4000000 in
set_option maxRecDepth 100000 in
theorem with_any (A : Option Addr) (m c : Nat) (L : List KV) (a v : List UInt8) (base : Nat) (w : World) (ho : w.ownsRow base 37 2 (.slice A m c) m (L.flatMap prF)) (hm : m ≤ 100000000) (hb : base ≤ w.heap.size) :
    Calls Tryd.prog 36 #[.slice A m c, .string (B a), .string (B v)] w (WithPost (withP L a v) base (.slice A m c) w) := by
  have hrd := Rd.of_own ho
  have HL := Lib.hid (hrd.count prF 2 prF_len (by omega))
  have HO := Lib.hid ho
  clear ho
  go_enter Tryd.func36, Tryd.ntmps36
  go_wp2
  go_loopw [7] (fun i wr => ∃ k : Nat, k ≤ m ∧ i = .int .i64 k ∧ w = wr ∧ Hid (a ∉ (L.take k).map (·.1))) (fun i _ => m - (intOf i).toNat)
  case atStart => exact ⟨0, Nat.zero_le _, rfl, rfl, by simp [Hid]⟩
  case round =>
    obtain ⟨k, hk, rfl, rfl, hr⟩ := hrel
    by_cases hlt : k < m
    · obtain ⟨p, hp⟩ := get_of (l := L) (k := k) (by rw [HL.out]; exact hlt)
      obtain ⟨g, o, rfl, hg, hc⟩ := hrd.elem prF 2 prF_len (by omega) hp
      have c0 : w.cell? ⟨g, o + k * 2, none⟩ = some (.string (B p.1)) := hc 0 _ rfl
      have i1 : (0 : Int) ≤ (k : Int) := by omega
      have i2 : (k : Int) < (m : Int) := by omega
      clear hc
      by_cases he : p.1 = a
      · have q0 : (p.1 == a) = true := by simpa using he
        have HX : Hid (withP L a v = L) := by
          show _ = _; unfold withP
          rw [if_pos (List.mem_map.2 ⟨p, List.mem_of_getElem? hp, he⟩)]
        have HP : Hid (WithPost (withP L a v) base (.slice (some ⟨g, o, none⟩) m c) w (.returned (.slice (some ⟨g, o, none⟩) m c)) w) := by rw [HX.out]; exact ⟨_, _, _, rfl, HO.out, Below.refl _ _⟩
        clear he HX HO hr
        go_wp2
        go_ret
        exact HP.out
      · have q0 : (p.1 == a) = false := by simpa using he
        have HN : Hid (a ∉ (L.take (k + 1)).map (·.1)) := by
          rw [take_one hp, List.map_append]
          intro h
          rcases List.mem_append.1 h with h | h
          · exact hr.out h
          · simp only [List.map_cons, List.map_nil, List.mem_singleton] at h; exact he h.symm
        clear he hr
        go_wp2
        go_roundw
        case rel => exact ⟨k + 1, by omega, by go_num, by trivial, HN⟩
        case measure => simp [intOf]; omega
    · have HX : Hid (withP L a v = L ++ [(a, v)]) := by
        have h := hr.out
        rw [List.take_of_length_le (by rw [HL.out]; omega)] at h
        show _ = _; unfold withP; rw [if_neg h]
      clear hr
      go_wp2_with (at_builtin; refine wpList_app rfl _ _ 34 rfl 37 (.agg #[.string ⟨#[]⟩, .string ⟨#[]⟩]) 2 32 Tryd.underlying34 Tryd.infoPair rfl (by decide) w [.string (B a), .string (B v)] rfl ?q1 base _ _ _ HO.out rfl rfl ?q2 (by decide) hb ?_)
      case q1 =>
        intro u hu
        simp only [List.mem_cons, List.not_mem_nil, or_false] at hu
        rcases hu with rfl | rfl <;> rfl
      case q2 => omega
      intro v4 w4 ho4 hg4 hb4
      obtain ⟨A6, c6, rfl, _⟩ := own_form ho4
      have HP : Hid (WithPost (withP L a v) base (.slice A m c) w (.returned (.slice A6 (m + 1) c6)) w4) := by
        rw [HX.out]
        exact ⟨_, _, _, rfl, by rw [List.flatMap_append]; exact ho4, hb4⟩
      clear ho4 hg4 hb4 HO HX
      go_wp2
      go_ret
      exact HP.out
end Go.Proofs.YtpgpkgpiengmkaaDoor
