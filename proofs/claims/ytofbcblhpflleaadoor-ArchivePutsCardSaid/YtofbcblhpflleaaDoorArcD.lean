/-
  Layer 35 (archive): number, join, HasPrefix.
-/
import Derived.Test.YtofbcblhpflleaaDoorArcC
import Derived.Laws.BitsLemmas
import Derived.IntWalk
import Derived.Deep.RegionHeld3
namespace Go.Proofs.YtofbcblhpflleaaDoor
open Go.RowKit
set_option linter.unusedVariables false
attribute [local go_sem] B_data B_size

theorem numL_lt (l : List UInt8) : numL l < 256 ^ l.length := by
  induction l with
  | nil => simp [numL]
  | cons c r ih =>
    have := UInt8.toNat_lt c
    rw [numL, List.length_cons, Nat.pow_succ]
    omega
theorem or_byte (n c : Nat) (hn : n < 4294967296) (hc : c < 256) : bits .or .i64 ((n : Int) * 256) (c : Int) = ((c + 256 * n : Nat) : Int) := by
  rw [bits_join .i64 62 (by decide) (fun n h0 h1 => IntWalk.i64_in n (by omega)) 8 ((n : Int) * 256) (c : Int) (by omega) (by omega) (by omega) (by omega) (by omega) (by omega)]
  omega
/-- texts, one behind the other -/
theorem sjoinE_any (A : Option Addr) (n c : Nat) (ls : List (List UInt8)) (w : World) (hr : Rd w w.heap.size 1 A n (strs ls)) (hc : n ≤ c) (hn : n ≤ 1000) (hlen : ls.flatten.length ≤ 140737488355328) :
    Calls Tryd.prog 20 #[.slice A n c] w fun e w' => e = .returned (.string (B ls.flatten)) ∧ Below w.heap.size w w' := by
  have HJ : Hid (Calls Tryd.prog 30 #[.slice A n c, .string ⟨#[]⟩] w fun e w' => e = .returned (.string (B ls.flatten)) ∧ Below w.heap.size w w') := by
    have ej : Lib.join ls [] = ls.flatten := by
      cases ls with
      | nil => rfl
      | cons x r => rw [Lib.join_cons]; simp [Lib.joinTail]
    have hl := hr.strs_length
    rcases Nat.eq_zero_or_pos n with h0 | h0
    · subst h0
      have e : ls = [] := List.eq_nil_of_length_eq_zero hl
      subst e
      exact (Tryd.strings_Join_none A c ⟨#[]⟩ w).mono fun _ _ ⟨h1, h2⟩ => ⟨h1, by rw [h2]; exact Below.refl _ _⟩
    · obtain ⟨ad, rfl, hb, hcell⟩ := hr.2 h0
      obtain ⟨bk, o, spot⟩ := ad
      have hx0 := hcell 0 _ (List.getElem?_eq_getElem (by rw [strs_len]; omega))
      have hsp : spot = none := by simpa [Addr.add] using World.cell?_spot hx0
      subst hsp
      have e1 : (ls.map B).map (·.data.toList) = ls := by rw [List.map_map]; conv => rhs; rw [← List.map_id ls]
                                                          apply List.map_congr_left; intro l _; simp [B]
      have h := Tryd.strings_Join bk o c (ls.map B) ⟨#[]⟩ w (fun j x hj => ?_) hb (by rw [List.length_map, hl]; omega) (by rw [List.length_map, hl]; exact hc) (by rw [e1]; show (Lib.join ls []).length ≤ _; rw [ej]; exact hlen)
      · rw [List.length_map, hl, e1] at h
        rw [show (⟨#[]⟩ : ByteArray).data.toList = [] from rfl, ej] at h
        exact h
      · rw [← addr_lit]
        refine hcell j _ ?_
        unfold strs
        rw [List.getElem?_map] at hj ⊢
        cases hk : ls[j]? with
        | none => rw [hk] at hj; simp at hj
        | some l => rw [hk] at hj; simp at hj; simp [hj]
  go_enter Tryd.func20, Tryd.ntmps20
  go_wp2_with fail
  refine HJ.out.mono ?_
  rintro e w1 ⟨rfl, hb⟩
  go_wp2
  go_ret
  exact ⟨rfl, hb⟩
/-- whether a text begins with another one -/
def preB (s p : List UInt8) : Bool := decide (p.length ≤ s.length) && (s.take p.length == p)
set_option maxHeartbeats 1000000 in
theorem prefix_any (s p : List UInt8) (w : World) (hs : s.length ≤ 1000000000) (hp : p.length ≤ 1000000000) : Calls Tryd.prog 26 #[.string (B s), .string (B p)] w fun e w' => e = .returned (.bool (preB s p)) ∧ w = w' := by
  by_cases h : p.length ≤ s.length
  · have HB : Hid (preB s p = (s.take p.length == p)) := by unfold preB; simp [h, Hid]
    have hx : (B s).extract 0 p.length = B (s.take p.length) := by rw [B_take, B_data]
    have d1 : decide (p.length ≤ s.length) = true := by simpa using h
    go_enter Tryd.func26, Tryd.ntmps26
    go_wp2
    go_ret
    exact ⟨ret_bool HB.out.symm, rfl⟩
  · have HB : Hid (preB s p = false) := by unfold preB; simp [h, Hid]
    have d1 : decide (p.length ≤ s.length) = false := by simpa using h
    go_enter Tryd.func26, Tryd.ntmps26
    go_wp2
    go_ret
    exact ⟨ret_bool HB.out.symm, rfl⟩
set_option maxHeartbeats 1000000 in
theorem number_t (t : ByteArray) (w : World) (hz : t.size ≤ 4) : Calls Tryd.prog 40 #[.string t] w fun e w' => e = .returned (.int .i64 (numL t.toList : Nat)) ∧ w = w' := by
  go_enter Tryd.func40, Tryd.ntmps40
  go_wp2
  go_loop [3, 4] (fun n i => ∃ k : Nat, k ≤ t.size ∧ i = .int .i64 ((k : Int) - 1) ∧ n = .int .i64 (numL (t.toList.drop k) : Nat)) (fun _ i => (intOf i + 1).toNat)
  case atStart => exact ⟨t.size, Nat.le_refl _, by go_num, by rw [List.drop_of_length_le (by rw [len_toList]; omega)]; rfl⟩
  case round =>
    obtain ⟨k, hk, rfl, rfl⟩ := hrel
    by_cases h0 : k = 0
    · subst h0
      have hi : ((0 : Nat) : Int) - 1 < 0 := by omega
      go_wp2
      go_ret
      exact ⟨rfl, rfl⟩
    · obtain ⟨m, rfl⟩ : ∃ m, k = m + 1 := ⟨k - 1, by omega⟩
      have em : (((m + 1 : Nat) : Int) - 1) = (m : Int) := by omega
      rw [em]
      have HD := Lib.hid (drop_byte t m (by omega))
      have hl := numL_lt (t.toList.drop (m + 1))
      have hp : numL (t.toList.drop (m + 1)) < 16777216 := by
        refine Nat.lt_of_lt_of_le hl ?_
        rw [List.length_drop, len_toList]
        exact Nat.pow_le_pow_right (n := 256) (by decide) (show t.size - (m + 1) ≤ 3 by omega)
      have hb : t[m].toNat < 256 := UInt8.toNat_lt _
      have hor := or_byte (numL (t.toList.drop (m + 1))) t[m].toNat (by omega) hb
      have HN : Hid (numL (t.toList.drop m) = t[m].toNat + 256 * numL (t.toList.drop (m + 1))) := by rw [HD.out]; rfl
      generalize numL (t.toList.drop (m + 1)) = q at *
      clear hl
      go_wp2
      go_round
      case rel => exact ⟨m, by omega, by go_num, by rw [HN.out]; go_num⟩
      case measure => simp [intOf]
theorem number_any (s : List UInt8) (w : World) (hs : s.length ≤ 4) : Calls Tryd.prog 40 #[.string (B s)] w fun e w' => e = .returned (.int .i64 (numL s : Nat)) ∧ w = w' := by
  have := number_t (B s) w (by rw [B_size]; exact hs)
  rw [B_data] at this
  exact this
end Go.Proofs.YtofbcblhpflleaaDoor
