/-
  Layer 16 (files): the names of paths and the directory of a path.
-/
import Derived.Test.YtpbampchhpkpbaaDoorBuilder
import Derived.Test.YtpbampchhpkpbaaDoorShelf16
namespace Go.Proofs.YtpbampchhpkpbaaDoor
open Go.RowKit
set_option linter.unusedVariables false

/-- a byte of a path name -/
def okc (c : UInt8) : Bool := decide ((97 ≤ c.toNat ∧ c.toNat ≤ 122) ∨ (65 ≤ c.toNat ∧ c.toNat ≤ 90) ∨ (48 ≤ c.toNat ∧ c.toNat ≤ 57) ∨ c.toNat = 45 ∨ c.toNat = 95 ∨ c.toNat = 46)
def nameB (l : List UInt8) : Bool := l != [] && l != [46] && l != [46, 46] && l.all okc

theorem all_take (s : ByteArray) (k : Nat) (h : k < s.size) (hr : (s.toList.take k).all okc = true) (hc : okc s[k] = true) : (s.toList.take (k + 1)).all okc = true := by
  rw [take_byte s k h, List.all_append, hr]; simp [hc]
theorem all_not (s : ByteArray) (k : Nat) (h : k < s.size) (hc : okc s[k] = false) : s.toList.all okc = false := by
  rw [← List.take_append_drop k s.toList, drop_byte s k h]; simp [hc]
theorem nameB_no (l : List UInt8) (h : l.all okc = false) : false = nameB l := by unfold nameB; rw [h, Bool.and_false]
theorem ret_bool' {a b : Bool} (h : a = b) : Ending.returned (.bool a) = .returned (.bool b) := by rw [h]

set_option maxHeartbeats 1000000 in
set_option maxRecDepth 100000 in
theorem pathName_any (s : ByteArray) (w : World) (hs : s.size ≤ 9223372036854775807) :
    Calls Tryd.prog 31 #[.string s] w fun e w' => e = .returned (.bool (nameB s.toList)) ∧ w = w' := by
  by_cases h0 : s.toList = []
  · have e0 : s.toList.isEmpty = true := by rw [h0]; rfl
    have HN : Hid (false = nameB s.toList) := by rw [h0]; rfl
    clear h0
    go_enter Tryd.func31, Tryd.ntmps31
    go_wp2
    go_ret
    exact ⟨ret_bool HN.out, rfl⟩
  · have e0 : s.toList.isEmpty = false := by cases h : s.toList with | nil => exact absurd h h0 | cons a b => rfl
    by_cases h1 : s.toList = [46]
    · have HN : Hid (false = nameB s.toList) := by rw [h1]; rfl
      go_enter Tryd.func31, Tryd.ntmps31
      go_wp2
      go_ret
      exact ⟨ret_bool HN.out, rfl⟩
    · have e1 : (s.toList == [46]) = false := by simpa using h1
      by_cases h2 : s.toList = [46, 46]
      · have HN : Hid (false = nameB s.toList) := by rw [h2]; rfl
        go_enter Tryd.func31, Tryd.ntmps31
        go_wp2
        go_ret
        exact ⟨ret_bool HN.out, rfl⟩
      · have e2 : (s.toList == [46, 46]) = false := by simpa using h2
        have HN : Hid (s.toList.all okc = true → true = nameB s.toList) := fun h => by simp [nameB, h0, h1, h2]; simpa using h
        clear h0 h1 h2
        go_enter Tryd.func31, Tryd.ntmps31
        go_wp2
        go_loop [3] (fun i => ∃ k : Nat, k ≤ s.size ∧ i = .int .i64 k ∧ Hid ((s.toList.take k).all okc = true)) (fun i => s.size - (intOf i).toNat)
        case atStart => exact ⟨0, Nat.zero_le _, rfl, rfl⟩
        case round =>
          obtain ⟨k, hk, rfl, hr⟩ := hrel
          by_cases hlt : k < s.size
          · go_wp2
            all_goals first
              | (go_round
                 case rel => exact ⟨k + 1, by omega, by go_num, all_take s k hlt hr.out (by unfold okc; simp only [beq_iff_eq, decide_eq_true_eq] at *; omega)⟩
                 case measure => simp [intOf]; omega)
              | (go_ret
                 exact ⟨ret_bool (nameB_no _ (all_not s k hlt (by unfold okc; simp only [beq_eq_false_iff_ne, decide_eq_false_iff_not, ne_eq] at *; omega))), rfl⟩)
          · go_wp2
            go_ret
            exact ⟨ret_bool (HN.out (by have := hr.out; rwa [List.take_of_length_le (by rw [len_toList]; omega)] at this)), rfl⟩

end Go.Proofs.YtpbampchhpkpbaaDoor
