/-
  Layer 1 (chars): bytes of names and of clean text; the functions on one byte.
-/
import Derived.Test.YtpgpkgpiengmkaaDoorMkQ
import Derived.Test.YtpgpkgpiengmkaaDoorMem
namespace Go.Proofs.YtpgpkgpiengmkaaDoor
open Go.RowKit
set_option linter.unusedVariables false
set_option linter.unusedSimpArgs false
attribute [local go_sem] B_data B_size

/-- the length of a sequence by its first byte -/
def wid (n : Nat) : Nat := if n < 128 then 1 else if n < 194 then 0 else if n ≤ 223 then 2 else if n ≤ 239 then 3 else if n ≤ 244 then 4 else 0
set_option maxRecDepth 100000 in
theorem width_any (n : Nat) (w : World) : Calls Tryd.prog 68 #[.int .u8 (n : Int)] w fun e w' => e = .returned (.int .i64 ((wid n : Nat) : Int)) ∧ w = w' := by
  have HW : Hid (∀ k, k = wid n → k = wid n) := fun _ h => h
  go_enter Tryd.func68, Tryd.ntmps68
  go_wp2
  all_goals
    go_ret
    exact ⟨ret_int (by unfold wid; (repeat' split) <;> first | rfl | omega), rfl⟩
def loB (n : Nat) : Nat := if n = 224 then 160 else if n = 240 then 144 else 128
def hiB (n : Nat) : Nat := if n = 237 then 159 else if n = 244 then 143 else 191
set_option maxRecDepth 100000 in
theorem second_any (n : Nat) (w : World) : Calls Tryd.prog 69 #[.int .u8 (n : Int)] w fun e w' => e = .returned (.tuple #[.int .u8 ((loB n : Nat) : Int), .int .u8 ((hiB n : Nat) : Int)]) ∧ w = w' := by
  have key : ∀ a b, (n = 224 ∧ a = 160 ∧ b = 191) ∨ (n = 237 ∧ a = 128 ∧ b = 159) ∨ (n = 240 ∧ a = 144 ∧ b = 191) ∨ (n = 244 ∧ a = 128 ∧ b = 143) ∨ (n ≠ 224 ∧ n ≠ 237 ∧ n ≠ 240 ∧ n ≠ 244 ∧ a = 128 ∧ b = 191) → a = loB n ∧ b = hiB n := by
    intro a b h
    unfold loB hiB
    rcases h with ⟨rfl, rfl, rfl⟩ | ⟨rfl, rfl, rfl⟩ | ⟨rfl, rfl, rfl⟩ | ⟨rfl, rfl, rfl⟩ | ⟨h1, h2, h3, h4, rfl, rfl⟩
    · decide
    · decide
    · decide
    · decide
    · simp [h1, h2, h3, h4]
  have KEY := Lib.hid key
  clear key
  by_cases h1 : n = 224
  · subst h1
    go_enter Tryd.func69, Tryd.ntmps69
    go_wp2
    go_ret2
    exact ⟨rfl, rfl⟩
  by_cases h2 : n = 237
  · subst h2
    go_enter Tryd.func69, Tryd.ntmps69
    go_wp2
    go_ret2
    exact ⟨rfl, rfl⟩
  by_cases h3 : n = 240
  · subst h3
    go_enter Tryd.func69, Tryd.ntmps69
    go_wp2
    go_ret2
    exact ⟨rfl, rfl⟩
  by_cases h4 : n = 244
  · subst h4
    go_enter Tryd.func69, Tryd.ntmps69
    go_wp2
    go_ret2
    exact ⟨rfl, rfl⟩
  have d1 : ((n : Int) == 224) = false := beq_eq_false_iff_ne.2 (by omega)
  have d2 : ((n : Int) == 237) = false := beq_eq_false_iff_ne.2 (by omega)
  have d3 : ((n : Int) == 240) = false := beq_eq_false_iff_ne.2 (by omega)
  have d4 : ((n : Int) == 244) = false := beq_eq_false_iff_ne.2 (by omega)
  have HE := Lib.hid (KEY.out 128 191 (.inr (.inr (.inr (.inr ⟨h1, h2, h3, h4, rfl, rfl⟩)))))
  clear h1 h2 h3 h4 KEY
  go_enter Tryd.func69, Tryd.ntmps69
  go_wp2
  go_ret2
  exact ⟨by rw [← HE.out.1, ← HE.out.2]; rfl, rfl⟩
/-- a code point that clean text does not have -/
def unclB (c : Int) : Bool := (decide (c < 32) && c != 10) || c == 127
theorem unclean_any (c : Int) (w : World) : Calls Tryd.prog 58 #[.int .i64 c] w fun e w' => e = .returned (.bool (unclB c)) ∧ w = w' := by
  go_enter Tryd.func58, Tryd.ntmps58
  go_wp2
  all_goals
    go_ret
    refine ⟨ret_bool ?_, rfl⟩
    unfold unclB
    rw [Bool.eq_iff_iff]
    simp only [Bool.or_eq_true, Bool.and_eq_true, decide_eq_true_eq, beq_iff_eq, bne_iff_ne, ne_eq, Bool.true_eq_false, Bool.false_eq_true, true_iff, false_iff, not_or, not_and, Decidable.not_not, true_or, or_true]
    omega
theorem rclean_any (c : Int) (w : World) : Calls Tryd.prog 54 #[.int .i64 c] w fun e w' => e = .returned (.bool (!unclB c)) ∧ w = w' := by
  go_enter Tryd.func54, Tryd.ntmps54
  go_wp2
  all_goals
    go_ret
    refine ⟨ret_bool ?_, rfl⟩
    unfold unclB
    rw [Bool.eq_iff_iff]
    simp only [Bool.not_eq_true', Bool.or_eq_false_iff, Bool.and_eq_false_iff, decide_eq_false_iff_not, bne_eq_false_iff_eq, beq_eq_false_iff_ne, Bool.or_eq_true, Bool.and_eq_true, decide_eq_true_eq, beq_iff_eq, bne_iff_ne, ne_eq, Bool.true_eq_false, Bool.false_eq_true, true_iff, false_iff]
    omega
end Go.Proofs.YtpgpkgpiengmkaaDoor
