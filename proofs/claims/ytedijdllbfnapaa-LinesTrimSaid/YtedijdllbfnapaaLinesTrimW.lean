/-
  Layer 2 (lines): the walk of the law LinesTrim.
-/
import Derived.Test.YtedijdllbfnapaaLinesQ
namespace Go.Proofs.Ytedijdllbfnapaa
open Go.RowKit
set_option linter.unusedVariables false

set_option maxHeartbeats 1000000 in
set_option maxRecDepth 100000 in
theorem linesTrim_walk (w : World) (a : ByteArray) (w0 : a.size ≤ maxLen) :
    Calls Try.prog 8 #[.string a] w fun e w' => e = .returned (.bool true) ∧ Below w.heap.size w w' := by
  unfold maxLen at w0
  by_cases h : 800 < a.size
  · go_enter Try.func8, Try.ntmps8
    go_wp2_with (go_at_call 10; refine (awake_any _).mono ?_; rintro e w1 ⟨rfl, hb⟩)
    go_ret
    exact ⟨rfl, hb⟩
  · have hsz : (B (trim a.toList)).size ≤ a.size := by rw [B_size, ← len_toList]; exact trim_le _
    have T1 : Hid (trim (B (trim a.toList)).toList = trim a.toList) := by rw [B_data, trim_trim]; rfl
    have T2 : Hid (trim (⟨#[32]⟩ ++ a ++ ⟨#[32, 32]⟩ : ByteArray).toList = trim a.toList) := by
      have e : (⟨#[32]⟩ ++ a ++ ⟨#[32, 32]⟩ : ByteArray).toList = [32] ++ a.toList ++ [32, 32] :=
        (cat_toList _ ⟨#[32, 32]⟩ [32, 32] (B_data _)).trans (congrArg (· ++ [32, 32]) ((cat_toList ⟨#[32]⟩ a _ rfl).trans (congrArg (· ++ a.toList) (B_data [32]))))
      rw [e, trim_wide]; rfl
    have z1 : (⟨#[32]⟩ : ByteArray).size = 1 := rfl
    have z2 : (⟨#[32, 32]⟩ : ByteArray).size = 2 := rfl
    have q1 : ((B (trim a.toList)).toList == (B (trim a.toList)).toList) = true := by simp
    go_enter Try.func8, Try.ntmps8
    go_wp2_with fail
    with_reducible refine (trim_any a _ (by omega)).mono ?_
    rintro e w' ⟨rfl, rfl⟩
    go_wp2_with fail
    with_reducible refine (rtrim_any a _ (by omega)).mono ?_
    rintro e w' ⟨rfl, rfl⟩
    go_wp2_with fail
    with_reducible refine (trim_any _ _ (by omega)).mono ?_
    rintro e w' ⟨rfl, rfl⟩
    rw [T1.out]
    go_wp2_with fail
    with_reducible refine (trim_any _ _ (by simp; omega)).mono ?_
    rintro e w' ⟨rfl, rfl⟩
    rw [T2.out]
    go_wp2_with fail
    with_reducible refine (awake_any _).mono ?_
    rintro e w1 ⟨rfl, hb⟩
    go_wp2
    go_ret
    exact ⟨rfl, hb⟩

end Go.Proofs.Ytedijdllbfnapaa
