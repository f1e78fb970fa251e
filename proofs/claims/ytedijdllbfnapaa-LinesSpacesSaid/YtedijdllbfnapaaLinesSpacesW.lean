/-
  Layer 2 (lines): the walk of the law LinesSpaces.
-/
import Derived.Test.YtedijdllbfnapaaLinesQ
namespace Go.Proofs.Ytedijdllbfnapaa
open Go.RowKit
set_option linter.unusedVariables false

set_option maxHeartbeats 1000000 in
set_option maxRecDepth 100000 in
theorem linesSpaces_walk (w : World) (a : ByteArray) (w0 : a.size ≤ maxLen) (n : Int) (w1 : (Lit.int .i64 n).wf = true) :
    Calls Try.prog 7 #[.string a, .int .i64 n] w fun e w' => e = .returned (.bool true) ∧ Below w.heap.size w w' := by
  unfold maxLen at w0
  have b1 := bounds_i64 w1
  clear w1
  by_cases h : 800 < a.size
  · go_enter Try.func7, Try.ntmps7
    go_wp2_with (go_at_call 10; refine (awake_any _).mono ?_; rintro e w1 ⟨rfl, hb⟩)
    go_ret
    exact ⟨rfl, hb⟩
  · have hsz : (B (strip a.toList n)).size ≤ 9223372036854775807 := by rw [B_size, strip, List.length_drop, len_toList]; omega
    have HS := Lib.hid (indent_strip a.toList n)
    have hi : indent a.toList ≤ a.size := by rw [← len_toList]; exact indent_le _
    by_cases hn : 0 < n
    · by_cases hk : n ≤ indent a.toList
      · have hm : min n (indent a.toList : Int) = n := by omega
        go_enter Try.func7, Try.ntmps7
        go_wp2_with fail
        with_reducible refine (indent_any a _ (by omega)).mono ?_
        rintro e w' ⟨rfl, rfl⟩
        go_wp2_with fail
        with_reducible refine (blank_any a _ (by omega)).mono ?_
        rintro e w' ⟨rfl, rfl⟩
        go_wp2_with fail
        with_reducible refine (rblank_any a _ (by omega)).mono ?_
        rintro e w' ⟨rfl, rfl⟩
        have q1 : (blankB a.toList == blankB a.toList) = true := by simp
        go_wp2_with fail
        with_reducible refine (rindent_any a _ (by omega)).mono ?_
        rintro e w' ⟨rfl, rfl⟩
        have q2 : ((indent a.toList : Int) == (indent a.toList : Int)) = true := by simp
        go_wp2_with fail
        with_reducible refine (strip_any a n _ (by omega) b1.1 b1.2).mono ?_
        rintro e w' ⟨rfl, rfl⟩
        go_wp2_with fail
        with_reducible refine (rstrip_any a n _ (by omega) b1.1 b1.2).mono ?_
        rintro e w' ⟨rfl, rfl⟩
        have q3 : ((B (strip a.toList n)).toList == (B (strip a.toList n)).toList) = true := by simp
        go_wp2_with fail
        with_reducible refine (strip_any a n _ (by omega) b1.1 b1.2).mono ?_
        rintro e w' ⟨rfl, rfl⟩
        go_wp2_with fail
        with_reducible refine (indent_any _ _ hsz).mono ?_
        rintro e w' ⟨rfl, rfl⟩
        have q4 : ((indent (B (strip a.toList n)).toList : Int) == (indent a.toList : Int) - n) = true := by rw [B_data, HS.out, beq_iff_eq]; omega
        go_wp2_with fail
        with_reducible refine (awake_any _).mono ?_
        rintro e w1 ⟨rfl, hb⟩
        go_wp2
        go_ret
        exact ⟨rfl, hb⟩
      · have hm : min n (indent a.toList : Int) = indent a.toList := by omega
        go_enter Try.func7, Try.ntmps7
        go_wp2_with fail
        with_reducible refine (indent_any a _ (by omega)).mono ?_
        rintro e w' ⟨rfl, rfl⟩
        go_wp2_with fail
        with_reducible refine (blank_any a _ (by omega)).mono ?_
        rintro e w' ⟨rfl, rfl⟩
        go_wp2_with fail
        with_reducible refine (rblank_any a _ (by omega)).mono ?_
        rintro e w' ⟨rfl, rfl⟩
        have q1 : (blankB a.toList == blankB a.toList) = true := by simp
        go_wp2_with fail
        with_reducible refine (rindent_any a _ (by omega)).mono ?_
        rintro e w' ⟨rfl, rfl⟩
        have q2 : ((indent a.toList : Int) == (indent a.toList : Int)) = true := by simp
        go_wp2_with fail
        with_reducible refine (strip_any a n _ (by omega) b1.1 b1.2).mono ?_
        rintro e w' ⟨rfl, rfl⟩
        go_wp2_with fail
        with_reducible refine (rstrip_any a n _ (by omega) b1.1 b1.2).mono ?_
        rintro e w' ⟨rfl, rfl⟩
        have q3 : ((B (strip a.toList n)).toList == (B (strip a.toList n)).toList) = true := by simp
        go_wp2_with fail
        with_reducible refine (strip_any a n _ (by omega) b1.1 b1.2).mono ?_
        rintro e w' ⟨rfl, rfl⟩
        go_wp2_with fail
        with_reducible refine (indent_any _ _ hsz).mono ?_
        rintro e w' ⟨rfl, rfl⟩
        have q4 : ((indent (B (strip a.toList n)).toList : Int) == (0 : Int)) = true := by rw [B_data, HS.out, beq_iff_eq]; omega
        go_wp2_with fail
        with_reducible refine (awake_any _).mono ?_
        rintro e w1 ⟨rfl, hb⟩
        go_wp2
        go_ret
        exact ⟨rfl, hb⟩
    · skip
      go_enter Try.func7, Try.ntmps7
      go_wp2_with fail
      with_reducible refine (indent_any a _ (by omega)).mono ?_
      rintro e w' ⟨rfl, rfl⟩
      go_wp2_with fail
      with_reducible refine (blank_any a _ (by omega)).mono ?_
      rintro e w' ⟨rfl, rfl⟩
      go_wp2_with fail
      with_reducible refine (rblank_any a _ (by omega)).mono ?_
      rintro e w' ⟨rfl, rfl⟩
      have q1 : (blankB a.toList == blankB a.toList) = true := by simp
      go_wp2_with fail
      with_reducible refine (rindent_any a _ (by omega)).mono ?_
      rintro e w' ⟨rfl, rfl⟩
      have q2 : ((indent a.toList : Int) == (indent a.toList : Int)) = true := by simp
      go_wp2_with fail
      with_reducible refine (strip_any a n _ (by omega) b1.1 b1.2).mono ?_
      rintro e w' ⟨rfl, rfl⟩
      go_wp2_with fail
      with_reducible refine (rstrip_any a n _ (by omega) b1.1 b1.2).mono ?_
      rintro e w' ⟨rfl, rfl⟩
      have q3 : ((B (strip a.toList n)).toList == (B (strip a.toList n)).toList) = true := by simp
      go_wp2_with fail
      with_reducible refine (strip_any a n _ (by omega) b1.1 b1.2).mono ?_
      rintro e w' ⟨rfl, rfl⟩
      go_wp2_with fail
      with_reducible refine (indent_any _ _ hsz).mono ?_
      rintro e w' ⟨rfl, rfl⟩
      have q4 : ((indent (B (strip a.toList n)).toList : Int) == (indent a.toList : Int)) = true := by rw [B_data, HS.out, beq_iff_eq]; omega
      go_wp2_with fail
      with_reducible refine (awake_any _).mono ?_
      rintro e w1 ⟨rfl, hb⟩
      go_wp2
      go_ret
      exact ⟨rfl, hb⟩

end Go.Proofs.Ytedijdllbfnapaa
