/-
  Layer 2 (lines): small facts for the walks of the laws.
-/
import Derived.Test.YtedijdllbfnapaaLinesP
namespace Go.Proofs.Ytedijdllbfnapaa
open Go.RowKit
set_option linter.unusedVariables false

theorem cat_toList (a b : ByteArray) (l : List UInt8) (h : b.toList = l) : (a ++ b).toList = a.toList ++ l := by
  rw [← h, ByteArray.toList_eq, ByteArray.toList_eq, ByteArray.toList_eq]; simp
theorem dropWhile_len (p : UInt8 → Bool) (l : List UInt8) : (l.dropWhile p).length ≤ l.length := (List.dropWhile_sublist p).length_le
theorem trim_le (l : List UInt8) : (trim l).length ≤ l.length := by
  rw [trim_eq, rtrim, List.length_reverse]
  have := dropWhile_len (· == 32) (l.dropWhile (· == 32)).reverse
  have := dropWhile_len (· == 32) l
  rw [List.length_reverse] at *; omega
end Go.Proofs.Ytedijdllbfnapaa
