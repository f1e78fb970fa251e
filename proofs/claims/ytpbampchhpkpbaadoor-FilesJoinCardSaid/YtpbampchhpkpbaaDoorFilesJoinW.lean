/-
  Layer 16 (files): the walk of the law FilesJoin.
-/
import Derived.Test.YtpbampchhpkpbaaDoorFilesX
import Derived.Test.YtpbampchhpkpbaaDoorFilesQ
namespace Go.Proofs.YtpbampchhpkpbaaDoor
open Go.RowKit
set_option linter.unusedVariables false

set_option maxHeartbeats 1000000 in
set_option maxRecDepth 100000 in
theorem filesJoin_walk (w : World) (a : ByteArray) (w0 : a.size ≤ maxLen) (b : ByteArray) (w1 : b.size ≤ maxLen) (hG : Glob w) :
    Calls Tryd.prog 4 #[.string a, .string b] w fun e w' => e = .returned (.bool true) ∧ Below w.heap.size w w' := by
  unfold maxLen at w0 w1
  by_cases h : 400 < a.size
  · go_enter Tryd.func4, Tryd.ntmps4
    go_wp2_with fail
    refine (awake_any _ hG).mono ?_
    rintro e w1 ⟨rfl, hb⟩
    go_wp2
    go_ret
    exact ⟨rfl, hb⟩
  by_cases h' : 400 < b.size
  · go_enter Tryd.func4, Tryd.ntmps4
    go_wp2_with fail
    refine (awake_any _ hG).mono ?_
    rintro e w1 ⟨rfl, hb⟩
    go_wp2
    go_ret
    exact ⟨rfl, hb⟩
  · have C1 := Lib.hid (fjoin_any a b w (by omega) (by omega) hG)
    unfold PairRet at C1
    go_enter Tryd.func4, Tryd.ntmps4
    go_wp2_with fail
    refine C1.out.mono ?_
    rintro e w1 ⟨rfl, hb1⟩
    have hG1 := hG.below hb1 (Nat.le_refl _)
    have C2 := rfjoin_any a b w1 (by omega) (by omega) hG1
    unfold PairRet at C2
    clear C1
    generalize B (joinF a.toList b.toList) = s at *
    generalize errK (joinF a.toList b.toList) = k at *
    go_wp2_with fail
    refine C2.mono ?_
    rintro e w2 ⟨rfl, hb2'⟩
    have hb2 := hb1.trans (hb2'.mono hb1.size)
    have hG2 := hG.below hb2 (Nat.le_refl _)
    clear C2
    go_wp2_with fail
    refine (awake_any _ hG2).mono ?_
    rintro e w3 ⟨rfl, hb3⟩
    go_wp2
    go_ret
    exact ⟨rfl, hb2.trans (hb3.mono hb2.size)⟩

end Go.Proofs.YtpbampchhpkpbaaDoor
