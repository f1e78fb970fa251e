/-
  Layer 16 (files): the walk of the law FilesClean.
-/
import Derived.Test.YtpbampchhpkpbaaDoorFilesX
import Derived.Test.YtpbampchhpkpbaaDoorFilesQ
namespace Go.Proofs.YtpbampchhpkpbaaDoor
open Go.RowKit
set_option linter.unusedVariables false

set_option maxHeartbeats 1000000 in
set_option maxRecDepth 100000 in
theorem filesClean_walk (w : World) (a : ByteArray) (w0 : a.size ≤ maxLen) (hG : Glob w) :
    Calls Tryd.prog 3 #[.string a] w fun e w' => e = .returned (.bool true) ∧ Below w.heap.size w w' := by
  unfold maxLen at w0
  by_cases h : 600 < a.size
  · go_enter Tryd.func3, Tryd.ntmps3
    go_wp2_with fail
    refine (awake_any _ hG).mono ?_
    rintro e w1 ⟨rfl, hb⟩
    go_wp2
    go_ret
    exact ⟨rfl, hb⟩
  · have C1 := Lib.hid (clean_any a w (by omega) hG)
    unfold CleanRet at C1
    by_cases h0 : clean a.toList = []
    · rw [h0] at C1
      go_enter Tryd.func3, Tryd.ntmps3
      go_wp2_with fail
      refine C1.out.mono ?_
      rintro e w1 ⟨rfl, hb1⟩
      have C2 := rclean_any a w1 (by omega)
      unfold CleanRet at C2
      rw [h0] at C2
      go_wp2_with fail
      refine C2.mono ?_
      rintro e w2 ⟨rfl, hb2'⟩
      have hb2 := hb1.trans (hb2'.mono hb1.size)
      have hG2 := hG.below hb2 (Nat.le_refl _)
      have e6 : errK [] = 6 := rfl
      have eB : B [] = ⟨#[]⟩ := rfl
      rw [e6, eB]
      clear C1 C2
      go_wp2_with fail
      refine (awake_any _ hG2).mono ?_
      rintro e w3 ⟨rfl, hb3⟩
      go_wp2
      go_ret
      exact ⟨rfl, hb2.trans (hb3.mono hb2.size)⟩
    · have e0 : errK (clean a.toList) = 0 := by unfold errK; rw [if_neg h0]
      have hcc : Hid (clean (clean a.toList) = clean a.toList) := clean_clean _
      have hl200 : (clean a.toList).length ≤ 200 := clean_le _
      rw [e0] at C1
      go_enter Tryd.func3, Tryd.ntmps3
      go_wp2_with fail
      refine C1.out.mono ?_
      rintro e w1 ⟨rfl, hb1⟩
      have C2 := rclean_any a w1 (by omega)
      unfold CleanRet at C2
      rw [e0] at C2
      go_wp2_with fail
      refine C2.mono ?_
      rintro e w2 ⟨rfl, hb2'⟩
      have hb2 := hb1.trans (hb2'.mono hb1.size)
      have hG2 := hG.below hb2 (Nat.le_refl _)
      clear C1 C2
      have C3 := clean_any (B (clean a.toList)) w2 (by rw [B_size]; omega) hG2
      unfold CleanRet at C3
      rw [B_data, hcc.out, e0] at C3
      have hsz : (B (clean a.toList)).size ≤ 200 := by rw [B_size]; exact hl200
      generalize B (clean a.toList) = s at *
      go_wp2_with fail
      refine C3.mono ?_
      rintro e w3 ⟨rfl, hb3'⟩
      have hb3 := hb2.trans (hb3'.mono hb2.size)
      have hG3 := hG.below hb3 (Nat.le_refl _)
      clear C3
      go_wp2_with fail
      refine (awake_any _ hG3).mono ?_
      rintro e w4 ⟨rfl, hb4⟩
      go_wp2
      go_ret
      exact ⟨rfl, hb3.trans (hb4.mono hb3.size)⟩

end Go.Proofs.YtpbampchhpkpbaaDoor
