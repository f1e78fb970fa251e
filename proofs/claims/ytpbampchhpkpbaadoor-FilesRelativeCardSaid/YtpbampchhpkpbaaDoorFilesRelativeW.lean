/-
  Layer 16 (files): the walk of the law FilesRelative.
-/
import Derived.Test.YtpbampchhpkpbaaDoorFilesX
import Derived.Test.YtpbampchhpkpbaaDoorFilesQ
import Derived.Test.YtpbampchhpkpbaaDoorFilesH
namespace Go.Proofs.YtpbampchhpkpbaaDoor
open Go.RowKit
set_option linter.unusedVariables false

theorem rel_size (a b : List UInt8) : (relL (clean a) (clean b)).length ≤ 990000 := by
  have ha := clean_le a
  have hb := clean_le b
  have pa := parts_sum (clean a) _ rfl
  have pb := parts_sum (clean b) _ rfl
  obtain ⟨c, h1, h2⟩ := stripC_common ((parts (clean a)).take ((clean a).count 47)) ((parts (clean b)).take ((clean b).count 47))
  have r1 := congrArg List.length h1
  have r2 := congrArg room h2
  rw [List.length_append, List.length_take] at r1
  rw [room_append] at r2
  have r3 := room_take (parts (clean b)) ((clean b).count 47)
  have r4 := room_getD (parts (clean b)) ((clean b).count 47)
  have r5 : room (parts (clean b)) = (clean b).length + 1 := pb
  unfold relL relR
  rw [List.length_append, List.length_append, ups_len, slashed_len]
  omega

set_option maxHeartbeats 1000000 in
set_option maxRecDepth 100000 in
theorem filesRelative_walk (w : World) (a : ByteArray) (w0 : a.size ≤ maxLen) (b : ByteArray) (w1 : b.size ≤ maxLen) (hG : Glob w) :
    Calls Tryd.prog 5 #[.string a, .string b] w fun e w' => e = .returned (.bool true) ∧ Below w.heap.size w w' := by
  unfold maxLen at w0 w1
  by_cases h : 400 < a.size
  · go_enter Tryd.func5, Tryd.ntmps5
    go_wp2_with fail
    refine (awake_any _ hG).mono ?_
    rintro e w1 ⟨rfl, hb⟩
    go_wp2
    go_ret
    exact ⟨rfl, hb⟩
  by_cases h' : 400 < b.size
  · go_enter Tryd.func5, Tryd.ntmps5
    go_wp2_with fail
    refine (awake_any _ hG).mono ?_
    rintro e w1 ⟨rfl, hb⟩
    go_wp2
    go_ret
    exact ⟨rfl, hb⟩
  · have C1 := Lib.hid (relative_any a b w (by omega) (by omega) hG)
    by_cases h0 : clean a.toList = [] ∨ clean b.toList = []
    · rw [← relRet_no h0] at C1
      go_enter Tryd.func5, Tryd.ntmps5
      go_wp2_with fail
      refine C1.out.mono ?_
      rintro e w1 ⟨rfl, hb1⟩
      have C2 := rrelative_any a b w1 (by omega) (by omega)
      rw [← relRet_no h0] at C2
      clear C1 h0
      go_wp2_with fail
      refine C2.mono ?_
      rintro e w2 ⟨rfl, hb2'⟩
      have hb2 := hb1.trans (hb2'.mono hb1.size)
      have hG2 := hG.below hb2 (Nat.le_refl _)
      clear C2
      go_wp2_with fail
      refine (awake_any _ hG2).mono ?_
      rintro e w3 ⟨rfl, hb3⟩
      go_wp2
      go_ret
      exact ⟨rfl, hb2.trans (hb3.mono hb2.size)⟩
    · have ha : ¬ clean a.toList = [] := fun h => h0 (.inl h)
      have hb : ¬ clean b.toList = [] := fun h => h0 (.inr h)
      have HJ := Lib.hid (rel_leads a.toList b.toList ha hb)
      have hrs := Lib.hid (rel_size a.toList b.toList)
      rw [relRet_yes ha hb] at C1
      go_enter Tryd.func5, Tryd.ntmps5
      go_wp2_with fail
      refine C1.out.mono ?_
      rintro e w1 ⟨rfl, hb1⟩
      have C2 := rrelative_any a b w1 (by omega) (by omega)
      rw [relRet_yes ha hb] at C2
      clear C1
      go_wp2_with fail
      refine C2.mono ?_
      rintro e w2 ⟨rfl, hb2'⟩
      have hb2 := hb1.trans (hb2'.mono hb1.size)
      have hG2 := hG.below hb2 (Nat.le_refl _)
      clear C2
      have C3 := fjoin_any a (B (relL (clean a.toList) (clean b.toList))) w2 (by omega) (by rw [B_size]; exact hrs.out) hG2
      have e0 : errK (clean b.toList) = 0 := by unfold errK; rw [if_neg hb]
      unfold PairRet at C3
      rw [B_data, HJ.out, e0] at C3
      clear HJ hrs
      generalize B (relL (clean a.toList) (clean b.toList)) = s at *
      go_wp2_with fail
      refine C3.mono ?_
      rintro e w3 ⟨rfl, hb3'⟩
      have hb3 := hb2.trans (hb3'.mono hb2.size)
      have hG3 := hG.below hb3 (Nat.le_refl _)
      have C4 := rclean_any b w3 (by omega)
      unfold CleanRet at C4
      rw [e0] at C4
      clear C3 e0 ha hb h0
      generalize B (clean b.toList) = t at *
      go_wp2_with fail
      refine C4.mono ?_
      rintro e w4 ⟨rfl, hb4'⟩
      have hb4 := hb3.trans (hb4'.mono hb3.size)
      have hG4 := hG.below hb4 (Nat.le_refl _)
      clear C4
      go_wp2_with fail
      refine (awake_any _ hG4).mono ?_
      rintro e w5 ⟨rfl, hb5⟩
      go_wp2
      go_ret
      exact ⟨rfl, hb4.trans (hb5.mono hb4.size)⟩

end Go.Proofs.YtpbampchhpkpbaaDoor
