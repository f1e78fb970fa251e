/-
  Layer 2 (lines): the walk of the law LinesSplit.
-/
import Derived.Test.YtedijdllbfnapaaLinesQ
namespace Go.Proofs.Ytedijdllbfnapaa
open Go.RowKit
set_option linter.unusedVariables false

set_option maxHeartbeats 1000000 in
set_option maxRecDepth 100000 in
theorem linesSplit_walk (w : World) (a0 : ByteArray) (w0 : a0.size ≤ maxLen) :
    Calls Try.prog 3 #[.string a0] w fun e w' => e = .returned (.bool true) ∧ Below w.heap.size w w' := by
  unfold maxLen at w0
  by_cases h : 800 < a0.size
  · go_enter Try.func3, Try.ntmps3
    go_wp2_with (go_at_call 10; refine (awake_any _).mono ?_; rintro e w1 ⟨rfl, hb⟩)
    go_ret
    exact ⟨rfl, hb⟩
  · go_enter Try.func3, Try.ntmps3
    go_wp2_with fail
    with_reducible refine (split_any a0 _ (by omega)).mono ?_
    rintro e w1 ⟨v1, rfl, hown1, hb1⟩
    obtain ⟨A1, c1, rfl, hc1⟩ := own_form hown1
    go_wp2_with fail
    with_reducible refine (rsplit_any a0 _ (by omega)).mono ?_
    rintro e w2 ⟨v2, rfl, hown2, hb2⟩
    obtain ⟨A2, c2, rfl, hc2⟩ := own_form hown2
    go_wp2_with fail
    with_reducible refine (texts_yes A1 A2 _ _ c1 c2 _ _ rfl w2 w2.heap.size (Rd.of_own (own_below hown1 hb2)) (Rd.of_own hown2) (own_len hown1) (own_len hown2)).mono ?_
    rintro e w3 ⟨rfl, hq⟩
    have hB3 : Below w.heap.size w w3 := by obtain ⟨q, rfl⟩ := hq; exact below_drewN (hb1.trans (hb2.mono hb1.size)) q
    clear hq hown1 hown2 hc1 hc2
    go_wp2_with fail
    with_reducible refine (awake_any _).mono ?_
    rintro e w4 ⟨rfl, hb4⟩
    go_wp2
    go_ret
    exact ⟨rfl, hB3.trans (hb4.mono hB3.size)⟩

end Go.Proofs.Ytedijdllbfnapaa
