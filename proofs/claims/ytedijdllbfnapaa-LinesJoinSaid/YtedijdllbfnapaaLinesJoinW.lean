/-
  Layer 2 (lines): the walk of the law LinesJoin.
-/
import Derived.Test.YtedijdllbfnapaaLinesQ
namespace Go.Proofs.Ytedijdllbfnapaa
open Go.RowKit
set_option linter.unusedVariables false

set_option maxHeartbeats 1000000 in
set_option maxRecDepth 100000 in
theorem linesJoin_walk (w : World) (A : Option Addr) (n c : Nat) (ls : List (List UInt8)) (m0 : n ≤ maxLen) (hx : Rd w w.heap.size 1 A n (strs ls)) :
    Calls Try.prog 4 #[.slice A n c] w fun e w' => e = .returned (.bool true) ∧ Below w.heap.size w w' := by
  unfold maxLen at m0
  have lx := hx.strs_length
  have HL := Lib.hid lx; clear lx
  go_enter Try.func4, Try.ntmps4
  go_wp2_with fail
  with_reducible refine (light_any A n c ls _ hx (by omega)).mono ?_
  rintro e w1 ⟨b, rfl, rfl, hlight⟩
  have HLI := Lib.hid hlight; clear hlight
  cases b with
  | false =>
    go_wp2_with fail
    with_reducible refine (awake_any _).mono ?_
    rintro e w1 ⟨rfl, hb⟩
    go_wp2
    go_ret
    exact ⟨rfl, hb⟩
  | true =>
    have hj : (joinS ls).length ≤ 3000 := by have := HLI.out rfl; rw [joinS_len]; omega
    go_wp2_with fail
    with_reducible refine (join_any A n c ls _ hx (by omega) (by omega)).mono ?_
    rintro e w1 ⟨rfl, hb1⟩
    go_wp2_with fail
    with_reducible refine (rjoin_any A n c ls _ ((hx.below hb1).more hb1.size) (by omega) (by omega)).mono ?_
    rintro e w2 ⟨rfl, hb2⟩
    have hs : ((B (joinS ls)).toList == (B (joinS ls)).toList) = true := by simp
    go_wp2_with fail
    with_reducible refine (awake_any _).mono ?_
    rintro e w3 ⟨rfl, hb3⟩
    go_wp2
    go_ret
    exact ⟨rfl, (hb1.trans (hb2.mono hb1.size)).trans (hb3.mono (Nat.le_trans hb1.size hb2.size))⟩

end Go.Proofs.Ytedijdllbfnapaa
