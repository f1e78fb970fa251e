/-
  Layer 35 (archive): the statements' same, at two equal lists.
-/
import Derived.Test.YtofbcblhpflleaaDoorArcS
namespace Go.Proofs.YtofbcblhpflleaaDoor
open Go.RowKit
set_option linter.unusedVariables false
attribute [local go_sem] B_data B_size

theorem file_neq (a b : ByteArray) (W : World) : (binOp .neq 35 (.agg #[.string a, .string b]) (.agg #[.string a, .string b])).run Tryd.prog W = .ok (.bool false) W := by
  have u3 := Tryd.underlying9
  go_simp
set_option maxHeartbeats 4000000 in
set_option maxRecDepth 100000 in
theorem same_eq (A A' : Option Addr) (n c c' : Nat) (fs : List (List UInt8 × List UInt8)) (w : World) (hx : Rd w w.heap.size 2 A n (fls fs)) (hy : Rd w w.heap.size 2 A' n (fls fs)) (hn : n ≤ 1000000) :
    Calls Tryd.prog 17 #[.slice A n c, .slice A' n c'] w fun e w' => e = .returned (.bool true) ∧ Below w.heap.size w w' := by
  have hq := file_neq
  have hnn : ((n : Int) != (n : Int)) = false := by simp
  go_enter Tryd.func17, Tryd.ntmps17
  go_wp2
  go_loopw [5] (fun i wr => ∃ k : Nat, k ≤ n ∧ i = .int .i64 k ∧ Below w.heap.size w wr) (fun i _ => n - (intOf i).toNat)
  case atStart => exact ⟨0, Nat.zero_le _, rfl, Below.refl _ _⟩
  case round =>
    obtain ⟨k, hk, rfl, hbw⟩ := hrel
    by_cases hlt : k < n
    · obtain ⟨b, o, rfl, hb, h0, h1⟩ := (hx.below hbw).file hlt
      obtain ⟨b', o', rfl, hb', h0', h1'⟩ := (hy.below hbw).file hlt
      generalize fs[k]?.getD ([], []) = f at *
      have i1 : (k : Int) < (n : Int) := by omega
      have i2 : (0 : Int) ≤ (k : Int) := by omega
      go_wp2
      go_quiet (fail)
      go_wp2
      go_roundw
      case rel => exact ⟨k + 1, by omega, by go_num, below_drewN hbw _⟩
      case measure => simp [intOf]; omega
    · go_wp2
      go_ret
      exact ⟨rfl, hbw⟩
end Go.Proofs.YtofbcblhpflleaaDoor
