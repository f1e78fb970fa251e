/-
  Layer 48 (graph): New; a nil graph.
-/
import Derived.Test.YtbikldmhfaecpaaGrK
namespace Go.Proofs.Ytbikldmhfaecpaa
open Go.RowKit
set_option linter.unusedVariables false
set_option linter.unusedSimpArgs false
attribute [local go_sem] B_data B_size

/-- an empty graph -/
def emptyC : Array Value := #[.map none, .map none, .map none, .int .i64 0, .int .i64 0]
theorem Gr.new {own : Own} {id : Nat} (w : World) (hf : ∀ b, w.heap.size ≤ b → own b = none) : Gr (tagO own w.heap.size (id, .g)) id w.heap.size GS.new (w.alloc (.cells #[.map none, .map none, .map none, .int .i64 0, .int .i64 0] 49)) := by
  refine ⟨none, none, none, fun _ => ⟨0, none, 0⟩, fun _ => [], ⟨by unfold tagO; rw [if_pos rfl], heap_alloc_new w _, fun _ => rfl, fun b e => (by cases e), fun _ => rfl, fun b e => (by cases e), Iff.rfl, fun _ _ => rfl, fun b e => (by cases e), fun r hr => (by cases hr), by simp [GS.new], fun b hb => ?_⟩, fun n => rfl⟩
  simp at hb
  unfold tagO
  rw [if_neg (by omega)]
  exact hf b (by omega)
theorem GI.new (R : Nat) : GI R GS.new := ⟨fun n v h => (by cases h), by simp [GS.new], by simp [GS.new], by simp [GS.new], by simp [GS.new], by simp [GS.new], by simp [GS.new]⟩
set_option maxRecDepth 100000 in
theorem new_any (w : World) : Calls Try.prog 11 #[] w fun e w' => e = .returned (.pointer (some ⟨w.heap.size, 0, none⟩)) ∧ w' = w.alloc (.cells #[.map none, .map none, .map none, .int .i64 0, .int .i64 0] 49) := by
  go_enter Try.func11, Try.ntmps11
  go_wp2
  go_ret
  exact ⟨rfl, rfl⟩
set_option maxRecDepth 100000 in
theorem get_nil (n : Nm) (w : World) : Calls Try.prog 17 #[.pointer none, .string (B n)] w fun e w' => e = .returned (ResV ([], 1)) ∧ w' = w := by
  go_enter Try.func17, Try.ntmps17
  go_wp2
  unfold ResV
  go_ret2
  exact ⟨rfl, rfl⟩
set_option maxRecDepth 100000 in
theorem set_nil (n v : Nm) (w : World) : Calls Try.prog 13 #[.pointer none, .string (B n), .string (B v)] w fun e w' => e = .returned (.int .i64 1) ∧ w' = w := by
  go_enter Try.func13, Try.ntmps13
  go_wp2
  go_ret
  exact ⟨rfl, rfl⟩
set_option maxRecDepth 100000 in
theorem rule_nil (n : Nm) (a f : Value) (w : World) : Calls Try.prog 24 #[.pointer none, .string (B n), a, f] w fun e w' => e = .returned (.int .i64 1) ∧ w' = w := by
  go_enter Try.func24, Try.ntmps24
  go_wp2
  go_ret
  exact ⟨rfl, rfl⟩
set_option maxRecDepth 100000 in
theorem runs_nil (w : World) : Calls Try.prog 19 #[.pointer none] w fun e w' => e = .returned (.int .i64 0) ∧ w' = w := by
  go_enter Try.func19, Try.ntmps19
  go_wp2
  go_ret
  exact ⟨rfl, rfl⟩
set_option maxRecDepth 100000 in
theorem stale_nil (w : World) : Calls Try.prog 22 #[.pointer none] w fun e w' => e = .returned (.slice none 0 0) ∧ w' = w := by
  go_enter Try.func22, Try.ntmps22
  go_wp2
  go_ret
  exact ⟨rfl, rfl⟩
end Go.Proofs.Ytbikldmhfaecpaa
