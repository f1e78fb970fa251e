/-
  Layer 28 (locale): languages, endings of ordinal numbers, decimal numbers.
-/
import Derived.Test.YtmkenekngaihhaaGreatDoorMem
import Derived.Lib.ItoaNum
namespace Go.Proofs.YtmkenekngaihhaaGreatDoor
open Go.RowKit
set_option linter.unusedVariables false
attribute [local go_sem] B_data B_size

/-- the languages, as cells -/
def langC : Array Value := #[.string ⟨#[101, 110]⟩, .string ⟨#[100, 101]⟩, .string ⟨#[102, 114]⟩, .string ⟨#[101, 115]⟩]
theorem rlangs_any (w : World) : Calls Tryz.prog 54 #[] w fun e w' => e = .returned (.slice (some ⟨w.heap.size, 0, none⟩) 4 4) ∧ w.alloc (.cells langC 9) = w' := by
  go_enter Tryz.func54, Tryz.ntmps54
  go_wp2
  go_ret
  exact ⟨rfl, rfl⟩
theorem langs_any (w : World) : Calls Tryz.prog 19 #[] w fun e w' => e = .returned (.slice (some ⟨w.heap.size, 0, none⟩) 4 4) ∧ w.alloc (.cells langC 9) = w' := by
  go_enter Tryz.func19, Tryz.ntmps19
  go_wp2
  go_ret
  exact ⟨rfl, rfl⟩
end Go.Proofs.YtmkenekngaihhaaGreatDoor
