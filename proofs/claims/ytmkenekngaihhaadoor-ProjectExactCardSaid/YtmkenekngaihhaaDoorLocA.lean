/-
  Layer 28 (locale): languages, endings of ordinal numbers, decimal numbers.
-/
import Derived.Test.YtmkenekngaihhaaDoorMem
import Derived.Lib.ItoaNum
namespace Go.Proofs.YtmkenekngaihhaaDoor
set_option linter.unusedSimpArgs false
open Go.RowKit
set_option linter.unusedVariables false
attribute [local go_sem] B_data B_size

theorem below_alloc (w : World) (o : Obj) : Below w.heap.size w (w.alloc o) := (Below.refl _ _).alloc (Nat.le_refl _) o

/-- the languages, as cells -/
def langC : Array Value := #[.string ⟨#[101, 110]⟩, .string ⟨#[100, 101]⟩, .string ⟨#[102, 114]⟩, .string ⟨#[101, 115]⟩]
theorem langs_any (w : World) : Calls Tryd.prog 25 #[] w fun e w' => e = .returned (.slice (some ⟨w.heap.size, 0, none⟩) 4 4) ∧ w.alloc (.cells langC 9) = w' := by
  go_enter Tryd.func25, Tryd.ntmps25
  go_wp2
  go_ret
  exact ⟨rfl, rfl⟩
end Go.Proofs.YtmkenekngaihhaaDoor
