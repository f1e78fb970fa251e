/-
  Layer 1 (chars), the chapter's: more, three, four, at.
-/
import Derived.Test.YtmkenekngaihhaaDoorMkC
namespace Go.Proofs.YtmkenekngaihhaaDoor
open Go.RowKit
set_option linter.unusedVariables false
set_option linter.unusedSimpArgs false
attribute [local go_sem] B_data B_size

theorem below_alloc (w : World) (o : Obj) : Below w.heap.size w (w.alloc o) := (Below.refl _ _).alloc (Nat.le_refl _) _
end Go.Proofs.YtmkenekngaihhaaDoor
