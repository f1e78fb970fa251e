/-
  Layer 1 (chars), the chapter's: Points, Valid.
-/
import Derived.Test.YtmkenekngaihhaaDoorMkE
namespace Go.Proofs.YtmkenekngaihhaaDoor
open Go.RowKit
set_option linter.unusedVariables false
set_option linter.unusedSimpArgs false
attribute [local go_sem] B_data B_size

def BPost (r : Bool) (w : World) (e : Ending) (w' : World) : Prop := e = .returned (.bool r) ∧ Below w.heap.size w w'
end Go.Proofs.YtmkenekngaihhaaDoor
