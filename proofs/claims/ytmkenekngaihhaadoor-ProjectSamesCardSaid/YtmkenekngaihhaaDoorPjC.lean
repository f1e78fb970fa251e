/-
  Layer 49 (project): the errors of variables, flags and targets: the chapter's.
-/
import Derived.Test.YtmkenekngaihhaaDoorPjB
namespace Go.Proofs.YtmkenekngaihhaaDoor
open Go.RowKit
set_option linter.unusedVariables false
set_option linter.unusedSimpArgs false
attribute [local go_sem] B_data B_size

def IPost (r : Int) (w : World) (e : Ending) (w' : World) : Prop := e = .returned (.int .i64 r) ∧ Below w.heap.size w w'
theorem mem_getD {l : List (List UInt8)} {t j : Nat} (h : t < j) (hl : t < l.length) : l.getD t [] ∈ l.take j := by
  have e : l[t]? = some l[t] := List.getElem?_eq_getElem hl
  rw [List.getD_eq_getElem?_getD, e]
  refine List.mem_of_getElem? (i := t) ?_
  rw [List.getElem?_take, if_pos h, e]; rfl
theorem take_getD {l : List (List UInt8)} {t : Nat} (hl : t < l.length) : l.take (t + 1) = l.take t ++ [l.getD t []] := by
  rw [List.take_succ_eq_append_getElem hl, List.getD_eq_getElem?_getD, List.getElem?_eq_getElem hl]; rfl
end Go.Proofs.YtmkenekngaihhaaDoor
