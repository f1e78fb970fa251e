/-
  Layer 33 (markup): Text, the chapter's.
-/
import Derived.Test.YtejjidbodfoiiaaGreatDoorMkM
import Derived.Test.YtejjidbodfoiiaaGreatDoorMkKL
import Derived.Test.YtejjidbodfoiiaaGreatDoorMkI
namespace Go.Proofs.YtejjidbodfoiiaaGreatDoor
open Go.RowKit
set_option linter.unusedVariables false
set_option linter.unusedSimpArgs false
attribute [local go_sem] B_data B_size
attribute [local go_sem ↓] Go.wp_at_zero Go.wp_at_succ

/-- what is known while memory is made: from the world w on, and since the world W0 -/
structure KI (w W0 : World) (W : World) : Prop where
  b : Below w.heap.size w W
  kp : ∀ (k : Nat) (o : Obj), W0.heap[k]? = some o → W.heap[k]? = some o
theorem KI.step {w W0 W w' : World} (h : KI w W0 W) (hb : Below W.heap.size W w') : KI w W0 w' :=
  ⟨h.b.trans (hb.mono h.b.size), fun k o ho => by
    have := h.kp k o ho
    exact (hb.block k (Array.getElem?_eq_some_iff.1 this).1).trans this⟩
theorem KI.cell {w W0 W : World} (h : KI w W0 W) {p : Addr} {v : Value} (hc : W0.cell? p = some v) : W.cell? p = some v := by
  have hlt := World.block_lt_of_cell? W0 _ hc
  have e := h.kp p.block W0.heap[p.block] (Array.getElem?_eq_getElem hlt)
  have e2 : W.heap[p.block]? = W0.heap[p.block]? := by rw [e, Array.getElem?_eq_getElem hlt]
  unfold World.cell? at hc ⊢
  rw [e2]; exact hc
end Go.Proofs.YtejjidbodfoiiaaGreatDoor
