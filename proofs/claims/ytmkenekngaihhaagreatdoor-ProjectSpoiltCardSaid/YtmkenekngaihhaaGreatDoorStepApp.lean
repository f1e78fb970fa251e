/-
  One element appended to a row of the call's own, as one step of a region that draws.
-/
import Derived.Test.YtmkenekngaihhaaGreatDoorFilesB
import Derived.Deep.RegionLaw
namespace Go.Proofs.YtmkenekngaihhaaGreatDoor
open Go.RowKit Go.Proofs.YtmkenekngaihhaaGreatDoor.Fil
set_option linter.unusedVariables false

/-- One element, of the cells us, appended to a row of the call's own, as one step of a region that draws. -/
theorem step_app {P : Program} {ops : Array Oper} {o : Oper} {a : Act} {K : Act → World → Prop} {Q : Exit → Act → World → Prop} {E : Prop} (hgd : o.guard = none) (s x : Operand) (t : TypeId)
    (ho : o.op = .call { callee := .builtin .append, args := #[s, x], argTypes := #[t, t] })
    (e : TypeId) (z : Value) (sz bytes : Nat) (ht : P.underlying t = some (.slice e)) (hinf : (P.info? e).map (fun i => (i.zero, i.size, i.bytes)) = some (some z, sz, bytes))
    (hzs : z.cells.size = sz) (hsz : 0 < sz) (wr : World) (us : List Value) (hl : us.length = sz) (hu : ∀ u ∈ us, u.oneCell' = true)
    (base : Nat) (v : Value) (n : Nat) (xs : List Value) (hown : wr.ownsRow base e sz v n xs) (hs : a.eval s = v) (hx : a.eval x = .slice (some ⟨wr.heap.size, 0, none⟩) 1 1)
    (hn : n + 1 ≤ 1099511627776) (hbytes : bytes ≤ 128) (hbase : base ≤ wr.heap.size)
    (h : ∀ g cap w', w'.ownsRow base e sz (.slice (some ⟨g, 0, none⟩) (n + 1) cap) (n + 1) (xs ++ us) → wr.grownBy w' v.ownBlock → Below base wr w' → K (a.put o.dst (.slice (some ⟨g, 0, none⟩) (n + 1) cap)) w') :
    if Region.wanted o (yielded ops a.tmps) = true then Oper.wp P o a (wr.alloc (.cells us.toArray e)) K Q else E := by
  obtain ⟨i0, hi, hz0, hz1, hz2⟩ := info_parts hinf
  refine step_append_lies _ hgd s x t ho base e i0 z sz bytes ht hi hz0 hz1 hz2 hzs hsz v n xs hs (hown.alloc _) ⟨wr.heap.size, 0, none⟩ 1 1 us hx (by rw [hl, Nat.one_mul]) ?_ hu (by omega) (by simp only [maxLen]; omega) ?_ (by simp; omega) _ rfl ?_
  · intro j u hj
    have hlt : j < us.length := (List.getElem?_eq_some_iff.1 hj).1
    rw [addr_lit, cell_of_row (wr.alloc (.cells us.toArray e)) wr.heap.size _ us.toArray e (0, 0) (heap_alloc_new wr _)]
    simpa using hj
  · have : (n + 1) * bytes ≤ 1099511627776 * 128 := Nat.mul_le_mul hn hbytes
    omega
  · intro g cap w' h1 h2 _ _
    have hg : wr.grownBy w' v.ownBlock := grown_trans (World.grownBy_alloc wr _ _) h2
    exact h g cap w' h1 hg (below_of_grown hg hbase fun k hk => (hown.lt k hk).1)
end Go.Proofs.YtmkenekngaihhaaGreatDoor
