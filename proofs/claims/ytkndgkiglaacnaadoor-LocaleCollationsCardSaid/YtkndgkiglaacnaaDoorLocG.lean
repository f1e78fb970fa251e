/-
  Layer 28 (locale): a struct of two slices in memory; one element appended to a row inside a region that draws.
-/
import Derived.Test.YtkndgkiglaacnaaDoorLocF
import Derived.Deep.RegionLaw
import Derived.Laws.Cover4
namespace Go.Proofs.YtkndgkiglaacnaaDoor
set_option linter.unusedSimpArgs false
open Go.RowKit
set_option linter.unusedVariables false
attribute [local go_sem] B_data B_size

/-- a struct of two slices and an empty text -/
def Two (w : World) (b : Nat) (x y : Value) (t : TypeId) : Prop := w.heap[b]? = some (.cells #[x, y, .string ⟨#[]⟩] t (0, 0))
section
variable {w w' : World} {b : Nat} {x y : Value} {t : TypeId}
theorem Two.lt (h : Two w b x y t) : b < w.heap.size := (Array.getElem?_eq_some_iff.1 h).1
theorem Two.cell0 (h : Two w b x y t) : w.cell? ⟨b, 0, none⟩ = some x := by unfold Two at h; simp [World.cell?, h]
theorem Two.cell1 (h : Two w b x y t) : w.cell? ⟨b, 1, none⟩ = some y := by unfold Two at h; simp [World.cell?, h]
theorem Two.free (h : Two w b x y t) (i : Nat) : w.frozen? ⟨b, i, none⟩ = false := by unfold Two at h; simp [World.frozen?, h]
theorem Two.set0 (h : Two w b x y t) (u : Value) : Two (w.setCell ⟨b, 0, none⟩ u) b u y t := by
  unfold Two at h ⊢; simp [World.setCell, Array.getElem?_modify, h]
theorem Two.set1 (h : Two w b x y t) (u : Value) : Two (w.setCell ⟨b, 1, none⟩ u) b x u t := by
  unfold Two at h ⊢; simp [World.setCell, Array.getElem?_modify, h]
theorem Two.other (h : Two w b x y t) {c i : Nat} (hc : c ≠ b) (u : Value) : Two (w.setCell ⟨c, i, none⟩ u) b x y t := by
  unfold Two World.setCell at *
  simp only
  rw [Array.getElem?_modify, if_neg hc]
  exact h
theorem Two.below (h : Two w b x y t) {M : Nat} (hb : Below M w w') (hM : b < M) : Two w' b x y t := (hb.block b hM).trans h
theorem Two.grown (h : Two w b x y t) {row : Option Nat} (hg : w.grownBy w' row) (hne : some b ≠ row) : Two w' b x y t := (hg.block b h.lt hne).trans h
theorem Two.alloc (h : Two w b x y t) (o : Obj) : Two (w.alloc o) b x y t := h.below (below_alloc w o) h.lt
theorem Two.drew (h : Two w b x y t) : Two w.drew b x y t := h
end
/-- One element, of the cells us, appended to a row of the call's own, as one step of a region that draws. -/
theorem step_app {P : Program} {ops : Array Oper} {o : Oper} {a : Act} {K : Act → World → Prop} {Q : Exit → Act → World → Prop} {E : Prop} (hgd : o.guard = none) (s x : Operand) (t : TypeId)
    (ho : o.op = .call { callee := .builtin .append, args := #[s, x], argTypes := #[t, t] })
    (e : TypeId) (z : Value) (sz bytes : Nat) (ht : P.underlying t = some (.slice e)) (hinf : (P.info? e).map (fun i => (i.zero, i.size, i.bytes)) = some (some z, sz, bytes))
    (hzs : z.cells.size = sz) (hsz : 0 < sz) (wr : World) (us : List Value) (hl : us.length = sz) (hu : ∀ u ∈ us, u.oneCell' = true)
    (base : Nat) (v : Value) (n : Nat) (xs : List Value) (hown : wr.ownsRow base e sz v n xs) (hs : a.eval s = v) (hx : a.eval x = .slice (some ⟨wr.heap.size, 0, none⟩) 1 1)
    (hn : n + 1 ≤ 1099511627776) (hbytes : bytes ≤ 128) (hbase : base ≤ wr.heap.size)
    (h : ∀ g cap w', w'.ownsRow base e sz (.slice (some ⟨g, 0, none⟩) (n + 1) cap) (n + 1) (xs ++ us) → wr.grownBy w' v.ownBlock → Below base wr w' → K (a.put o.dst (.slice (some ⟨g, 0, none⟩) (n + 1) cap)) w') :
    if Region.wanted o (yielded ops a.tmps) = true then Oper.wp P o a (wr.alloc (.cells us.toArray e)) K Q else E := by
  obtain ⟨i0, hi, hz0, hz1, hz2⟩ := info_parts hinf
  refine step_append_lies _ hgd s x t ho base e i0 z sz bytes ht hi hz0 hz1 hz2 hzs hsz v n xs hs (hown.alloc _) ⟨wr.heap.size, 0, none⟩ 1 1 us hx (by rw [hl, Nat.one_mul]) ?_ hu (by omega) (by simp only [maxLen]; omega) ?_ (by simp; omega) _ rfl ?_
  · intro j u hj
    have hlt : j < us.length := (List.getElem?_eq_some_iff.1 hj).1
    rw [addr_lit, cell_of_row (wr.alloc (.cells us.toArray e)) wr.heap.size _ us.toArray e (0, 0) (heap_alloc_new wr _)]
    simpa using hj
  · have : (n + 1) * bytes ≤ 1099511627776 * 128 := Nat.mul_le_mul hn hbytes
    omega
  · intro g cap w' h1 h2 _ _
    have hg : wr.grownBy w' v.ownBlock := grown_trans (World.grownBy_alloc wr _ _) h2
    exact h g cap w' h1 hg (below_of_grown hg hbase fun k hk => (hown.lt k hk).1)

abbrev nilS : Value := .slice none 0 0
def digT : List (List UInt8) := [[48], [49], [50], [51], [52], [53], [54], [55], [56], [57]]
theorem dig_at (k : Nat) (h : k < 10) : Lib.decDigits k = digT.getD k [] := by
  rw [dec_small k h]
  have : k = 0 ∨ k = 1 ∨ k = 2 ∨ k = 3 ∨ k = 4 ∨ k = 5 ∨ k = 6 ∨ k = 7 ∨ k = 8 ∨ k = 9 := by omega
  rcases this with rfl | rfl | rfl | rfl | rfl | rfl | rfl | rfl | rfl | rfl <;> rfl
theorem strs_takeSnoc (L : List (List UInt8)) (k : Nat) (h : k < L.length) : strs (L.take k) ++ [.string (B (L.getD k []))] = strs (L.take (k + 1)) := by
  rw [take_getC L k h, strs_snoc]
/-- a collation that is being made: c at block w0.heap.size + 1, its result at block w0.heap.size -/
def Coll (w0 : World) (n : Nat) (L : List (List UInt8)) (v : Value) (w : World) : Prop :=
  Two w (w0.heap.size + 1) nilS v 42 ∧ w.ownsRow (w0.heap.size + 2) 9 1 v n (strs L) ∧ Two w w0.heap.size nilS nilS 42 ∧ Below w0.heap.size w0 w
theorem Coll.start (w0 : World) : Coll w0 0 [] nilS ((w0.alloc (.cells #[nilS, nilS, .string ⟨#[]⟩] 42)).alloc (.cells #[nilS, nilS, .string ⟨#[]⟩] 42)) := by
  have h1 : Two (w0.alloc (.cells #[nilS, nilS, .string ⟨#[]⟩] 42)) w0.heap.size nilS nilS 42 := heap_alloc_new w0 _
  have h2 := heap_alloc_new (w0.alloc (.cells #[nilS, nilS, .string ⟨#[]⟩] 42)) (.cells #[nilS, nilS, .string ⟨#[]⟩] 42)
  rw [show (w0.alloc (.cells #[nilS, nilS, .string ⟨#[]⟩] 42)).heap.size = w0.heap.size + 1 from by simp] at h2
  exact ⟨h2, ⟨rfl, .inl ⟨rfl, rfl⟩⟩, h1.alloc _, ((Below.refl _ _).alloc (Nat.le_refl _) _).alloc (by simp) _⟩
theorem Coll.below {w0 w w' : World} {n : Nat} {L : List (List UInt8)} {v : Value} (h : Coll w0 n L v w) (hb : Below w.heap.size w w') : Coll w0 n L v w' :=
  ⟨h.1.below hb h.1.lt, own_below h.2.1 hb, h.2.2.1.below hb h.2.2.1.lt, h.2.2.2.trans (hb.mono h.2.2.2.size)⟩
theorem Coll.row {w0 w w' : World} {n : Nat} {L : List (List UInt8)} {v : Value} (h : Coll w0 n L v w) (hg : w.grownBy w' v.ownBlock) : Two w' (w0.heap.size + 1) nilS v 42 :=
  h.1.grown hg (fun e => by have := (h.2.1.lt _ e.symm).1; omega)
theorem Coll.store {w0 w w' : World} {n : Nat} {L : List (List UInt8)} {v : Value} {g cap : Nat} {x : List UInt8} (h : Coll w0 n L v w) (ho : w'.ownsRow (w0.heap.size + 2) 9 1 (.slice (some ⟨g, 0, none⟩) (n + 1) cap) (n + 1) (strs L ++ [.string (B x)])) (hg : w.grownBy w' v.ownBlock) :
    Coll w0 (n + 1) (L ++ [x]) (.slice (some ⟨g, 0, none⟩) (n + 1) cap) (w'.setCell ⟨w0.heap.size + 1, 1, none⟩ (.slice (some ⟨g, 0, none⟩) (n + 1) cap)) := by
  obtain ⟨h1, h2, h3, h4⟩ := h
  have n1 : some (w0.heap.size + 1) ≠ v.ownBlock := fun e => by have := (h2.lt _ e.symm).1; omega
  have n2 : some w0.heap.size ≠ v.ownBlock := fun e => by have := (h2.lt _ e.symm).1; omega
  have hgb : w0.heap.size + 2 ≤ g := (ho.lt g rfl).1
  refine ⟨(h1.grown hg n1).set1 _, ?_, (h3.grown hg n2).other (by omega) _, (h4.grown hg h4.size (fun k hk => by have := (h2.lt k hk).1; omega)).setCell (p := ⟨w0.heap.size + 1, 1, none⟩) (by show _ ≤ w0.heap.size + 1; omega) _⟩
  rw [strs_snoc] at ho
  exact ownsRow_setCell_other ho (by show some g ≠ some (w0.heap.size + 1); intro e; injection e; omega) _
theorem own_some {w : World} {base e sz n : Nat} {v : Value} {xs : List Value} (h : w.ownsRow base e sz v (n + 1) xs) : ∃ g cap, v = .slice (some ⟨g, 0, none⟩) (n + 1) cap := by
  rcases h.2 with ⟨_, h0⟩ | ⟨g, cap, cur, rfl, _⟩
  · omega
  · exact ⟨g, cap, rfl⟩
/-- a letter, the small one and the capital one -/
def letL (k : Nat) : List UInt8 := [UInt8.ofNat (97 + k), UInt8.ofNat (65 + k)]
theorem runes_let (k : Nat) (h : k < 26) : runesBytes [97 + (k : Int), 97 + (k : Int) - 97 + 65] = B (letL k) := by
  have : k = 0 ∨ k = 1 ∨ k = 2 ∨ k = 3 ∨ k = 4 ∨ k = 5 ∨ k = 6 ∨ k = 7 ∨ k = 8 ∨ k = 9 ∨ k = 10 ∨ k = 11 ∨ k = 12 ∨ k = 13 ∨ k = 14 ∨ k = 15 ∨ k = 16 ∨ k = 17 ∨ k = 18 ∨ k = 19 ∨ k = 20 ∨ k = 21 ∨ k = 22 ∨ k = 23 ∨ k = 24 ∨ k = 25 := by omega
  rcases this with rfl | rfl | rfl | rfl | rfl | rfl | rfl | rfl | rfl | rfl | rfl | rfl | rfl | rfl | rfl | rfl | rfl | rfl | rfl | rfl | rfl | rfl | rfl | rfl | rfl | rfl <;> (show _ = _; kernel_rfl)
theorem conv_let (k : Nat) (h : k < 26) (W : World) : (convert 63 9 (.slice (some ⟨W.heap.size, 0, none⟩) 2 2)).run Tryd.prog (W.alloc (.cells #[.int .i32 (97 + (k : Int)), .int .i32 (97 + (k : Int) - 97 + 65)] 21)) = .ok (.string (B (letL k))) (W.alloc (.cells #[.int .i32 (97 + (k : Int)), .int .i32 (97 + (k : Int) - 97 + 65)] 21)) := by
  rw [run_convert_runes _ 63 9 21 ⟨W.heap.size, 0, none⟩ 2 2 [97 + (k : Int), 97 + (k : Int) - 97 + 65] (by simp) Tryd.underlying63 Tryd.underlying21 Tryd.underlying9 ?_]
  · rw [show [97 + (k : Int), 97 + (k : Int) - 97 + 65].take 2 = [97 + (k : Int), 97 + (k : Int) - 97 + 65] from rfl, runes_let k h]
  · intro j hj
    rw [addr_lit, cell_of_row _ W.heap.size _ _ _ (0, 0) (heap_alloc_new W _)]
    have : j = 0 ∨ j = 1 := by simp at hj; omega
    rcases this with rfl | rfl <;> rfl
theorem conv_letW {w0 : World} {n : Nat} {L : List (List UInt8)} {v : Value} (k : Nat) (h : k < 26) (W : World) (hc : Coll w0 n L v W) : ∃ W1, (convert 63 9 (.slice (some ⟨W.heap.size, 0, none⟩) 2 2)).run Tryd.prog (W.alloc (.cells #[.int .i32 (97 + (k : Int)), .int .i32 (97 + (k : Int) - 97 + 65)] 21)) = .ok (.string (B (letL k))) W1 ∧ Coll w0 n L v W1 :=
  ⟨_, conv_let k h W, hc.below (below_alloc _ _)⟩
end Go.Proofs.YtkndgkiglaacnaaDoor
