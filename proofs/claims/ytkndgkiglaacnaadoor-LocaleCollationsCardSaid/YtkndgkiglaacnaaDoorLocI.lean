/-
  Layer 28 (locale): a collation while its rules are read.
-/
import Derived.Test.YtkndgkiglaacnaaDoorLocG
namespace Go.Proofs.YtkndgkiglaacnaaDoor
set_option linter.unusedSimpArgs false
open Go.RowKit
set_option linter.unusedVariables false

/-- pairs of texts, as cells -/
def prs (P : List (List UInt8 × List UInt8)) : List Value := P.flatMap fun p => [.string (B p.1), .string (B p.2)]
theorem prs_snoc (P : List (List UInt8 × List UInt8)) (p : List UInt8 × List UInt8) : prs P ++ [.string (B p.1), .string (B p.2)] = prs (P ++ [p]) := by simp [prs]
theorem prs_len (P : List (List UInt8 × List UInt8)) : (prs P).length = P.length * 2 := by
  induction P with
  | nil => rfl
  | cons p r ih => simp only [prs, List.flatMap_cons, List.length_append, List.length_cons] at ih ⊢; simp at ih ⊢; omega
theorem Tryd.infoPair : (Tryd.prog.info? 68).map (fun i => (i.zero, i.size, i.bytes)) = some (some (.agg #[.string ⟨#[]⟩, .string ⟨#[]⟩]), 2, 32) := by kernel_rfl

/-- c at block w0.heap.size + 1 with the order v and the ranks vr; rules (cells C) at block bk -/
structure CollR (w0 : World) (bk : Nat) (C : Array Value) (n : Nat) (L : List (List UInt8)) (v : Value) (m : Nat) (P : List (List UInt8 × List UInt8)) (vr : Value) (w : World) : Prop where
  c : Two w (w0.heap.size + 1) vr v 42
  o : w.ownsRow (w0.heap.size + 2) 9 1 v n (strs L)
  lt : ∀ g, v.ownBlock = some g → g < bk
  rules : w.heap[bk]? = some (.cells C 9 (0, 0))
  le : w0.heap.size + 2 ≤ bk
  r : w.ownsRow (bk + 1) 68 2 vr m (prs P)
  res : Two w w0.heap.size nilS nilS 42
  b : Below w0.heap.size w0 w
section
variable {w0 w w' : World} {bk : Nat} {C : Array Value} {n : Nat} {L : List (List UInt8)} {v : Value} {m : Nat} {P : List (List UInt8 × List UInt8)} {vr : Value}
theorem CollR.start (h : Coll w0 n L v w) (C : Array Value) : CollR w0 w.heap.size C n L v 0 [] nilS (w.alloc (.cells C 9)) where
  c := h.1.alloc _
  o := h.2.1.alloc _
  lt := fun g hg => (h.2.1.lt g hg).2
  rules := heap_alloc_new w _
  le := h.1.lt
  r := ⟨rfl, .inl ⟨rfl, rfl⟩⟩
  res := h.2.2.1.alloc _
  b := h.2.2.2.alloc h.2.2.2.size _
theorem CollR.below (h : CollR w0 bk C n L v m P vr w) (hb : Below w.heap.size w w') : CollR w0 bk C n L v m P vr w' where
  c := h.c.below hb h.c.lt
  o := own_below h.o hb
  lt := h.lt
  rules := (hb.block bk (Array.getElem?_eq_some_iff.1 h.rules).1).trans h.rules
  le := h.le
  r := own_below h.r hb
  res := h.res.below hb h.res.lt
  b := h.b.trans (hb.mono h.b.size)
theorem CollR.bk_lt (h : CollR w0 bk C n L v m P vr w) : bk < w.heap.size := (Array.getElem?_eq_some_iff.1 h.rules).1
theorem CollR.row (h : CollR w0 bk C n L v m P vr w) (hg : w.grownBy w' vr.ownBlock) : Two w' (w0.heap.size + 1) vr v 42 :=
  h.c.grown hg (fun e => by have := (h.r.lt _ e.symm).1; have := h.le; omega)
theorem CollR.store {g cap : Nat} {p : List UInt8 × List UInt8} (h : CollR w0 bk C n L v m P vr w) (ho : w'.ownsRow (bk + 1) 68 2 (.slice (some ⟨g, 0, none⟩) (m + 1) cap) (m + 1) (prs P ++ [.string (B p.1), .string (B p.2)])) (hg : w.grownBy w' vr.ownBlock) :
    CollR w0 bk C n L v (m + 1) (P ++ [p]) (.slice (some ⟨g, 0, none⟩) (m + 1) cap) (w'.setCell ⟨w0.heap.size + 1, 0, none⟩ (.slice (some ⟨g, 0, none⟩) (m + 1) cap)) := by
  have hle := h.le
  have hgb : bk + 1 ≤ g := (ho.lt g rfl).1
  have hne : ∀ k, vr.ownBlock = some k → bk + 1 ≤ k := fun k hk => (h.r.lt k hk).1
  have hov : v.ownBlock ≠ vr.ownBlock ∨ v.ownBlock = none := by
    cases hv : v.ownBlock with
    | none => exact .inr rfl
    | some k =>
      left
      intro e
      have := h.lt k hv
      have := hne k e.symm
      omega
  refine ⟨(h.row hg).set0 _, ?_, h.lt, ?_, hle, ?_, (h.res.grown hg (fun e => by have := hne _ e.symm; omega)).other (by omega) _, (h.b.grown hg h.b.size (fun k hk => by have := hne k hk; omega)).setCell (p := ⟨w0.heap.size + 1, 0, none⟩) (by show _ ≤ w0.heap.size + 1; omega) _⟩
  · refine ownsRow_setCell_other (h.o.kept hg ?_) ?_ _
    · exact hov.symm
    · intro e
      have := (h.o.lt _ e).1
      simp at this
  · rw [show (w'.setCell ⟨w0.heap.size + 1, 0, none⟩ (.slice (some ⟨g, 0, none⟩) (m + 1) cap)).heap[bk]? = w'.heap[bk]? from by
      unfold World.setCell
      simp only
      rw [Array.getElem?_modify, if_neg (by omega)]]
    rw [hg.block bk h.bk_lt (fun e => by have := hne _ e.symm; omega)]
    exact h.rules
  · rw [prs_snoc] at ho
    exact ownsRow_setCell_other ho (by show some g ≠ some (w0.heap.size + 1); intro e; injection e; omega) _
/-- what Collation returns: the order L and the ranks P -/
def CollRet (L : List (List UInt8)) (P : List (List UInt8 × List UInt8)) (e : Ending) (w' : World) : Prop :=
  ∃ A n c A2 n2 c2, e = .returned (.agg #[.slice A2 n2 c2, .slice A n c, .string ⟨#[]⟩]) ∧ Rd w' w'.heap.size 1 A n (strs L) ∧ Rd w' w'.heap.size 2 A2 n2 (prs P)
theorem CollR.finish (h : CollR w0 bk C n L v m P vr w) : CollRet L P (.returned (.agg #[vr, v, .string ⟨#[]⟩])) (((w.setCell ⟨w0.heap.size, 0, none⟩ vr).setCell ⟨w0.heap.size, 1, none⟩ v).setCell ⟨w0.heap.size, 2, none⟩ (.string ⟨#[]⟩)) := by
  have hle := h.le
  obtain ⟨A, c, rfl, hc⟩ := own_form h.o
  obtain ⟨A2, c2, rfl, hc2⟩ := own_form h.r
  have n1 : ∀ k, (Value.slice A n c).ownBlock = some k → k ≠ w0.heap.size := fun k hk => by have := (h.o.lt k hk).1; omega
  have n2 : ∀ k, (Value.slice A2 m c2).ownBlock = some k → k ≠ w0.heap.size := fun k hk => by have := (h.r.lt k hk).1; omega
  have o1 := ownsRow_setCell_other (ownsRow_setCell_other (ownsRow_setCell_other h.o (a := ⟨w0.heap.size, 0, none⟩) (fun e => n1 _ e rfl) (.slice A2 m c2)) (a := ⟨w0.heap.size, 1, none⟩) (fun e => n1 _ e rfl) (.slice A n c)) (a := ⟨w0.heap.size, 2, none⟩) (fun e => n1 _ e rfl) (.string ⟨#[]⟩)
  have o2 := ownsRow_setCell_other (ownsRow_setCell_other (ownsRow_setCell_other h.r (a := ⟨w0.heap.size, 0, none⟩) (fun e => n2 _ e rfl) (.slice A2 m c2)) (a := ⟨w0.heap.size, 1, none⟩) (fun e => n2 _ e rfl) (.slice A n c)) (a := ⟨w0.heap.size, 2, none⟩) (fun e => n2 _ e rfl) (.string ⟨#[]⟩)
  exact ⟨A, n, c, A2, m, c2, rfl, Rd.of_own o1, Rd.of_own o2⟩
theorem below_set3 (h : Below w0.heap.size w0 w) (x y z : Value) : Below w0.heap.size w0 (((w.setCell ⟨w0.heap.size, 0, none⟩ x).setCell ⟨w0.heap.size, 1, none⟩ y).setCell ⟨w0.heap.size, 2, none⟩ z) :=
  ((h.setCell (p := ⟨w0.heap.size, 0, none⟩) (Nat.le_refl _) _).setCell (p := ⟨w0.heap.size, 1, none⟩) (Nat.le_refl _) _).setCell (p := ⟨w0.heap.size, 2, none⟩) (Nat.le_refl _) _
theorem Two.cell2 {b : Nat} {x y : Value} {t : TypeId} (h : Two w b x y t) : w.cell? ⟨b, 2, none⟩ = some (.string ⟨#[]⟩) := by unfold Two at h; simp [World.cell?, h]
end
theorem Two.set2 {w : World} {b : Nat} {x y : Value} {t : TypeId} (h : Two w b x y t) : Two (w.setCell ⟨b, 2, none⟩ (.string ⟨#[]⟩)) b x y t := by
  unfold Two at h ⊢; simp [World.setCell, Array.getElem?_modify, h]
theorem cut_any (r k x : List UInt8) (w : World) (hG : GlobL w) (hs : r.length < 1000) (hc : Lib.cut r [32] = (k, x, true)) :
    Calls Tryd.prog 42 #[.string (B r), .string ⟨#[32]⟩] w fun e w' => e = .returned (.tuple #[.string (B k), .string (B x), .bool true]) ∧ ∃ q, w' = w.drewN q := by
  obtain ⟨⟨m, hm⟩, _⟩ := hG
  have h := Tryd.strings_Cut (B r) ⟨#[32]⟩ m w (by rw [B_size]; omega) hm
  rw [show (B r).data.toList = r from by simp [B], show (⟨#[32]⟩ : ByteArray).data.toList = [32] from rfl, hc] at h
  exact h
end Go.Proofs.YtkndgkiglaacnaaDoor
