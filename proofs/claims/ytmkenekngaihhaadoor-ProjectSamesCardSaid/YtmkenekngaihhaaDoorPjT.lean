/-
  Layer 49 (project): one line behind the first five: the chapter's.
-/
import Derived.Test.YtmkenekngaihhaaDoorPjO
import Derived.Test.YtmkenekngaihhaaDoorPjS
import Derived.Deep.RegionHeld3
namespace Go.Proofs.YtmkenekngaihhaaDoor
open Go.RowKit
set_option linter.unusedVariables false
set_option linter.unusedSimpArgs false
attribute [local go_sem] B_data B_size

theorem PB.d0 {q : Nat} {p : Pj} {vA vF vT : Value} {W : World} (h : PB q p vA vF vT W) : W.cell? ⟨q, 0, none⟩ = some (.string (B p.ti)) := by unfold PB at h; simp [World.cell?, h]
theorem PB.d1 {q : Nat} {p : Pj} {vA vF vT : Value} {W : World} (h : PB q p vA vF vT W) : W.cell? ⟨q, 1, none⟩ = some (.string (B p.la)) := by unfold PB at h; simp [World.cell?, h]
theorem PB.d2 {q : Nat} {p : Pj} {vA vF vT : Value} {W : World} (h : PB q p vA vF vT W) : W.cell? ⟨q, 2, none⟩ = some (.string (B p.ma)) := by unfold PB at h; simp [World.cell?, h]
theorem PB.d3 {q : Nat} {p : Pj} {vA vF vT : Value} {W : World} (h : PB q p vA vF vT W) : W.cell? ⟨q, 3, none⟩ = some (.string (B p.so)) := by unfold PB at h; simp [World.cell?, h]
theorem PB.d4 {q : Nat} {p : Pj} {vA vF vT : Value} {W : World} (h : PB q p vA vF vT W) : W.cell? ⟨q, 4, none⟩ = some (.string (B p.st)) := by unfold PB at h; simp [World.cell?, h]
/-- a project's block that holds nothing -/
def RZ (r : Nat) (W : World) : Prop := W.heap[r]? = some (.cells #[.string ⟨#[]⟩, .string ⟨#[]⟩, .string ⟨#[]⟩, .string ⟨#[]⟩, .string ⟨#[]⟩, .slice none 0 0, .slice none 0 0, .slice none 0 0] 27 (0, 0))
theorem RZ.r0 {r : Nat} {W : World} (h : RZ r W) : W.cell? ⟨r, 0, none⟩ = some (.string ⟨#[]⟩) := by unfold RZ at h; simp [World.cell?, h]
theorem RZ.r1 {r : Nat} {W : World} (h : RZ r W) : W.cell? ⟨r, 1, none⟩ = some (.string ⟨#[]⟩) := by unfold RZ at h; simp [World.cell?, h]
theorem RZ.r2 {r : Nat} {W : World} (h : RZ r W) : W.cell? ⟨r, 2, none⟩ = some (.string ⟨#[]⟩) := by unfold RZ at h; simp [World.cell?, h]
theorem RZ.r3 {r : Nat} {W : World} (h : RZ r W) : W.cell? ⟨r, 3, none⟩ = some (.string ⟨#[]⟩) := by unfold RZ at h; simp [World.cell?, h]
theorem RZ.r4 {r : Nat} {W : World} (h : RZ r W) : W.cell? ⟨r, 4, none⟩ = some (.string ⟨#[]⟩) := by unfold RZ at h; simp [World.cell?, h]
theorem RZ.r5 {r : Nat} {W : World} (h : RZ r W) : W.cell? ⟨r, 5, none⟩ = some (.slice none 0 0) := by unfold RZ at h; simp [World.cell?, h]
theorem RZ.r6 {r : Nat} {W : World} (h : RZ r W) : W.cell? ⟨r, 6, none⟩ = some (.slice none 0 0) := by unfold RZ at h; simp [World.cell?, h]
theorem RZ.r7 {r : Nat} {W : World} (h : RZ r W) : W.cell? ⟨r, 7, none⟩ = some (.slice none 0 0) := by unfold RZ at h; simp [World.cell?, h]
theorem RZ.ff {r i : Nat} {W : World} (h : RZ r W) : W.frozen? ⟨r, i, none⟩ = false := by unfold RZ at h; simp [World.frozen?, h]
theorem RZ.lt {r : Nat} {W : World} (h : RZ r W) : r < W.heap.size := (Array.getElem?_eq_some_iff.1 h).1
theorem RZ.below {r M : Nat} {W W' : World} (h : RZ r W) (hb : Below M W W') (hM : r < M) : RZ r W' := (hb.block r hM).trans h
theorem RZ.step {r : Nat} {W W' : World} (h : RZ r W) (hb : Below W.heap.size W W') : RZ r W' := h.below hb h.lt
theorem RZ.grown {r : Nat} {W W' : World} {row : Option Nat} (h : RZ r W) (hg : W.grownBy W' row) (hne : row ≠ some r) : RZ r W' := (hg.block r h.lt (fun e => hne e.symm)).trans h
theorem PB.step {q : Nat} {p : Pj} {vA vF vT : Value} {W W' : World} (h : PB q p vA vF vT W) (hb : Below W.heap.size W W') : PB q p vA vF vT W' := h.below hb h.lt
theorem grown_setC {a w : World} {r i : Nat} {u : Value} (h : a.grownBy w (some r)) : a.grownBy (w.setCell ⟨r, i, none⟩ u) (some r) :=
  grown_trans h ⟨rfl, rfl, rfl, by simp [World.setCell], fun k _ hk => by
    have : ¬ r = k := fun e => hk (by rw [e])
    simp [World.setCell, Array.getElem?_modify, this]⟩
theorem grown_set8 (w : World) (r : Nat) (u0 u1 u2 u3 u4 u5 u6 u7 : Value) : w.grownBy ((((((((w.setCell ⟨r, 0, none⟩ u0).setCell ⟨r, 1, none⟩ u1).setCell ⟨r, 2, none⟩ u2).setCell ⟨r, 3, none⟩ u3).setCell ⟨r, 4, none⟩ u4).setCell ⟨r, 5, none⟩ u5).setCell ⟨r, 6, none⟩ u6).setCell ⟨r, 7, none⟩ u7) (some r) :=
  grown_setC (grown_setC (grown_setC (grown_setC (grown_setC (grown_setC (grown_setC (grown_setC (World.grownBy.refl w _))))))))
theorem PV.kept8 {base r : Nat} {p : Pj} {vA vF vT : Value} {W W' : World} (h : PV base p vA vF vT W) (hr : RZ r W) (hg : W.grownBy W' (some r)) : PV base p vA vF vT W' :=
  ⟨h.ov.kept hg (.inr (own_ne h.ov hr (by decide))), h.of.kept hg (.inr (own_ne h.of hr (by decide))), h.ot.kept hg (.inr (own_ne h.ot hr (by decide))), Nat.le_trans h.le hg.size⟩
end Go.Proofs.YtmkenekngaihhaaDoor
