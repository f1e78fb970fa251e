/-
  Layer 49 (project): the errors of a project.
-/
import Derived.Test.YtmkenekngaihhaaDoorPjD
namespace Go.Proofs.YtmkenekngaihhaaDoor
open Go.RowKit
set_option linter.unusedVariables false
set_option linter.unusedSimpArgs false
attribute [local go_sem] B_data B_size

def Bx8 (w : World) (b : Nat) (p : Pj) (c : PC) : Prop := w.heap[b]? = some (.cells #[.string (B p.ti), .string (B p.la), .string (B p.ma), .string (B p.so), .string (B p.st), .slice c.A c.na c.ca, .slice c.F c.nf c.cf, .slice c.T c.nt c.ct] 27 (0, 0))
theorem Bx8.new (w : World) (p : Pj) (c : PC) : Bx8 (w.alloc (.cells #[.string (B p.ti), .string (B p.la), .string (B p.ma), .string (B p.so), .string (B p.st), .slice c.A c.na c.ca, .slice c.F c.nf c.cf, .slice c.T c.nt c.ct] 27)) w.heap.size p c := heap_alloc_new w _
theorem Bx8.lt {w : World} {b : Nat} {p : Pj} {c : PC} (h : Bx8 w b p c) : b < w.heap.size := (Array.getElem?_eq_some_iff.1 h).1
theorem Bx8.below {w w' : World} {b M : Nat} {p : Pj} {c : PC} (h : Bx8 w b p c) (hb : Below M w w') (hM : b < M) : Bx8 w' b p c := (hb.block b hM).trans h
theorem Bx8.alloc {w : World} {b : Nat} {p : Pj} {c : PC} (h : Bx8 w b p c) (o : Obj) : Bx8 (w.alloc o) b p c := h.below (below_alloc w o) h.lt
theorem Bx8.grown {w w' : World} {b row : Nat} {p : Pj} {c : PC} (h : Bx8 w b p c) (hg : w.grownBy w' (some row)) (hne : b ≠ row) : Bx8 w' b p c := (hg.block b h.lt (fun e => hne (Option.some.inj e))).trans h
theorem Bx8.c0 {w : World} {b : Nat} {p : Pj} {c : PC} (h : Bx8 w b p c) : w.cell? ⟨b, 0, none⟩ = some (.string (B p.ti)) := by unfold Bx8 at h; simp [World.cell?, h]
theorem Bx8.c1 {w : World} {b : Nat} {p : Pj} {c : PC} (h : Bx8 w b p c) : w.cell? ⟨b, 1, none⟩ = some (.string (B p.la)) := by unfold Bx8 at h; simp [World.cell?, h]
theorem Bx8.c2 {w : World} {b : Nat} {p : Pj} {c : PC} (h : Bx8 w b p c) : w.cell? ⟨b, 2, none⟩ = some (.string (B p.ma)) := by unfold Bx8 at h; simp [World.cell?, h]
theorem Bx8.c3 {w : World} {b : Nat} {p : Pj} {c : PC} (h : Bx8 w b p c) : w.cell? ⟨b, 3, none⟩ = some (.string (B p.so)) := by unfold Bx8 at h; simp [World.cell?, h]
theorem Bx8.c4 {w : World} {b : Nat} {p : Pj} {c : PC} (h : Bx8 w b p c) : w.cell? ⟨b, 4, none⟩ = some (.string (B p.st)) := by unfold Bx8 at h; simp [World.cell?, h]
theorem Bx8.c5 {w : World} {b : Nat} {p : Pj} {c : PC} (h : Bx8 w b p c) : w.cell? ⟨b, 5, none⟩ = some (.slice c.A c.na c.ca) := by unfold Bx8 at h; simp [World.cell?, h]
theorem Bx8.c6 {w : World} {b : Nat} {p : Pj} {c : PC} (h : Bx8 w b p c) : w.cell? ⟨b, 6, none⟩ = some (.slice c.F c.nf c.cf) := by unfold Bx8 at h; simp [World.cell?, h]
theorem Bx8.c7 {w : World} {b : Nat} {p : Pj} {c : PC} (h : Bx8 w b p c) : w.cell? ⟨b, 7, none⟩ = some (.slice c.T c.nt c.ct) := by unfold Bx8 at h; simp [World.cell?, h]
def langL : List (List UInt8) := [[101, 110], [100, 101], [102, 114], [101, 115]]
theorem head17 {p : Pj} (h : trimB p.ti = false) : headE pkG p = 17 := by unfold headE; exact if_pos h
theorem head6 {p : Pj} (h : trimB p.ti = true) (h2 : langB p.la = false ∨ pathB p.ma = false ∨ (p.so ≠ [] ∧ pathB p.so = false) ∨ (p.st ≠ [] ∧ pathB p.st = false)) : headE pkG p = 6 := by
  unfold headE; rw [if_neg (by show ¬ trimB p.ti = false; simp [h])]; exact if_pos h2
theorem head0 {p : Pj} (h : trimB p.ti = true) (h1 : langB p.la = true) (h2 : pathB p.ma = true) (h3 : p.so = [] ∨ pathB p.so = true) (h4 : p.st = [] ∨ pathB p.st = true) : headE pkG p = 0 := by
  unfold headE; rw [if_neg (by show ¬ trimB p.ti = false; simp [h]), if_neg]
  show ¬ (langB p.la = false ∨ pathB p.ma = false ∨ (p.so ≠ [] ∧ pathB p.so = false) ∨ (p.st ≠ [] ∧ pathB p.st = false))
  rw [h1, h2]
  rintro (h | h | ⟨h, h'⟩ | ⟨h, h'⟩)
  · cases h
  · cases h
  · rcases h3 with h3 | h3
    · exact h h3
    · rw [h3] at h'; cases h'
  · rcases h4 with h4 | h4
    · exact h h4
    · rw [h4] at h'; cases h'
theorem chk_head {p : Pj} (h : headE pkG p ≠ 0) : checkE pkG p = headE pkG p := by unfold checkE; rw [if_pos h]
theorem chk_vars {p : Pj} (h : headE pkG p = 0) (h1 : varsT pkG p.vs ≠ 0) : checkE pkG p = varsT pkG p.vs := by unfold checkE; rw [if_neg (by simpa using h), if_pos h1]
theorem chk_flags {p : Pj} (h : headE pkG p = 0) (h1 : varsT pkG p.vs = 0) (h2 : flagsT pkG p.fs ≠ 0) : checkE pkG p = flagsT pkG p.fs := by unfold checkE; rw [if_neg (by simpa using h), if_neg (by simpa using h1), if_pos h2]
theorem chk_targets {p : Pj} (h : headE pkG p = 0) (h1 : varsT pkG p.vs = 0) (h2 : flagsT pkG p.fs = 0) : checkE pkG p = targetsT pkG p.ts := by unfold checkE; rw [if_neg (by simpa using h), if_neg (by simpa using h1), if_neg (by simpa using h2)]
end Go.Proofs.YtmkenekngaihhaaDoor
