/-
  Layer 40 (page), plain: the small cases with which the statements end.
-/
import Derived.Test.YtpgpkgpiengmkaaDoorPgAp
namespace Go.Proofs.YtpgpkgpiengmkaaDoor
open Go.RowKit
set_option linter.unusedVariables false
set_option linter.unusedSimpArgs false

def la : List Bx := [bx0 false false, bx0 false false, bx0 false false]
def lb : List Bx := [bx0 false false, bx0 true false, bx0 false false]
def lc (g1 g2 : Nat) : List Bx := [⟨[120], 2, 0, false, false, [[122]], some ⟨g1, 0, none⟩, 1, 1⟩, ⟨[121], 2, 0, false, false, [[97]], some ⟨g2, 0, none⟩, 1, 1⟩]
theorem la_few : Few la := ⟨by decide, fun b hb => by
  simp only [la, List.mem_cons, List.not_mem_nil, or_false] at hb
  rcases hb with rfl | rfl | rfl <;> exact ⟨by decide, by decide, by decide⟩⟩
theorem lb_few : Few lb := ⟨by decide, fun b hb => by
  simp only [lb, List.mem_cons, List.not_mem_nil, or_false] at hb
  rcases hb with rfl | rfl | rfl <;> exact ⟨by decide, by decide, by decide⟩⟩
theorem lc_few (g1 g2 : Nat) : ∀ b ∈ lc g1 g2, FewB b := fun b hb => by
  simp only [lc, List.mem_cons, List.not_mem_nil, or_false] at hb
  rcases hb with rfl | rfl
  · refine ⟨by show (1 : Nat) ≤ 6; decide, by show (1 : Nat) ≤ 200; decide, fun a ha => ?_⟩
    have ha : a ∈ ([[122]] : List (List UInt8)) := ha
    rw [List.mem_singleton] at ha; subst ha; decide
  · refine ⟨by show (1 : Nat) ≤ 6; decide, by show (1 : Nat) ≤ 200; decide, fun a ha => ?_⟩
    have ha : a ∈ ([[97]] : List (List UInt8)) := ha
    rw [List.mem_singleton] at ha; subst ha; decide
theorem la_E : brkE la 5 = 0 := by decide +kernel
theorem lb_E : brkE lb 5 = 0 := by decide +kernel
theorem la_E1 : brkE la 1 = 19 := by decide +kernel
theorem la_P : (brkP la 5).map nat2 = [([0, 1], 4), ([2], 2)] := by decide +kernel
theorem lb_P : (brkP lb 5).map nat2 = [([0], 2), ([1, 2], 4)] := by decide +kernel
theorem la_M : chkS 1 (la.take 1) 5 [] = sMissing := by decide +kernel
theorem la_C : chkS 3 la 5 (([([0, 1], 4), ([2], 2)] : List (List Int × Int)).map strip) = [] := by decide +kernel
theorem lc_P (g1 g2 : Nat) : plP (lc g1 g2) 0 [] (([([0], 2), ([1], 2)] : List (List Int × Int)).map strip) = [([122], [49]), ([97], [50])] := by
  have d1 : Lib.decDigits 1 = [49] := by decide +kernel
  have d2 : Lib.decDigits 2 = [50] := by decide +kernel
  simp [lc, strip, plP, plB, plA, ancOf, withP, d1, d2]
/-- blocks made one after the other -/
def allocs (w : World) (os : List Obj) : World := os.foldl (fun w o => w.alloc o) w
theorem allocs_below (w : World) : ∀ os : List Obj, Below w.heap.size w (allocs w os) := by
  intro os
  induction os generalizing w with
  | nil => exact Below.refl _ _
  | cons o r ih => exact (below_alloc w o).trans ((ih (w.alloc o)).mono (by simp))
theorem allocs_at (w : World) (os : List Obj) : ∀ i o, os[i]? = some o → (allocs w os).heap[w.heap.size + i]? = some o := by
  induction os generalizing w with
  | nil => intro i o h; simp at h
  | cons a r ih =>
    intro i o h
    cases i with
    | zero =>
      have e : a = o := by simpa using h
      subst e
      have h1 := (allocs_below (w.alloc a) r).block w.heap.size (by simp)
      rw [Nat.add_zero]
      exact h1.trans (heap_alloc_new w a)
    | succ i =>
      have h2 := ih (w.alloc a) i o (by simpa using h)
      have e : (w.alloc a).heap.size = w.heap.size + 1 := by simp
      rw [e] at h2
      rw [show w.heap.size + (i + 1) = w.heap.size + 1 + i by omega]; exact h2
theorem Rd.of_block {W : World} {g sz n : Nat} {cs : Array Value} {t : TypeId} {fr : Nat × Nat} {xs : List Value} (h : W.heap[g]? = some (.cells cs t fr)) (hc : cs.toList = xs) (hn : xs.length = n * sz) : Rd W W.heap.size sz (some ⟨g, 0, none⟩) n xs := by
  refine ⟨hn, fun _ => ⟨_, rfl, (Array.getElem?_eq_some_iff.1 h).1, fun j u hu => ?_⟩⟩
  rw [← hc] at hu
  exact World.news_of_block h j u hu
theorem nb_small {W : World} {M m k : Nat} {A : Option Addr} {ps : List Pg} {d : List (List Int × Int)} (h : PgAt W M A m ps) (hd : ps.map pgD = d) (hk : ∀ x ∈ d, x.1.length ≤ k) : ∀ p ∈ ps, p.nb ≤ k := fun p hp => by
  have h1 := (h.bs p hp).ints_len
  have h2 := hk (pgD p) (by rw [← hd]; exact List.mem_map.2 ⟨p, hp, rfl⟩)
  have h2 : p.bs.length ≤ k := h2
  omega
end Go.Proofs.YtpgpkgpiengmkaaDoor
