/-
  Layer 44 (links), plain: references, anchors, faults as functions on lists of bytes.
-/
import Derived.Test.YtejjidbodfoiiaaGreatDoorMkPS
import Derived.Test.YtejjidbodfoiiaaGreatDoorFilesX
namespace Go.Proofs.YtejjidbodfoiiaaGreatDoor
open Go.Proofs.YtejjidbodfoiiaaGreatDoor.Fil
set_option linter.unusedVariables false
set_option linter.unusedSimpArgs false

abbrev Fl := List UInt8 × List UInt8
/-- a fault: its kind, its file, its text -/
abbrev Ft := List UInt8 × List UInt8 × List UInt8
def hrefK : List UInt8 := [104, 114, 101, 102]
def srcK : List UInt8 := [115, 114, 99]
def idK : List UInt8 := [105, 100]
def anchorK : List UInt8 := [97, 110, 99, 104, 111, 114]
def fileK : List UInt8 := [102, 105, 108, 101]
def formK : List UInt8 := [102, 111, 114, 109]
def dotH : List UInt8 := [46, 104, 116, 109, 108]
def dotX : List UInt8 := [46, 120, 104, 116, 109, 108]
/-- is a path that of a page? -/
def named (s : List UInt8) : Bool := dotH.isSuffixOf s || dotX.isSuffixOf s
/-- what a text is read as -/
def readN (s : List UInt8) : Option Nd := match pTop s with
  | .ok y => some y.1
  | .error _ => none
/-- the node of a page -/
def sheet (f : Fl) : Option Nd := if named f.1 then readN f.2 else none
def letC (c : UInt8) : Bool := (decide (97 ≤ c.toNat) && decide (c.toNat ≤ 122)) || (decide (65 ≤ c.toNat) && decide (c.toNat ≤ 90))
def lets (s : List UInt8) : Nat := (s.takeWhile letC).length
/-- does a reference lead to another place? -/
def outB (s : List UInt8) : Bool := [47, 47].isPrefixOf s || (decide (1 ≤ lets s) && decide (lets s ≤ 20) && decide (s[lets s]? = some 58))
def refsN (n : Nd) : List (List UInt8) := vals hrefK n ++ vals srcK n
def pathOf (r : List UInt8) : List UInt8 := r.takeWhile (· != 35)
def hasF (r : List UInt8) : Bool := r.contains 35
def fragOf (r : List UInt8) : List UInt8 := (r.dropWhile (· != 35)).drop 1
/-- the index of the first file with a path -/
def idxOf (fs : List Fl) (s : List UInt8) : Option Nat := fs.findIdx? (fun f => f.1 == s)
def ancN (f : Fl) : List (List UInt8) := match sheet f with
  | some n => vals idK n
  | none => []
def ancAt (fs : List Fl) (j : Nat) : List (List UInt8) := match fs[j]? with
  | some f => ancN f
  | none => []
/-- the file that a reference means -/
def meantOf (fs : List Fl) (i : Nat) (f r : List UInt8) : Option Nat := if pathOf r = [] then some i else if joinF f (pathOf r) = [] then none else idxOf fs (joinF f (pathOf r))
/-- the kind of the fault of a reference -/
def faultOf (fs : List Fl) (i : Nat) (f r : List UInt8) : Option (List UInt8) := match meantOf fs i f r with
  | none => some fileK
  | some j => if hasF r && !(ancAt fs j).contains (fragOf r) then some anchorK else none
def refF (fs : List Fl) (i : Nat) (f r : List UInt8) : List Ft := if outB r then [] else match faultOf fs i f r with
  | none => []
  | some k => [(k, f, r)]
/-- the faults of a file -/
def pageF (fs : List Fl) (i : Nat) (f : Fl) : List Ft := match sheet f with
  | none => if named f.1 then [(formK, f.1, [])] else []
  | some n => (refsN n).flatMap (refF fs i f.1)
def faultsTo (fs : List Fl) (k : Nat) : List Ft := (List.range k).flatMap fun i => pageF fs i (fs[i]?.getD ([], []))
/-- the faults of files -/
def faults (fs : List Fl) : List Ft := faultsTo fs fs.length
theorem faultsTo_succ (fs : List Fl) (k : Nat) : faultsTo fs (k + 1) = faultsTo fs k ++ pageF fs k (fs[k]?.getD ([], [])) := by
  unfold faultsTo
  rw [List.range_succ, List.flatMap_append]; simp
/-- the references to other places, in order -/
def outsTo (fs : List Fl) (k : Nat) : List (List UInt8) := (fs.take k).flatMap fun f => match sheet f with
  | none => []
  | some n => (refsN n).filter outB
/-- a file that is no page: what it changes -/
theorem idxOf_app (fs : List Fl) (f : Fl) (s : List UInt8) : idxOf (fs ++ [f]) s = match idxOf fs s with
    | some j => some j
    | none => if f.1 == s then some fs.length else none := by
  unfold idxOf
  rw [List.findIdx?_append]
  cases h : List.findIdx? (fun f => f.1 == s) fs with
  | some j => simp
  | none =>
    by_cases h2 : f.1 == s
    · simp [h2]
    · simp [h2]
theorem idxOf_lt {fs : List Fl} {s : List UInt8} {j : Nat} (h : idxOf fs s = some j) : j < fs.length := by
  unfold idxOf at h
  rw [List.findIdx?_eq_some_iff_getElem] at h
  exact h.1
theorem sheet_none {f : Fl} (h : named f.1 = false) : sheet f = none := by unfold sheet; rw [h]; rfl
theorem ancAt_app {fs : List Fl} {f : Fl} {j : Nat} (h : j < fs.length) : ancAt (fs ++ [f]) j = ancAt fs j := by
  unfold ancAt
  rw [List.getElem?_append_left h]
theorem ancAt_last {fs : List Fl} {f : Fl} (h : named f.1 = false) : ancAt (fs ++ [f]) fs.length = [] := by
  unfold ancAt
  rw [List.getElem?_append_right (Nat.le_refl _)]
  simp [ancN, sheet_none h]
theorem refF_app {fs : List Fl} {f : Fl} {i : Nat} {a r : List UInt8} (hi : i < fs.length) (h : named f.1 = false) :
    refF (fs ++ [f]) i a r = refF fs i a r ∨ (refF fs i a r = [(fileK, a, r)] ∧ (refF (fs ++ [f]) i a r = [] ∨ refF (fs ++ [f]) i a r = [(anchorK, a, r)])) := by
  unfold refF
  by_cases ho : outB r = true
  · rw [if_pos ho, if_pos ho]; exact .inl rfl
  rw [if_neg ho, if_neg ho]
  unfold faultOf meantOf
  by_cases hp : pathOf r = []
  · rw [if_pos hp, if_pos hp]
    simp only
    rw [ancAt_app hi]
    exact .inl rfl
  rw [if_neg hp, if_neg hp]
  by_cases hj : joinF a (pathOf r) = []
  · rw [if_pos hj, if_pos hj]; exact .inl rfl
  rw [if_neg hj, if_neg hj, idxOf_app]
  cases hx : idxOf fs (joinF a (pathOf r)) with
  | some j =>
    simp only
    rw [ancAt_app (idxOf_lt hx)]
    exact .inl rfl
  | none =>
    by_cases hf : f.1 == joinF a (pathOf r)
    · rw [if_pos hf]
      simp only
      rw [ancAt_last h]
      refine .inr ⟨by trivial, ?_⟩
      cases hasF r <;> simp
    · rw [if_neg hf]; exact .inl rfl
/-- the faults b are known from a -/
def Known (a b : List Ft) : Prop := b.length ≤ a.length ∧ ∀ x ∈ b, x ∈ a ∨ (x.1 = anchorK ∧ (fileK, x.2.1, x.2.2) ∈ a)
theorem Known.refl (a : List Ft) : Known a a := ⟨Nat.le_refl _, fun x h => .inl h⟩
theorem Known.app {a b c d : List Ft} (h : Known a b) (h2 : Known c d) : Known (a ++ c) (b ++ d) := by
  refine ⟨by simp only [List.length_append]; have := h.1; have := h2.1; omega, fun x hx => ?_⟩
  rcases List.mem_append.1 hx with hx | hx
  · rcases h.2 x hx with h | h
    · exact .inl (List.mem_append_left _ h)
    · exact .inr ⟨h.1, List.mem_append_left _ h.2⟩
  · rcases h2.2 x hx with h | h
    · exact .inl (List.mem_append_right _ h)
    · exact .inr ⟨h.1, List.mem_append_right _ h.2⟩
theorem known_flat {α : Type} {g g' : α → List Ft} : ∀ (l : List α), (∀ x ∈ l, Known (g x) (g' x)) → Known (l.flatMap g) (l.flatMap g') := by
  intro l
  induction l with
  | nil => intro _; exact Known.refl []
  | cons x r ih =>
    intro h
    rw [List.flatMap_cons, List.flatMap_cons]
    exact (h x (List.mem_cons_self ..)).app (ih fun y hy => h y (List.mem_cons_of_mem _ hy))
theorem known_ref {fs : List Fl} {f : Fl} {i : Nat} {a r : List UInt8} (hi : i < fs.length) (h : named f.1 = false) : Known (refF fs i a r) (refF (fs ++ [f]) i a r) := by
  rcases refF_app (a := a) (r := r) hi h with e | ⟨e, e2 | e2⟩
  · rw [e]; exact Known.refl _
  · rw [e, e2]; exact ⟨by simp, fun x hx => by cases hx⟩
  · rw [e, e2]
    refine ⟨by simp, fun x hx => ?_⟩
    rw [List.mem_singleton] at hx
    subst hx
    exact .inr ⟨rfl, List.mem_singleton.2 rfl⟩
theorem known_faults {fs : List Fl} {f : Fl} (h : named f.1 = false) : Known (faults fs) (faults (fs ++ [f])) := by
  have e : faults (fs ++ [f]) = faultsTo (fs ++ [f]) fs.length := by
    unfold faults
    rw [List.length_append, List.length_singleton, faultsTo_succ, List.getElem?_append_right (Nat.le_refl _)]
    simp [pageF, sheet_none h, h]
  rw [e]
  unfold faults faultsTo
  refine known_flat _ fun i hi => ?_
  have hi : i < fs.length := List.mem_range.1 hi
  rw [List.getElem?_append_left hi]
  unfold pageF
  cases hs : sheet (fs[i]?.getD ([], [])) with
  | none => exact Known.refl _
  | some n => exact known_flat _ fun r _ => known_ref hi h
theorem file_ref {fs : List Fl} {i : Nat} {a r : List UInt8} {x : Ft} (h : x ∈ refF fs i a r) : x.2.1 = a := by
  unfold refF at h
  split at h
  · cases h
  · split at h
    · cases h
    · rw [List.mem_singleton] at h; rw [h]
theorem file_page {fs : List Fl} {i : Nat} {f : Fl} {x : Ft} (h : x ∈ pageF fs i f) : x.2.1 = f.1 ∧ named f.1 = true := by
  unfold pageF at h
  cases hs : sheet f with
  | none =>
    rw [hs] at h
    simp only at h
    split at h
    · rename_i hn
      rw [List.mem_singleton] at h; rw [h]; exact ⟨rfl, hn⟩
    · cases h
  | some n =>
    rw [hs] at h
    obtain ⟨r, _, hr⟩ := List.mem_flatMap.1 h
    refine ⟨file_ref hr, ?_⟩
    unfold sheet at hs
    split at hs
    · assumption
    · cases hs
/-- every fault's file is a page -/
theorem file_faults {fs : List Fl} {x : Ft} (h : x ∈ faults fs) : named x.2.1 = true := by
  unfold faults faultsTo at h
  obtain ⟨i, _, hx⟩ := List.mem_flatMap.1 h
  obtain ⟨e, hn⟩ := file_page hx
  rw [e]; exact hn
theorem faults_one {f : Fl} (h : named f.1 = false) : faults [f] = [] := by
  simp [faults, faultsTo, pageF, sheet_none h, h]
end Go.Proofs.YtejjidbodfoiiaaGreatDoor
