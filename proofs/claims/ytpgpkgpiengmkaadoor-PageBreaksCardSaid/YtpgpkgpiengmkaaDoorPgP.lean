/-
  Chapter 40 (page), plain: the pages of boxes, and what they keep.
-/
namespace Go.Proofs.YtpgpkgpiengmkaaDoor
set_option linter.unusedVariables false
set_option linter.unusedSimpArgs false

/-- boxes: how many, their heights, which float, which are kept; the height of a page -/
structure Pb where
  n : Nat
  h : Nat → Int
  fl : Nat → Bool
  kp : Nat → Bool
  H : Int

/-- waiting boxes that fit, one after the other -/
def earlyS (b : Pb) : List Nat → Int → List Nat → List Nat × Int × List Nat
  | bx, ht, [] => (bx, ht, [])
  | bx, ht, i :: w => if ht + b.h i ≤ b.H then earlyS b (bx ++ [i]) (ht + b.h i) w else (bx, ht, i :: w)
def sumH (b : Pb) : List Nat → Int
  | [] => 0
  | i :: r => b.h i + sumH b r
def lineOf (b : Pb) (first : Nat) (bx : List Nat) : List Nat := (bx.drop first).filter fun i => !b.fl i
/-- the box ahead of which a page ends: from the k-th in line downwards -/
def searchS (b : Pb) (line : List Nat) (p : Nat) : Nat → Nat
  | 0 => p
  | k + 1 => if b.kp (line.getD k 0) then searchS b line p k else line.getD (k + 1) 0
def backS (b : Pb) (line : List Nat) (p : Nat) : Nat :=
  if line.length < 2 then p else if b.kp (line.getD (line.length - 1) 0) then searchS b line p (line.length - 1) else p
/-- a page without the boxes from f on -/
def cutS (b : Pb) (f : Nat) (bx wt : List Nat) : List Nat × Int × Nat × List Nat :=
  (bx.filter (· < f), sumH b (bx.filter (· < f)), f, wt.filter (· < f))
def fillS (b : Pb) (first : Nat) : Nat → Nat → List Nat → Int → List Nat → List Nat × Int × Nat × List Nat
  | 0, p, bx, ht, wt => (bx, ht, p, wt)
  | k + 1, p, bx, ht, wt =>
    if b.fl p then
      if wt = [] ∧ ht + b.h p ≤ b.H then fillS b first k (p + 1) (bx ++ [p]) (ht + b.h p) wt
      else fillS b first k (p + 1) bx ht (wt ++ [p])
    else if ht + b.h p ≤ b.H then fillS b first k (p + 1) (bx ++ [p]) (ht + b.h p) wt
    else cutS b (backS b (lineOf b first bx) p) bx wt
def oneS (b : Pb) (p : Nat) (wt : List Nat) : List Nat × Int × Nat × List Nat :=
  fillS b (earlyS b [] 0 wt).1.length (b.n - p) p (earlyS b [] 0 wt).1 (earlyS b [] 0 wt).2.1 (earlyS b [] 0 wt).2.2
def breakS (b : Pb) : Nat → Nat → List Nat → List (List Nat × Int)
  | 0, p, wt => []
  | k + 1, p, wt => if p < b.n ∨ wt ≠ [] then ((oneS b p wt).1, (oneS b p wt).2.1) :: breakS b k (oneS b p wt).2.2.1 (oneS b p wt).2.2.2 else []

theorem sumH_append (b : Pb) (l r : List Nat) : sumH b (l ++ r) = sumH b l + sumH b r := by
  induction l with
  | nil => simp [sumH]
  | cons i l ih => simp only [List.cons_append, sumH, ih]; omega

/-! ### what a page's filling keeps -/
/-- ahead of a page: dn placed before; p; wt -/
def Inv (b : Pb) (dn : List Nat) (p : Nat) (wt : List Nat) : Prop :=
  p ≤ b.n ∧ (dn.filter b.fl) ++ wt = (List.range p).filter b.fl ∧ dn.filter (fun i => !b.fl i) = (List.range p).filter fun i => !b.fl i
theorem Inv.wt_lt {b : Pb} {dn wt : List Nat} {p : Nat} (h : Inv b dn p wt) : ∀ i ∈ wt, i < p ∧ b.fl i = true := by
  intro i hi
  have : i ∈ (List.range p).filter b.fl := by rw [← h.2.1]; exact List.mem_append_right _ hi
  simpa using this
theorem Inv.dn_lt {b : Pb} {dn wt : List Nat} {p : Nat} (h : Inv b dn p wt) : ∀ i ∈ dn, i < p := by
  intro i hi
  cases hf : b.fl i
  · have : i ∈ (List.range p).filter fun i => !b.fl i := by rw [← h.2.2]; simp [hi, hf]
    have := (List.mem_filter.1 this).1
    simpa using this
  · have : i ∈ (List.range p).filter b.fl := by rw [← h.2.1]; exact List.mem_append_left _ (by simp [hi, hf])
    have := (List.mem_filter.1 this).1
    simpa using this
theorem early_inv (b : Pb) : ∀ (wt : List Nat) (dn bx : List Nat) (ht : Int) (p : Nat), Inv b (dn ++ bx) p wt →
    Inv b (dn ++ (earlyS b bx ht wt).1) p (earlyS b bx ht wt).2.2 := by
  intro wt
  induction wt with
  | nil => intro dn bx ht p h; exact h
  | cons i w ih =>
    intro dn bx ht p h
    rw [earlyS]
    by_cases hf : ht + b.h i ≤ b.H
    · rw [if_pos hf]
      refine ih dn _ _ p ⟨h.1, ?_, ?_⟩
      · have := h.2.1
        have hi := (h.wt_lt i (List.mem_cons_self ..)).2
        simp only [List.filter_append, List.append_assoc] at this ⊢
        simpa [hi] using this
      · have := h.2.2
        have hi := (h.wt_lt i (List.mem_cons_self ..)).2
        simp only [List.filter_append] at this ⊢
        simpa [hi] using this
    · rw [if_neg hf]; exact h
theorem early_ht (b : Pb) : ∀ (wt bx : List Nat) (ht : Int), ht = sumH b bx → ht ≤ b.H →
    (earlyS b bx ht wt).2.1 = sumH b (earlyS b bx ht wt).1 ∧ (earlyS b bx ht wt).2.1 ≤ b.H := by
  intro wt
  induction wt with
  | nil => intro bx ht h h2; exact ⟨h, h2⟩
  | cons i w ih =>
    intro bx ht h h2
    rw [earlyS]
    by_cases hf : ht + b.h i ≤ b.H
    · rw [if_pos hf]
      exact ih _ _ (by rw [sumH_append, h]; simp [sumH]) hf
    · rw [if_neg hf]; exact ⟨h, h2⟩
theorem early_pre (b : Pb) : ∀ (wt bx : List Nat) (ht : Int), ∃ r, (earlyS b bx ht wt).1 = bx ++ r ∧ wt = r ++ (earlyS b bx ht wt).2.2 := by
  intro wt
  induction wt with
  | nil => intro bx ht; exact ⟨[], by simp [earlyS], by simp [earlyS]⟩
  | cons i w ih =>
    intro bx ht
    rw [earlyS]
    by_cases hf : ht + b.h i ≤ b.H
    · rw [if_pos hf]
      obtain ⟨r, h1, h2⟩ := ih (bx ++ [i]) (ht + b.h i)
      exact ⟨i :: r, by rw [h1]; simp, by rw [List.cons_append]; exact congrArg _ h2⟩
    · rw [if_neg hf]; exact ⟨[], by simp, by simp⟩

theorem range_filter_lt (p f : Nat) (h : f ≤ p) : (List.range p).filter (fun i => decide (i < f)) = List.range f := by
  induction p with
  | zero => have : f = 0 := by omega
            subst this; rfl
  | succ p ih =>
    rw [List.range_succ, List.filter_append]
    by_cases hf : f = p + 1
    · subst hf
      rw [List.filter_eq_self.2 (by intro i hi; simp at hi ⊢; omega)]
      simp [List.range_succ]
    · rw [ih (by omega)]
      have : ¬ p < f := by omega
      simp [this]
theorem filter_comm (p q : Nat → Bool) (l : List Nat) : (l.filter p).filter q = (l.filter q).filter p := by
  rw [List.filter_filter, List.filter_filter]
  congr 1; funext i; rw [Bool.and_comm]
theorem cut_inv {b : Pb} {dn bx wt : List Nat} {p0 p f : Nat} (h : Inv b (dn ++ bx) p wt) (hf : f ≤ p) (h0 : p0 ≤ f) (hdn : ∀ i ∈ dn, i < p0) :
    Inv b (dn ++ bx.filter (· < f)) f (wt.filter (· < f)) := by
  have e : dn ++ bx.filter (· < f) = (dn ++ bx).filter (fun i => decide (i < f)) := by
    have e1 : dn.filter (fun i => decide (i < f)) = dn := List.filter_eq_self.2 fun i hi => by have := hdn i hi; simp; omega
    rw [List.filter_append, e1]
  refine ⟨by have := h.1; omega, ?_, ?_⟩
  · rw [e, filter_comm, ← List.filter_append, h.2.1, filter_comm, range_filter_lt p f hf]
  · rw [e, filter_comm, h.2.2, filter_comm, range_filter_lt p f hf]


/-! ### the line, and where a page ends -/
/-- the boxes in line that stand on a page behind the first ones: ascending, from p0 on, below p -/
def LineOk (b : Pb) (first : Nat) (bx : List Nat) (p0 p : Nat) : Prop :=
  first ≤ bx.length ∧ (∀ i ∈ bx.take first, i < p0) ∧ (∀ i ∈ bx.drop first, p0 ≤ i ∧ i < p) ∧ (bx.drop first).Pairwise (· < ·) ∧ (∀ i ∈ bx.take first, b.fl i = true)
theorem LineOk.push {b : Pb} {first p0 p : Nat} {bx : List Nat} (h : LineOk b first bx p0 p) (hp : p0 ≤ p) : LineOk b first (bx ++ [p]) p0 (p + 1) := by
  obtain ⟨h1, h2, h3, h4, h5⟩ := h
  have e1 : (bx ++ [p]).take first = bx.take first := by rw [List.take_append_of_le_length h1]
  have e2 : (bx ++ [p]).drop first = bx.drop first ++ [p] := by rw [List.drop_append_of_le_length h1]
  refine ⟨by simp; omega, by rw [e1]; exact h2, ?_, ?_, by rw [e1]; exact h5⟩
  · rw [e2]; intro i hi
    rcases List.mem_append.1 hi with hi | hi
    · have := h3 i hi; omega
    · simp at hi; omega
  · rw [e2, List.pairwise_append]
    exact ⟨h4, by simp, fun x hx y hy => by have := h3 x hx; simp at hy; omega⟩
theorem LineOk.more {b : Pb} {first p0 p : Nat} {bx : List Nat} (h : LineOk b first bx p0 p) : LineOk b first bx p0 (p + 1) :=
  ⟨h.1, h.2.1, fun i hi => by have := h.2.2.1 i hi; omega, h.2.2.2⟩
theorem line_push (b : Pb) (first : Nat) (bx : List Nat) (p : Nat) (h : first ≤ bx.length) : lineOf b first (bx ++ [p]) = if b.fl p then lineOf b first bx else lineOf b first bx ++ [p] := by
  unfold lineOf
  rw [List.drop_append_of_le_length h, List.filter_append]
  cases hf : b.fl p <;> simp [hf]
theorem line_mem {b : Pb} {first p0 p : Nat} {bx : List Nat} (h : LineOk b first bx p0 p) : ∀ i ∈ lineOf b first bx, p0 ≤ i ∧ i < p ∧ b.fl i = false := by
  intro i hi
  unfold lineOf at hi
  rw [List.mem_filter] at hi
  have := h.2.2.1 i hi.1
  exact ⟨this.1, this.2, by simpa using hi.2⟩
theorem line_sorted {b : Pb} {first p0 p : Nat} {bx : List Nat} (h : LineOk b first bx p0 p) : (lineOf b first bx).Pairwise (· < ·) := h.2.2.2.1.filter _
theorem getD_mem {l : List Nat} {k : Nat} (h : k < l.length) : l.getD k 0 ∈ l := by
  rw [List.getD_eq_getElem?_getD, List.getElem?_eq_getElem h]; exact List.getElem_mem h
/-- what the search finds -/
theorem search_spec (b : Pb) (line : List Nat) (p : Nat) : ∀ k, k < line.length →
    (searchS b line p k = p ∧ ∀ j, j < k → b.kp (line.getD j 0) = true) ∨
    ∃ j, j < k ∧ searchS b line p k = line.getD (j + 1) 0 ∧ b.kp (line.getD j 0) = false := by
  intro k
  induction k with
  | zero => intro _; exact .inl ⟨rfl, fun j h => by omega⟩
  | succ k ih =>
    intro hk
    rw [searchS]
    cases hb : b.kp (line.getD k 0)
    · exact .inr ⟨k, by omega, by simp, hb⟩
    · rcases ih (by omega) with ⟨h1, h2⟩ | ⟨j, h1, h2, h3⟩
      · refine .inl ⟨by simpa using h1, fun j hj => ?_⟩
        by_cases e : j = k
        · subst e; exact hb
        · exact h2 j (by omega)
      · exact .inr ⟨j, by omega, by simpa using h2, h3⟩
/-- where a page ends: at p (and then the last box in line is not kept, or none before it is free), or behind a box in line that is not kept -/
theorem back_spec (b : Pb) (line : List Nat) (p : Nat) :
    (backS b line p = p ∧ (line.length < 2 ∨ b.kp (line.getD (line.length - 1) 0) = false ∨ ∀ j, j < line.length - 1 → b.kp (line.getD j 0) = true)) ∨
    ∃ j, j + 1 < line.length ∧ backS b line p = line.getD (j + 1) 0 ∧ b.kp (line.getD j 0) = false := by
  unfold backS
  by_cases h : line.length < 2
  · rw [if_pos h]; exact .inl ⟨rfl, .inl h⟩
  · rw [if_neg h]
    cases hb : b.kp (line.getD (line.length - 1) 0)
    · exact .inl ⟨rfl, .inr (.inl rfl)⟩
    · rw [if_pos rfl]
      rcases search_spec b line p (line.length - 1) (by omega) with ⟨h1, h2⟩ | ⟨j, h1, h2, h3⟩
      · exact .inl ⟨h1, .inr (.inr h2)⟩
      · exact .inr ⟨j, by omega, h2, h3⟩
theorem back_bound {b : Pb} {first p0 p : Nat} {bx : List Nat} (h : LineOk b first bx p0 p) (hp : p0 ≤ p) : p0 ≤ backS b (lineOf b first bx) p ∧ backS b (lineOf b first bx) p ≤ p := by
  rcases back_spec b (lineOf b first bx) p with ⟨h1, _⟩ | ⟨j, h1, h2, _⟩
  · rw [h1]; omega
  · have := line_mem h _ (getD_mem (k := j + 1) h1)
    rw [h2]; omega

/-! ### one page -/
theorem inv_len {b : Pb} {dn wt : List Nat} {p : Nat} (h : Inv b dn p wt) : dn.length + wt.length = p := by
  have h1 := congrArg List.length h.2.1
  have h2 := congrArg List.length h.2.2
  have e : ∀ l : List Nat, (l.filter b.fl).length + (l.filter fun i => !b.fl i).length = l.length := by
    intro l
    induction l with
    | nil => rfl
    | cons a l ih => cases hf : b.fl a <;> simp [hf] <;> omega
  have h3 := e dn
  have h4 := e (List.range p)
  rw [List.length_append] at h1
  rw [List.length_range] at h4
  omega
theorem sumH_nonneg {b : Pb} (hh : ∀ i, i < b.n → 0 ≤ b.h i) : ∀ l : List Nat, (∀ i ∈ l, i < b.n) → 0 ≤ sumH b l := by
  intro l
  induction l with
  | nil => intro _; exact Int.le_refl 0
  | cons a l ih =>
    intro h
    have := hh a (h a (List.mem_cons_self ..))
    have := ih fun i hi => h i (List.mem_cons_of_mem _ hi)
    simp only [sumH]; omega
theorem sumH_filter {b : Pb} (hh : ∀ i, i < b.n → 0 ≤ b.h i) (q : Nat → Bool) : ∀ l : List Nat, (∀ i ∈ l, i < b.n) → sumH b (l.filter q) ≤ sumH b l := by
  intro l
  induction l with
  | nil => intro _; exact Int.le_refl _
  | cons a l ih =>
    intro h
    have h1 := hh a (h a (List.mem_cons_self ..))
    have h2 := ih fun i hi => h i (List.mem_cons_of_mem _ hi)
    cases hq : q a
    · rw [List.filter_cons_of_neg (by simp [hq])]; simp only [sumH]; omega
    · rw [List.filter_cons_of_pos hq]; simp only [sumH]; omega
theorem sorted_take : ∀ (l : List Nat) (j : Nat), l.Pairwise (· < ·) → j < l.length → l.filter (fun i => decide (i < l.getD j 0)) = l.take j := by
  intro l
  induction l with
  | nil => intro j _ h; simp at h
  | cons a l ih =>
    intro j hs hj
    rw [List.pairwise_cons] at hs
    cases j with
    | zero =>
      rw [List.take_zero, List.filter_eq_nil_iff]
      intro i hi
      rcases List.mem_cons.1 hi with rfl | hi
      · simp
      · have := hs.1 i hi
        simp; omega
    | succ j =>
      simp only [List.length_cons] at hj
      have h1 : (a :: l).getD (j + 1) 0 = l.getD j 0 := by simp
      rw [h1, List.take_succ_cons, List.filter_cons_of_pos (by have := hs.1 _ (getD_mem (l := l) (k := j) (by omega)); simpa using this), ih j hs.2 (by omega)]
theorem filter_first {bx : List Nat} {first : Nat} (q : Nat → Bool) (h1 : first ≤ bx.length) (h : ∀ i ∈ bx.take first, q i = true) :
    (bx.filter q).take first = bx.take first ∧ (bx.filter q).drop first = (bx.drop first).filter q := by
  have e : bx.filter q = bx.take first ++ (bx.drop first).filter q := by
    conv => lhs; rw [← List.take_append_drop first bx]
    rw [List.filter_append, List.filter_eq_self.2 h]
  have hl : (bx.take first).length = first := by rw [List.length_take]; omega
  rw [e]
  exact ⟨by rw [List.take_append_of_le_length (by omega), List.take_of_length_le (by omega)], by rw [List.drop_append_of_le_length (by omega), List.drop_of_length_le (by omega), List.nil_append]⟩
theorem LineOk.cut {b : Pb} {first p0 p f : Nat} {bx : List Nat} (h : LineOk b first bx p0 p) (h0 : p0 ≤ f) (hf : f ≤ p) : LineOk b first (bx.filter (· < f)) p0 f := by
  obtain ⟨h1, h2, h3, h4, h5⟩ := h
  obtain ⟨e1, e2⟩ := filter_first (bx := bx) (first := first) (fun i => decide (i < f)) h1 (fun i hi => by have := h2 i hi; simp; omega)
  have hl := congrArg List.length e1
  rw [List.length_take, List.length_take] at hl
  refine ⟨by omega, by rw [e1]; exact h2, ?_, by rw [e2]; exact h4.filter _, by rw [e1]; exact h5⟩
  rw [e2]
  intro i hi
  rw [List.mem_filter] at hi
  have := h3 i hi.1
  have := hi.2
  simp at this
  omega
theorem line_cut {b : Pb} {first p0 p f : Nat} {bx : List Nat} (h : LineOk b first bx p0 p) (h0 : p0 ≤ f) : lineOf b first (bx.filter (· < f)) = (lineOf b first bx).filter (fun i => decide (i < f)) := by
  obtain ⟨e1, e2⟩ := filter_first (bx := bx) (first := first) (fun i => decide (i < f)) h.1 (fun i hi => by have := h.2.1 i hi; simp; omega)
  unfold lineOf
  rw [e2, filter_comm]
/-- the boxes in line of a page do not end behind one that is kept though they could end earlier -/
def tornOk (b : Pb) (L : List Nat) : Prop := L.length < 2 ∨ b.kp (L.getD (L.length - 1) 0) = false ∨ ∀ j, j < L.length - 1 → b.kp (L.getD j 0) = true
/-- what a page keeps -/
structure PageOk (b : Pb) (dn : List Nat) (first p0 : Nat) (r : List Nat × Int × Nat × List Nat) : Prop where
  inv : Inv b (dn ++ r.1) r.2.2.1 r.2.2.2
  line : LineOk b first r.1 p0 r.2.2.1
  le : p0 ≤ r.2.2.1
  sum : r.2.1 = sumH b r.1
  high : r.2.1 ≤ b.H
  torn : r.2.2.1 = b.n ∨ tornOk b (lineOf b first r.1)
theorem cut_ok {b : Pb} {dn bx wt : List Nat} {first p0 p : Nat} {ht : Int} (hh : ∀ i, i < b.n → 0 ≤ b.h i) (hdn : ∀ i ∈ dn, i < p0) (hi : Inv b (dn ++ bx) p wt) (hl : LineOk b first bx p0 p) (hp : p0 ≤ p)
    (hs : ht = sumH b bx) (hH : ht ≤ b.H) : PageOk b dn first p0 (cutS b (backS b (lineOf b first bx) p) bx wt) := by
  obtain ⟨b1, b2⟩ := back_bound hl hp
  have hbn : ∀ i ∈ bx, i < b.n := fun i h => by have := hi.dn_lt i (List.mem_append_right _ h); have := hi.1; omega
  refine ⟨cut_inv hi b2 b1 hdn, hl.cut b1 b2, b1, rfl, ?_, ?_⟩
  · have := sumH_filter hh (fun i => decide (i < backS b (lineOf b first bx) p)) bx hbn
    show sumH b _ ≤ _
    omega
  · right
    show tornOk b (lineOf b first (bx.filter _))
    rw [line_cut hl b1]
    rcases back_spec b (lineOf b first bx) p with ⟨h1, h2⟩ | ⟨j, h1, h2, h3⟩
    · rw [h1, List.filter_eq_self.2 fun i h => by have := (line_mem hl i h).2.1; simpa using this]
      exact h2
    · rw [h2, sorted_take _ _ (line_sorted hl) h1]
      right; left
      have e : ((lineOf b first bx).take (j + 1)).length = j + 1 := by rw [List.length_take]; omega
      rw [e, Nat.add_sub_cancel, List.getD_eq_getElem?_getD, List.getElem?_take_of_lt (by omega), ← List.getD_eq_getElem?_getD]
      exact h3
theorem inv_push_fl {b : Pb} {dn bx : List Nat} {p : Nat} (h : Inv b (dn ++ bx) p []) (hp : p < b.n) (hf : b.fl p = true) : Inv b (dn ++ (bx ++ [p])) (p + 1) [] := by
  refine ⟨by omega, ?_, ?_⟩
  · have := h.2.1
    rw [List.append_nil] at this ⊢
    rw [← List.append_assoc, List.filter_append, this, List.range_succ, List.filter_append]
  · rw [← List.append_assoc, List.filter_append, h.2.2, List.range_succ, List.filter_append]
theorem inv_push_line {b : Pb} {dn bx wt : List Nat} {p : Nat} (h : Inv b (dn ++ bx) p wt) (hp : p < b.n) (hf : b.fl p = false) : Inv b (dn ++ (bx ++ [p])) (p + 1) wt := by
  refine ⟨by omega, ?_, ?_⟩
  · have := h.2.1
    rw [← List.append_assoc, List.filter_append, List.range_succ, List.filter_append (p := b.fl) (l₁ := List.range p), ← this]
    simp [hf]
  · rw [← List.append_assoc, List.filter_append, h.2.2, List.range_succ, List.filter_append]
theorem inv_wait {b : Pb} {dn wt : List Nat} {p : Nat} (h : Inv b dn p wt) (hp : p < b.n) (hf : b.fl p = true) : Inv b dn (p + 1) (wt ++ [p]) := by
  refine ⟨by omega, ?_, ?_⟩
  · rw [← List.append_assoc, h.2.1, List.range_succ, List.filter_append]
    simp [hf]
  · rw [h.2.2, List.range_succ, List.filter_append]
    simp [hf]
theorem fill_ok {b : Pb} (hh : ∀ i, i < b.n → 0 ≤ b.h i) (first p0 : Nat) (dn : List Nat) (hdn : ∀ i ∈ dn, i < p0) : ∀ (k p : Nat) (bx : List Nat) (ht : Int) (wt : List Nat), p + k = b.n → p0 ≤ p →
    Inv b (dn ++ bx) p wt → LineOk b first bx p0 p → ht = sumH b bx → ht ≤ b.H → PageOk b dn first p0 (fillS b first k p bx ht wt) := by
  intro k
  induction k with
  | zero =>
    intro p bx ht wt hk hp hi hl hs hH
    exact ⟨hi, hl, hp, hs, hH, .inl (by show p = b.n; omega)⟩
  | succ k ih =>
    intro p bx ht wt hk hp hi hl hs hH
    rw [fillS]
    cases hf : b.fl p
    · rw [if_neg (by simp)]
      by_cases hc : ht + b.h p ≤ b.H
      · rw [if_pos hc]
        exact ih (p + 1) _ _ _ (by omega) (by omega) (inv_push_line hi (by omega) hf) (hl.push hp) (by rw [sumH_append, hs]; simp [sumH]) hc
      · rw [if_neg hc]
        exact cut_ok hh hdn hi hl hp hs hH
    · rw [if_pos rfl]
      by_cases hc : wt = [] ∧ ht + b.h p ≤ b.H
      · rw [if_pos hc]
        obtain ⟨rfl, hc⟩ := hc
        exact ih (p + 1) _ _ _ (by omega) (by omega) (inv_push_fl hi (by omega) hf) (hl.push hp) (by rw [sumH_append, hs]; simp [sumH]) hc
      · rw [if_neg hc]
        exact ih (p + 1) _ _ _ (by omega) (by omega) (inv_wait hi (by omega) hf) hl.more hs hH

/-! ### all pages -/
theorem fill_ne {b : Pb} (first p0 : Nat) : ∀ (k p : Nat) (bx : List Nat) (ht : Int) (wt : List Nat), LineOk b first bx p0 p → p0 ≤ p → bx ≠ [] → (fillS b first k p bx ht wt).1 ≠ [] := by
  intro k
  induction k with
  | zero => intro p bx ht wt _ _ h; exact h
  | succ k ih =>
    intro p bx ht wt hl hp h
    rw [fillS]
    cases hf : b.fl p
    · rw [if_neg (by simp)]
      by_cases hc : ht + b.h p ≤ b.H
      · rw [if_pos hc]; exact ih _ _ _ _ (hl.push hp) (by omega) (by simp)
      · rw [if_neg hc]
        obtain ⟨b1, b2⟩ := back_bound hl hp
        show bx.filter _ ≠ []
        -- the first box stays
        rcases Nat.eq_zero_or_pos first with h0 | h0
        · subst h0
          rcases back_spec b (lineOf b 0 bx) p with ⟨e, _⟩ | ⟨j, h1, h2, _⟩
          · rw [e, List.filter_eq_self.2 fun i hi => by have := hl.2.2.1 i (by simpa using hi); simpa using this.2]; exact h
          · intro hn
            rw [List.filter_eq_nil_iff] at hn
            have hm := getD_mem (l := lineOf b 0 bx) (k := j) (by omega)
            have hs := line_sorted hl
            have hlt : (lineOf b 0 bx).getD j 0 < (lineOf b 0 bx).getD (j + 1) 0 := by
              rw [List.pairwise_iff_getElem] at hs
              have := hs j (j + 1) (by omega) h1 (by omega)
              rw [List.getD_eq_getElem?_getD, List.getD_eq_getElem?_getD, List.getElem?_eq_getElem h1, List.getElem?_eq_getElem (by omega)]
              exact this
            have hm2 : (lineOf b 0 bx).getD j 0 ∈ bx := by
              unfold lineOf at hm
              have := (List.mem_filter.1 hm).1
              simpa [lineOf] using this
            have := hn _ hm2
            rw [h2] at this
            simp at this
            simp only [List.getD_eq_getElem?_getD] at hlt
            omega
        · intro hn
          rw [List.filter_eq_nil_iff] at hn
          have hle := hl.1
          have hm : bx[0]'(by omega) ∈ bx.take first := by
            rw [List.mem_take_iff_getElem]; exact ⟨0, by omega, rfl⟩
          have := hl.2.1 _ hm
          have := hn _ (List.mem_of_mem_take hm)
          simp at this
          omega
    · rw [if_pos rfl]
      by_cases hc : wt = [] ∧ ht + b.h p ≤ b.H
      · rw [if_pos hc]; exact ih _ _ _ _ (hl.push hp) (by omega) (by simp)
      · rw [if_neg hc]; exact ih _ _ _ _ hl.more (by omega) h
theorem early_line {b : Pb} {dn wt : List Nat} {p : Nat} (h : Inv b dn p wt) : LineOk b (earlyS b [] 0 wt).1.length (earlyS b [] 0 wt).1 p p := by
  obtain ⟨r, h1, h2⟩ := early_pre b wt [] 0
  rw [List.nil_append] at h1
  have hm : ∀ i ∈ (earlyS b [] 0 wt).1, i < p ∧ b.fl i = true := fun i hi => h.wt_lt i (by rw [h2]; exact List.mem_append_left _ (by rw [← h1]; exact hi))
  refine ⟨Nat.le_refl _, fun i hi => (hm i (List.mem_of_mem_take hi)).1, ?_, ?_, fun i hi => (hm i (List.mem_of_mem_take hi)).2⟩
  · rw [List.drop_length]; intro i hi; cases hi
  · rw [List.drop_length]; exact List.Pairwise.nil
theorem one_ok {b : Pb} (hh : ∀ i, i < b.n → 0 ≤ b.h i) (hH : 0 ≤ b.H) {dn wt : List Nat} {p : Nat} (h : Inv b dn p wt) : PageOk b dn (earlyS b [] 0 wt).1.length p (oneS b p wt) := by
  obtain ⟨h1, h2⟩ := early_ht b wt [] 0 rfl hH
  have hi := early_inv b wt dn [] 0 p (by rw [List.append_nil]; exact h)
  have := h.1
  exact fill_ok hh _ p dn h.dn_lt (b.n - p) p _ _ _ (by omega) (Nat.le_refl _) hi (early_line h) h1 h2
theorem one_ne {b : Pb} (hf : ∀ i, i < b.n → b.h i ≤ b.H) {dn wt : List Nat} {p : Nat} (h : Inv b dn p wt) (hc : p < b.n ∨ wt ≠ []) : (oneS b p wt).1 ≠ [] := by
  have hl := early_line h
  unfold oneS
  cases wt with
  | cons i w =>
    have hi := (h.wt_lt i (List.mem_cons_self ..)).1
    have := h.1
    have e : (earlyS b [] 0 (i :: w)).1 ≠ [] := by
      rw [earlyS, if_pos (by have := hf i (by omega); omega)]
      obtain ⟨r, h1, _⟩ := early_pre b w ([] ++ [i]) (0 + b.h i)
      rw [h1]; simp
    exact fill_ne _ p _ _ _ _ _ hl (Nat.le_refl _) e
  | nil =>
    have hp : p < b.n := by simpa using hc
    have e : b.n - p = (b.n - p - 1) + 1 := by omega
    have hfp := hf p hp
    simp only [earlyS] at hl ⊢
    rw [e, fillS]
    have h0 : LineOk b ([] : List Nat).length [] p p := hl
    cases hff : b.fl p
    · rw [if_neg (by simp), if_pos (by omega)]
      exact fill_ne _ p _ _ _ _ _ (h0.push (Nat.le_refl _)) (by omega) (by simp)
    · rw [if_pos rfl, if_pos ⟨rfl, by omega⟩]
      exact fill_ne _ p _ _ _ _ _ (h0.push (Nat.le_refl _)) (by omega) (by simp)
/-- what is said of all pages, from the page on that begins at p -/
inductive PagesOk (b : Pb) : List Nat → Nat → List Nat → List (List Nat × Int) → Prop where
  | done {dn : List Nat} : Inv b dn b.n [] → PagesOk b dn b.n [] []
  | page {dn wt : List Nat} {p first : Nat} {r : List Nat × Int × Nat × List Nat} {ps : List (List Nat × Int)} : Inv b dn p wt → PageOk b dn first p r → r.1 ≠ [] → PagesOk b (dn ++ r.1) r.2.2.1 r.2.2.2 ps → PagesOk b dn p wt ((r.1, r.2.1) :: ps)
theorem break_ok {b : Pb} (hh : ∀ i, i < b.n → 0 ≤ b.h i) (hf : ∀ i, i < b.n → b.h i ≤ b.H) (hH : 0 ≤ b.H) : ∀ (k : Nat) (dn : List Nat) (p : Nat) (wt : List Nat), Inv b dn p wt → b.n - p + wt.length ≤ k → PagesOk b dn p wt (breakS b k p wt) := by
  intro k
  induction k with
  | zero =>
    intro dn p wt h hk
    have hp := h.1
    have e1 : p = b.n := by omega
    have e2 : wt = [] := List.eq_nil_of_length_eq_zero (by omega)
    subst e1; subst e2
    exact .done h
  | succ k ih =>
    intro dn p wt h hk
    rw [breakS]
    by_cases hc : p < b.n ∨ wt ≠ []
    · rw [if_pos hc]
      have hp := one_ok hh hH h
      have hn := one_ne hf h hc
      refine .page h hp hn (ih _ _ _ hp.inv ?_)
      have h1 := inv_len h
      have h2 := inv_len hp.inv
      have h3 := List.length_pos_iff.2 hn
      rw [List.length_append] at h2
      have := h.1
      have := hp.inv.1
      omega
    · rw [if_neg hc]
      have hp := h.1
      have e1 : p = b.n := by omega
      have e2 : wt = [] := by
        cases wt with
        | nil => rfl
        | cons a r => exact absurd (Or.inr (by simp)) hc
      subst e1; subst e2
      exact .done h
theorem inv_start (b : Pb) : Inv b [] 0 [] := ⟨Nat.zero_le _, rfl, rfl⟩
theorem one_less {b : Pb} (hh : ∀ i, i < b.n → 0 ≤ b.h i) (hf : ∀ i, i < b.n → b.h i ≤ b.H) (hH : 0 ≤ b.H) {dn wt : List Nat} {p : Nat} (h : Inv b dn p wt) (hc : p < b.n ∨ wt ≠ []) :
    b.n - (oneS b p wt).2.2.1 + (oneS b p wt).2.2.2.length < b.n - p + wt.length := by
  have hp := one_ok hh hH h
  have hn := one_ne hf h hc
  have h1 := inv_len h
  have h2 := inv_len hp.inv
  have h3 := List.length_pos_iff.2 hn
  rw [List.length_append] at h2
  have := h.1
  have := hp.inv.1
  omega

end Go.Proofs.YtpgpkgpiengmkaaDoor
