/-
  Chapter 40 (page), plain: the rules of pages; the pages of boxes violate none.
-/
import Derived.Test.YtpgpkgpiengmkaaDoorPgP
namespace Go.Proofs.YtpgpkgpiengmkaaDoor
set_option linter.unusedVariables false
set_option linter.unusedSimpArgs false

def flatB (ps : List (List Nat × Int)) : List Nat := ps.flatMap (·.1)
/-- rule 7, its second half: no box that floats stands on an earlier page than a box in line with a smaller index -/
def Early (b : Pb) (ps : List (List Nat × Int)) : Prop := ps.Pairwise fun q r => ∀ f ∈ q.1, b.fl f = true → ∀ i ∈ r.1, b.fl i = false → f ≤ i
/-- the boxes in line of a page -/
def inl (b : Pb) (l : List Nat) : List Nat := l.filter fun i => !b.fl i
/-- rule 8 for a page -/
def TornQ (b : Pb) (q : List Nat) : Prop := tornOk b (inl b q) ∨ (inl b q).getLast? = (inl b (List.range b.n)).getLast?

theorem pages_flat {b : Pb} : ∀ {dn wt : List Nat} {p : Nat} {ps : List (List Nat × Int)}, PagesOk b dn p wt ps →
    (dn ++ flatB ps).filter b.fl = (List.range b.n).filter b.fl ∧ (dn ++ flatB ps).filter (fun i => !b.fl i) = (List.range b.n).filter fun i => !b.fl i := by
  intro dn wt p ps h
  induction h with
  | done h =>
    have := h.2.1
    simp only [List.append_nil] at this
    simp only [flatB, List.flatMap_nil, List.append_nil]
    exact ⟨this, h.2.2⟩
  | page h1 h2 h3 h4 ih =>
    simp only [flatB, List.flatMap_cons, ← List.append_assoc] at ih ⊢
    exact ih
theorem perm_split (q : Nat → Bool) : ∀ l : List Nat, (l.filter q ++ l.filter fun i => !q i).Perm l := by
  intro l
  induction l with
  | nil => exact .refl _
  | cons a l ih =>
    cases hq : q a
    · rw [List.filter_cons_of_neg (by simp [hq]), List.filter_cons_of_pos (by simp [hq])]
      exact List.perm_middle.trans (ih.cons a)
    · rw [List.filter_cons_of_pos hq, List.filter_cons_of_neg (by simp [hq])]
      exact ih.cons a
theorem pages_perm {b : Pb} {ps : List (List Nat × Int)} (h : PagesOk b [] 0 [] ps) : (flatB ps).Perm (List.range b.n) := by
  obtain ⟨h1, h2⟩ := pages_flat h
  rw [List.nil_append] at h1 h2
  have := perm_split b.fl (flatB ps)
  rw [h1, h2] at this
  exact this.symm.trans (perm_split b.fl _)
theorem pages_nodup {b : Pb} {ps : List (List Nat × Int)} (h : PagesOk b [] 0 [] ps) : (flatB ps).Nodup := (pages_perm h).nodup_iff.2 List.nodup_range
theorem pages_lt {b : Pb} {ps : List (List Nat × Int)} (h : PagesOk b [] 0 [] ps) : ∀ i ∈ flatB ps, i < b.n := fun i hi => by simpa using (pages_perm h).mem_iff.1 hi
theorem pages_all {b : Pb} {ps : List (List Nat × Int)} (h : PagesOk b [] 0 [] ps) : ∀ i, i < b.n → i ∈ flatB ps := fun i hi => (pages_perm h).mem_iff.2 (by simpa using hi)
theorem pages_ne {b : Pb} : ∀ {dn wt : List Nat} {p : Nat} {ps : List (List Nat × Int)}, PagesOk b dn p wt ps → ∀ q ∈ ps, q.1 ≠ [] ∧ q.2 = sumH b q.1 ∧ q.2 ≤ b.H := by
  intro dn wt p ps h
  induction h with
  | done h => intro q hq; cases hq
  | page h1 h2 h3 h4 ih =>
    intro q hq
    rcases List.mem_cons.1 hq with rfl | hq
    · exact ⟨h3, h2.sum, h2.high⟩
    · exact ih q hq
theorem range_sorted (b : Pb) (q : Nat → Bool) : ((List.range b.n).filter q).Pairwise (· < ·) := List.pairwise_lt_range.filter _
theorem pages_rise {b : Pb} {ps : List (List Nat × Int)} (h : PagesOk b [] 0 [] ps) (f : Bool) : ((flatB ps).filter fun i => b.fl i == f).Pairwise (· < ·) := by
  obtain ⟨h1, h2⟩ := pages_flat h
  rw [List.nil_append] at h1 h2
  cases f
  · have e : (fun i => b.fl i == false) = fun i => !b.fl i := by funext i; cases b.fl i <;> rfl
    rw [e, h2]; exact range_sorted b _
  · have e : (fun i => b.fl i == true) = b.fl := by funext i; cases b.fl i <;> rfl
    rw [e, h1]; exact range_sorted b _
/-- the boxes in line of later pages lie from p on -/
theorem pages_later {b : Pb} : ∀ {dn wt : List Nat} {p : Nat} {ps : List (List Nat × Int)}, PagesOk b dn p wt ps → ∀ q ∈ ps, ∀ i ∈ q.1, b.fl i = false → p ≤ i := by
  intro dn wt p ps h
  induction h with
  | done h => intro q hq; cases hq
  | @page dn wt p first r ps h1 h2 h3 h4 ih =>
    intro q hq i hi hf
    rcases List.mem_cons.1 hq with rfl | hq
    · have hi : i ∈ r.1 := hi
      rw [← List.take_append_drop first r.1] at hi
      rcases List.mem_append.1 hi with hi | hi
      · have := h2.line.2.2.2.2 i hi
        rw [hf] at this; cases this
      · exact (h2.line.2.2.1 i hi).1
    · have := ih q hq i hi hf
      have := h2.le
      omega
theorem pages_early {b : Pb} : ∀ {dn wt : List Nat} {p : Nat} {ps : List (List Nat × Int)}, PagesOk b dn p wt ps → Early b ps := by
  intro dn wt p ps h
  induction h with
  | done h => exact List.Pairwise.nil
  | @page dn wt p first r ps h1 h2 h3 h4 ih =>
    refine List.pairwise_cons.2 ⟨fun q hq f hf _ i hi hfl => ?_, ih⟩
    have := h2.inv.dn_lt f (List.mem_append_right _ hf)
    have := pages_later h4 q hq i hi hfl
    omega
theorem inl_line {b : Pb} {first p0 p : Nat} {bx : List Nat} (h : LineOk b first bx p0 p) : inl b bx = lineOf b first bx := by
  unfold inl lineOf
  conv => lhs; rw [← List.take_append_drop first bx]
  rw [List.filter_append, List.filter_eq_nil_iff.2 (by intro i hi; simp [h.2.2.2.2 i hi]), List.nil_append]
theorem pages_torn {b : Pb} : ∀ {dn wt : List Nat} {p : Nat} {ps : List (List Nat × Int)}, PagesOk b dn p wt ps → ∀ q ∈ ps, TornQ b q.1 := by
  intro dn wt p ps h
  induction h with
  | done h => intro q hq; cases hq
  | @page dn wt p first r ps h1 h2 h3 h4 ih =>
    intro q hq
    rcases List.mem_cons.1 hq with rfl | hq
    · rcases h2.torn with h5 | h5
      · by_cases he : inl b r.1 = []
        · left; left; show (inl b r.1).length < 2; rw [he]; simp
        · right
          have h6 := h2.inv.2.2
          rw [h5, List.filter_append] at h6
          show (inl b r.1).getLast? = (inl b (List.range b.n)).getLast?
          unfold inl at he ⊢
          rw [← h6, List.getLast?_append]
          cases hg : (r.1.filter fun i => !b.fl i).getLast? with
          | none => rw [List.getLast?_eq_none_iff] at hg; exact absurd hg he
          | some x => rfl
      · left
        show tornOk b (inl b r.1)
        rw [inl_line h2.line]; exact h5
    · exact ih q hq

instance (b : Pb) (ps : List (List Nat × Int)) : Decidable (Early b ps) := by unfold Early; infer_instance
instance (b : Pb) (L : List Nat) : Decidable (tornOk b L) := by unfold tornOk; infer_instance
instance (b : Pb) (q : List Nat) : Decidable (TornQ b q) := by unfold TornQ; infer_instance
/-- the rules, one after the other -/
def codeC (b : Pb) (ps : List (List Nat × Int)) : Nat :=
  if ¬ (flatB ps).Nodup then 2 else if ¬ ∀ i, i < b.n → i ∈ flatB ps then 3 else if ¬ ∀ q ∈ ps, q.1 ≠ [] then 4 else if ¬ ∀ q ∈ ps, q.2 = sumH b q.1 ∧ q.2 ≤ b.H then 5
  else if ¬ ((flatB ps).filter fun i => b.fl i == false).Pairwise (· ≤ ·) then 6 else if ¬ ((flatB ps).filter fun i => b.fl i == true).Pairwise (· ≤ ·) ∨ ¬ Early b ps then 7
  else if ¬ ∀ q ∈ ps, TornQ b q.1 then 8 else 0
theorem pages_code {b : Pb} {ps : List (List Nat × Int)} (h : PagesOk b [] 0 [] ps) : codeC b ps = 0 := by
  have h4 := pages_ne h
  have h6 := fun f => (pages_rise h f).imp (S := (· ≤ ·)) fun h => Nat.le_of_lt h
  unfold codeC
  rw [if_neg (by simpa using pages_nodup h), if_neg (by simpa using pages_all h), if_neg (by simp only [Classical.not_not]; exact fun q hq => (h4 q hq).1), if_neg (by simp only [Classical.not_not]; exact fun q hq => (h4 q hq).2),
    if_neg (by simp only [Classical.not_not]; exact h6 false), if_neg (by simp only [Classical.not_not, not_or]; exact ⟨h6 true, pages_early h⟩), if_neg (by simp only [Classical.not_not]; exact pages_torn h)]

/-! ### boxes that fit on one page -/
theorem fill_fits {b : Pb} (hh : ∀ i, i < b.n → 0 ≤ b.h i) (first : Nat) : ∀ (k p : Nat) (bx : List Nat) (ht : Int), p + k = b.n → ht + sumH b (List.range' p k) ≤ b.H →
    fillS b first k p bx ht [] = (bx ++ List.range' p k, ht + sumH b (List.range' p k), b.n, []) := by
  intro k
  induction k with
  | zero => intro p bx ht hk _; rw [fillS]; simp [sumH]; omega
  | succ k ih =>
    intro p bx ht hk hs
    rw [List.range'_succ] at hs ⊢
    simp only [sumH] at hs ⊢
    have h0 : 0 ≤ sumH b (List.range' (p + 1) k) := sumH_nonneg hh _ (by intro i hi; rw [List.mem_range'_1] at hi; omega)
    have hc : ht + b.h p ≤ b.H := by omega
    rw [fillS]
    have := ih (p + 1) (bx ++ [p]) (ht + b.h p) (by omega) (by omega)
    cases b.fl p
    · rw [if_neg (by simp), if_pos hc, this]; simp [Int.add_assoc]
    · rw [if_pos rfl, if_pos ⟨rfl, hc⟩, this]; simp [Int.add_assoc]
theorem break_fits {b : Pb} (hh : ∀ i, i < b.n → 0 ≤ b.h i) (hn : 0 < b.n) (hs : sumH b (List.range b.n) ≤ b.H) (k : Nat) : breakS b (k + 2) 0 [] = [(List.range b.n, sumH b (List.range b.n))] := by
  rw [List.range_eq_range'] at hs ⊢
  have e : oneS b 0 [] = (List.range' 0 b.n, sumH b (List.range' 0 b.n), b.n, []) := by
    unfold oneS
    simp only [earlyS]
    rw [fill_fits hh _ (b.n - 0) 0 [] 0 (by omega) (by rw [Nat.sub_zero]; omega)]
    simp
  rw [breakS, if_pos (.inl hn), e, breakS, if_neg (by simp)]
end Go.Proofs.YtpgpkgpiengmkaaDoor
