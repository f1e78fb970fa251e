/-
  Layer 35 (archive): plain: valid files have an archive.
-/
import Derived.Test.YtofbcblhpflleaaDoorArcL
namespace Go.Proofs.YtofbcblhpflleaaDoor
open Go.RowKit
set_option linter.unusedVariables false

theorem bl_irrefl (a : List UInt8) : Op.bytesLess a a = false := by
  induction a with
  | nil => rfl
  | cons x r ih => simp [Op.bytesLess, ih]
theorem bl_trans : ∀ (a b c : List UInt8), Op.bytesLess a b = true → Op.bytesLess b c = true → Op.bytesLess a c = true := by
  intro a
  induction a with
  | nil =>
    intro b c h1 h2
    cases b with
    | nil => simp [Op.bytesLess] at h1
    | cons y s => cases c with
      | nil => simp [Op.bytesLess] at h2
      | cons z t => rfl
  | cons x r ih =>
    intro b c h1 h2
    cases b with
    | nil => simp [Op.bytesLess] at h1
    | cons y s => cases c with
      | nil => simp [Op.bytesLess] at h2
      | cons z t =>
        simp only [Op.bytesLess, Bool.or_eq_true, decide_eq_true_eq, Bool.and_eq_true, beq_iff_eq] at h1 h2 ⊢
        rcases h1 with h1 | ⟨rfl, h1⟩ <;> rcases h2 with h2 | ⟨rfl, h2⟩
        · left; exact UInt8.lt_trans h1 h2
        · left; exact h1
        · left; exact h2
        · right; exact ⟨rfl, ih _ _ h1 h2⟩
theorem steps_zero (fs : List (List UInt8 × List UInt8)) : ∀ (m k : Nat), checkFrom fs m k = 0 → ∀ i, k ≤ i → i < k + m → stepC fs i = 0 := by
  intro m
  induction m with
  | zero => intro k _ i h1 h2; omega
  | succ m ih =>
    intro k h i h1 h2
    unfold checkFrom at h
    by_cases c : stepC fs k ≠ 0
    · rw [if_pos c] at h; exact absurd h c
    · rw [if_neg c] at h
      by_cases e : i = k
      · subst e; exact Classical.byContradiction c
      · exact ih (k + 1) h i (by omega) (by omega)
theorem step_zero {f p : List UInt8} {k : Nat} (h : stepP f k p = 0) : ¬ (clean f = [] ∨ clean f ≠ f) ∧ (0 < k → Op.bytesLess p f = true) := by
  unfold stepP at h
  by_cases a : clean f = [] ∨ clean f ≠ f
  · rw [if_pos a] at h; cases h
  refine ⟨a, fun hk => ?_⟩
  rw [if_neg a, if_neg (by omega)] at h
  by_cases b : (!Op.bytesLess p f && !(p == f)) = true
  · rw [if_pos b] at h; cases h
  rw [if_neg b] at h
  by_cases c : p = f
  · rw [if_pos c] at h; cases h
  · have : (p == f) = false := by simpa using c
    rw [this] at b
    simpa using b
theorem less_all (fs : List (List UInt8 × List UInt8)) (h : ∀ i, i < fs.length → stepC fs i = 0) : ∀ (d i : Nat), i + d + 1 < fs.length → Op.bytesLess (fs[i]?.getD ([], [])).1 (fs[i + d + 1]?.getD ([], [])).1 = true := by
  intro d
  induction d with
  | zero =>
    intro i hi
    have := (step_zero (h (i + 1) hi)).2 (by omega)
    rwa [Nat.add_sub_cancel] at this
  | succ d ih =>
    intro i hi
    have h1 := ih i (by omega)
    have h2 := (step_zero (h (i + (d + 1) + 1) hi)).2 (by omega)
    rw [Nat.add_sub_cancel] at h2
    exact bl_trans _ _ _ h1 h2
theorem names_nodup (fs : List (List UInt8 × List UInt8)) (h : ∀ i, i < fs.length → stepC fs i = 0) : (fs.map (·.1)).Nodup := by
  unfold List.Nodup
  rw [List.pairwise_iff_getElem]
  intro i j hi hj hij
  have hi' : i < fs.length := by simpa using hi
  have hj' : j < fs.length := by simpa using hj
  have := less_all fs h (j - i - 1) i (by omega)
  rw [show i + (j - i - 1) + 1 = j from by omega, List.getElem?_eq_getElem hi', List.getElem?_eq_getElem hj'] at this
  simp only [List.getElem_map]
  intro e
  simp only [Option.getD_some] at this
  rw [e, bl_irrefl] at this
  cases this
theorem acGo_zero : ∀ (r : List (List UInt8 × List UInt8)) (S : List (List UInt8)), (∀ f ∈ r, ¬ (clean f.1 = [] ∨ clean f.1 ≠ f.1)) → (S ++ r.map (·.1)).Nodup → acGo S r = 0 := by
  intro r
  induction r with
  | nil => intro S _ _; rfl
  | cons f r ih =>
    intro S h hn
    unfold acGo
    rw [List.map_cons] at hn
    have hns : f.1 ∉ S := by
      intro hm
      have := (List.nodup_append.1 hn).2.2 _ hm _ (List.mem_cons_self ..)
      exact this rfl
    rw [if_neg (h f (List.mem_cons_self ..)), if_neg hns]
    refine ih _ (fun g hg => h g (List.mem_cons_of_mem _ hg)) ?_
    rw [List.append_assoc]; exact hn
/-- valid files have an archive -/
theorem check_acheck (fs : List (List UInt8 × List UInt8)) (h : checkL fs = 0) (hb : ∀ f ∈ fs, f.2.length ≤ 16777216) : acheck fs = 0 := by
  unfold checkL at h
  by_cases a : 128 < fs.length
  · rw [if_pos a] at h; cases h
  rw [if_neg a] at h
  have hs := steps_zero fs fs.length 0 h
  have hs' : ∀ i, i < fs.length → stepC fs i = 0 := fun i hi => hs i (by omega) (by omega)
  have hbig : bigB fs = false := by
    unfold bigB
    rw [List.any_eq_false]
    intro f hf
    have := hb f hf
    simp; omega
  unfold acheck
  rw [if_neg a, if_neg (by simp [hbig])]
  refine acGo_zero fs [] (fun f hf => ?_) (by simpa using names_nodup fs hs')
  obtain ⟨i, hi, rfl⟩ := List.getElem_of_mem hf
  have := (step_zero (hs' i hi)).1
  rw [List.getElem?_eq_getElem hi] at this
  exact this
end Go.Proofs.YtofbcblhpflleaaDoor
