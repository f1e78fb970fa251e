/-
  Layer 49 (project), plain: a valid project without its targets, with one of them twice, with no main file.
-/
import Derived.Test.YtmkenekngaihhaaGreatDoorPjTop
namespace Go.Proofs.YtmkenekngaihhaaGreatDoor
set_option linter.unusedVariables false
set_option linter.unusedSimpArgs false

theorem sp_a {p : Pj} (h : checkE pkG p = 0) : checkE pkG { p with ts := [] } = 8 := by
  obtain ⟨h1, h2, h3, h4, n1, n2, n3, h5⟩ := check_parts h
  have hh : headE pkG { p with ts := [] } = 0 := h1
  have hv : varsT pkG p.vs = 0 := by unfold varsT; rw [if_neg (by omega)]; exact h2
  have hf : flagsT pkG p.fs = 0 := by unfold flagsT; rw [if_neg (by omega)]; exact h3
  unfold checkE
  rw [hh, if_neg (by decide)]
  show (if varsT pkG p.vs ≠ 0 then _ else if flagsT pkG p.fs ≠ 0 then _ else targetsT pkG []) = 8
  rw [hv, hf]
  rfl
theorem tw_last : ∀ (ts : List Tg) (seen : List (List UInt8)) (t : Tg), targetsE pkG seen ts = 0 → (nm3 t.nm && decide (58 ∉ t.nm)) = true → t.nm ∈ seen ++ ts.map (·.nm) → targetsE pkG seen (ts ++ [t]) = 7 := by
  intro ts
  induction ts with
  | nil =>
    intro seen t _ hn hm
    simp only [List.map_nil, List.append_nil] at hm
    show (if (nm3 t.nm && decide (58 ∉ t.nm)) = false then 6 else if t.nm ∈ seen then 7 else _) = (7 : Int)
    rw [if_neg (by rw [hn]; decide), if_pos hm]
  | cons a r ih =>
    intro seen t h hn hm
    rw [targetsE] at h
    rw [List.cons_append, targetsE]
    split at h
    · omega
    · rename_i c1
      split at h
      · omega
      · rename_i c2
        split at h
        · rename_i c3; exact absurd h c3
        · rename_i c3
          rw [if_neg c1, if_neg c2, if_neg c3]
          refine ih _ t h hn ?_
          simpa [List.append_assoc] using hm
theorem first_ok {t : Tg} {r : List Tg} (h : targetsE pkG [] (t :: r) = 0) : (nm3 t.nm && decide (58 ∉ t.nm)) = true := by
  rw [targetsE] at h
  split at h
  · omega
  · rename_i c
    have c : ¬ (nm3 t.nm && decide (58 ∉ t.nm)) = false := c
    simpa using c
theorem sp_b {p : Pj} {t : Tg} {r : List Tg} (h : checkE pkG p = 0) (ht : p.ts = t :: r) : checkE pkG { p with ts := p.ts ++ [t] } = if 8 < p.ts.length + 1 then 3 else 7 := by
  obtain ⟨h1, h2, h3, h4, n1, n2, n3, h5⟩ := check_parts h
  have hh : headE pkG { p with ts := p.ts ++ [t] } = 0 := h1
  have hv : varsT pkG p.vs = 0 := by unfold varsT; rw [if_neg (by omega)]; exact h2
  have hf : flagsT pkG p.fs = 0 := by unfold flagsT; rw [if_neg (by omega)]; exact h3
  have hT : targetsT pkG (p.ts ++ [t]) = if 8 < p.ts.length + 1 then 3 else 7 := by
    unfold targetsT
    rw [List.length_append, List.length_singleton]
    by_cases hl : 8 < p.ts.length + 1
    · rw [if_pos hl, if_pos hl]
    · rw [if_neg hl, if_neg hl, if_neg (by simp)]
      rw [ht] at h4
      refine tw_last _ _ _ (by rw [ht]; exact h4) (first_ok h4) ?_
      rw [ht]; simp
  unfold checkE
  rw [hh, if_neg (by decide)]
  show (if varsT pkG p.vs ≠ 0 then _ else if flagsT pkG p.fs ≠ 0 then _ else targetsT pkG (p.ts ++ [t])) = _
  rw [hv, hf, if_neg (by decide), if_neg (by decide), hT]
theorem sp_c {p : Pj} (h : checkE pkG p = 0) : checkE pkG { p with ma := [] } = 6 := by
  obtain ⟨h1, h2, h3, h4, n1, n2, n3, h5⟩ := check_parts h
  have hh : headE pkG { p with ma := [] } = 6 := by
    unfold headE at h1 ⊢
    split at h1
    · omega
    · rename_i c
      rw [if_neg c]
      rw [if_pos (.inr (.inl (by show pathB [] = false; rfl)))]
  unfold checkE
  rw [hh, if_pos (by decide)]
end Go.Proofs.YtmkenekngaihhaaGreatDoor
