/-
  Layer 35 (archive): Get.
-/
import Derived.Test.YtofbcblhpflleaaDoorArcI
namespace Go.Proofs.YtofbcblhpflleaaDoor
open Go.RowKit
set_option linter.unusedVariables false
attribute [local go_sem] B_data B_size

def headL : List UInt8 := [80, 75, 3, 4]
/-- what follows the files in an archive, read -/
def finL (fs : List (List UInt8 × List UInt8)) (r : List UInt8) : List (List UInt8 × List UInt8) × Int :=
  if acheck fs ≠ 0 then ([], 5)
  else if r.take (min r.length (dirT fs (crcs fs)).length) ≠ (dirT fs (crcs fs)).take (min r.length (dirT fs (crcs fs)).length) ∨ (dirT fs (crcs fs)).length < r.length then ([], 5)
  else if r.length < (dirT fs (crcs fs)).length then ([], 4) else (fs, 0)
def getGo : Nat → List UInt8 → List (List UInt8 × List UInt8) → List (List UInt8 × List UInt8) × Int
  | 0, _, _ => ([], 0)
  | k + 1, r, fs =>
    if r.length < 4 ∧ preB headL r = true then ([], 4)
    else if preB r headL = false then finL fs r
    else if partE r ≠ 0 then ([], partE r)
    else getGo k (r.drop (30 + (pName r).length + (pData r).length)) (fs ++ [(pName r, pData r)])
theorem getGo_fuel : ∀ (k m : Nat) (r : List UInt8) (fs : List (List UInt8 × List UInt8)), r.length < k → r.length < m → getGo k r fs = getGo m r fs := by
  intro k
  induction k with
  | zero => intro m r fs h; omega
  | succ k ih =>
    intro m r fs h1 h2
    cases m with
    | zero => omega
    | succ m =>
      rw [getGo, getGo]
      by_cases a : r.length < 4 ∧ preB headL r = true
      · rw [if_pos a, if_pos a]
      rw [if_neg a, if_neg a]
      by_cases b : preB r headL = false
      · rw [if_pos b, if_pos b]
      rw [if_neg b, if_neg b]
      by_cases c : partE r ≠ 0
      · rw [if_pos c, if_pos c]
      rw [if_neg c, if_neg c]
      have hl : 30 ≤ r.length := by
        unfold partE at c
        by_cases h : r.length < 30
        · rw [if_pos h] at c; exact absurd (by decide) c
        · omega
      exact ih m _ _ (by rw [List.length_drop]; omega) (by rw [List.length_drop]; omega)
/-- the files of an archive, or the error -/
def getG (r : List UInt8) (fs : List (List UInt8 × List UInt8)) : List (List UInt8 × List UInt8) × Int := getGo (r.length + 1) r fs
theorem getG_end {r : List UInt8} {fs : List (List UInt8 × List UInt8)} (h : r.length < 4 ∧ preB headL r = true) : getG r fs = ([], 4) := by unfold getG; rw [getGo, if_pos h]
theorem getG_fin {r : List UInt8} {fs : List (List UInt8 × List UInt8)} (h : ¬ (r.length < 4 ∧ preB headL r = true)) (h2 : preB r headL = false) : getG r fs = finL fs r := by unfold getG; rw [getGo, if_neg h, if_pos h2]
theorem getG_bad {r : List UInt8} {fs : List (List UInt8 × List UInt8)} (h : ¬ (r.length < 4 ∧ preB headL r = true)) (h2 : preB r headL = true) (h3 : partE r ≠ 0) : getG r fs = ([], partE r) := by unfold getG; rw [getGo, if_neg h, if_neg (by simp [h2]), if_pos h3]
theorem part_len {r : List UInt8} (h : partE r = 0) : 30 ≤ r.length ∧ 30 + (pName r).length + (pData r).length ≤ r.length ∧ pSum r = crc (pData r) := by
  unfold partE at h
  by_cases a : r.length < 30
  · rw [if_pos a] at h; cases h
  rw [if_neg a] at h
  by_cases b : r.length - 30 < pNames r + pSize r
  · rw [if_pos b] at h; cases h
  rw [if_neg b] at h
  by_cases c : cutL r 4 30 ≠ comL (pName r).length (pData r).length (pSum r)
  · rw [if_pos c] at h; cases h
  rw [if_neg c] at h
  by_cases d : crc (pData r) ≠ pSum r
  · rw [if_pos d] at h; cases h
  refine ⟨by omega, ?_, (Classical.byContradiction fun e => d (fun e2 => e e2.symm))⟩
  unfold pName pData
  rw [cut_len, cut_len]
  omega
theorem getG_next {r : List UInt8} {fs : List (List UInt8 × List UInt8)} (h : ¬ (r.length < 4 ∧ preB headL r = true)) (h2 : preB r headL = true) (h3 : partE r = 0) : getG r fs = getG (r.drop (30 + (pName r).length + (pData r).length)) (fs ++ [(pName r, pData r)]) := by
  have hl := (part_len h3).1
  unfold getG
  rw [getGo, if_neg h, if_neg (by simp [h2]), if_neg (by simp [h3])]
  exact getGo_fuel _ _ _ _ (by rw [List.length_drop]; omega) (by rw [List.length_drop]; omega)
end Go.Proofs.YtofbcblhpflleaaDoor
