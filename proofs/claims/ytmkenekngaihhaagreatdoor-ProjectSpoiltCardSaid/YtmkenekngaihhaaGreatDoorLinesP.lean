/-
  Layer 2 (lines): the plain laws: lists of bytes alone, no program.
-/
import Derived.Test.YtmkenekngaihhaaGreatDoorLinesB
namespace Go.Proofs.YtmkenekngaihhaaGreatDoor
set_option linter.unusedVariables false

/-- a string with a line feed at its end -/
def lf (l : List UInt8) : List UInt8 := if l = [] then [] else if l.getLast? = some 10 then l else l ++ [10]

theorem lf_cons (cur r : List UInt8) (h : r ≠ []) : lf (cur ++ r) = cur ++ lf r := by
  unfold lf
  rw [if_neg (by simp [h]), if_neg h, List.getLast?_append]
  cases hr : r.getLast? with
  | none => simp [List.getLast?_eq_none_iff] at hr; exact absurd hr h
  | some c => by_cases e : c = 10 <;> simp [e, List.append_assoc]

theorem join_splitGo (r : List UInt8) : ∀ cur : List UInt8, 10 ∉ cur → joinS (splitGo cur r) = lf (cur ++ r) := by
  induction r with
  | nil =>
    intro cur hc
    simp only [splitGo, List.append_nil]
    by_cases e : cur = []
    · simp [e, lf, joinS]
    · rw [if_neg e]
      unfold lf
      rw [if_neg e, if_neg]
      · simp [joinS]
      · intro h
        exact hc (List.mem_of_getLast? h)
  | cons c r ih =>
    intro cur hc
    rw [splitGo]
    by_cases e : c = 10
    · subst e
      rw [if_pos rfl]
      have h1 := ih [] (by simp)
      have : joinS (cur :: splitGo [] r) = cur ++ [10] ++ joinS (splitGo [] r) := by simp [joinS]
      rw [this, h1, List.nil_append]
      by_cases hr : r = []
      · subst hr
        have : lf (cur ++ [10]) = cur ++ [10] := by unfold lf; rw [if_neg (by simp)]; simp
        rw [this]; simp [lf]
      · rw [show cur ++ 10 :: r = (cur ++ [10]) ++ r from by simp, lf_cons _ _ hr]
    · rw [if_neg e, ih (cur ++ [c]) (by simp [hc]; exact fun h => e h.symm)]
      simp
theorem join_split (l : List UInt8) : joinS (split l) = lf l := by
  have := join_splitGo l [] (by simp)
  simpa [split] using this

theorem splitGo_line (l rest : List UInt8) : ∀ cur : List UInt8, 10 ∉ l → splitGo cur (l ++ 10 :: rest) = (cur ++ l) :: splitGo [] rest := by
  induction l with
  | nil => intro cur _; simp [splitGo]
  | cons c r ih =>
    intro cur h
    have hc : ¬ c = 10 := fun e => h (by simp [e])
    rw [List.cons_append, splitGo, if_neg hc, ih (cur ++ [c]) (fun e => h (by simp [e]))]
    simp
theorem split_join (ls : List (List UInt8)) (h : ∀ l ∈ ls, 10 ∉ l) : split (joinS ls) = ls := by
  induction ls with
  | nil => rfl
  | cons a r ih =>
    have e : joinS (a :: r) = a ++ 10 :: joinS r := by simp [joinS]
    rw [e, split, splitGo_line a _ [] (h a (by simp)), List.nil_append]
    have := ih fun l hl => h l (by simp [hl])
    rw [split] at this
    rw [this]

theorem splitGo_le (r : List UInt8) : ∀ cur : List UInt8, (splitGo cur r).length ≤ r.length + (if cur = [] then 0 else 1) := by
  induction r with
  | nil => intro cur; simp only [splitGo]; split <;> simp
  | cons c r ih =>
    intro cur
    simp only [splitGo]
    by_cases e : c = 10
    · rw [if_pos e]
      have := ih []
      simp at this ⊢; omega
    · rw [if_neg e]
      have := ih (cur ++ [c])
      simp at this ⊢; omega
theorem split_le (l : List UInt8) : (split l).length ≤ l.length := by
  have := splitGo_le l []
  simpa [split] using this
end Go.Proofs.YtmkenekngaihhaaGreatDoor
