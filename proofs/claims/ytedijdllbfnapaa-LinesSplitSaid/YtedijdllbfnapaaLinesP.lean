/-
  Layer 2 (lines): the plain laws: lists of bytes alone, no program.
-/
import Derived.Test.YtedijdllbfnapaaLinesC
namespace Go.Proofs.Ytedijdllbfnapaa
set_option linter.unusedVariables false

/-- a string with a line feed at its end -/
def lf (l : List UInt8) : List UInt8 := if l = [] then [] else if l.getLast? = some 10 then l else l ++ [10]

theorem lf_cons (cur r : List UInt8) (h : r ≠ []) : lf (cur ++ r) = cur ++ lf r := by
  unfold lf
  rw [if_neg (by simp [h]), if_neg h, List.getLast?_append]
  cases hr : r.getLast? with
  | none => simp [List.getLast?_eq_none_iff] at hr; exact absurd hr h
  | some c => by_cases e : c = 10 <;> simp [e, List.append_assoc]

theorem join_splitGo (r : List UInt8) : ∀ cur : List UInt8, 10 ∉ cur → joinS (splitGo cur r) = lf (cur ++ r) := by
  induction r with
  | nil =>
    intro cur hc
    simp only [splitGo, List.append_nil]
    by_cases e : cur = []
    · simp [e, lf, joinS]
    · rw [if_neg e]
      unfold lf
      rw [if_neg e, if_neg]
      · simp [joinS]
      · intro h
        exact hc (List.mem_of_getLast? h)
  | cons c r ih =>
    intro cur hc
    rw [splitGo]
    by_cases e : c = 10
    · subst e
      rw [if_pos rfl]
      have h1 := ih [] (by simp)
      have : joinS (cur :: splitGo [] r) = cur ++ [10] ++ joinS (splitGo [] r) := by simp [joinS]
      rw [this, h1, List.nil_append]
      by_cases hr : r = []
      · subst hr
        have : lf (cur ++ [10]) = cur ++ [10] := by unfold lf; rw [if_neg (by simp)]; simp
        rw [this]; simp [lf]
      · rw [show cur ++ 10 :: r = (cur ++ [10]) ++ r from by simp, lf_cons _ _ hr]
    · rw [if_neg e, ih (cur ++ [c]) (by simp [hc]; exact fun h => e h.symm)]
      simp
theorem join_split (l : List UInt8) : joinS (split l) = lf l := by
  have := join_splitGo l [] (by simp)
  simpa [split] using this

theorem splitGo_line (l rest : List UInt8) : ∀ cur : List UInt8, 10 ∉ l → splitGo cur (l ++ 10 :: rest) = (cur ++ l) :: splitGo [] rest := by
  induction l with
  | nil => intro cur _; simp [splitGo]
  | cons c r ih =>
    intro cur h
    have hc : ¬ c = 10 := fun e => h (by simp [e])
    rw [List.cons_append, splitGo, if_neg hc, ih (cur ++ [c]) (fun e => h (by simp [e]))]
    simp
theorem split_join (ls : List (List UInt8)) (h : ∀ l ∈ ls, 10 ∉ l) : split (joinS ls) = ls := by
  induction ls with
  | nil => rfl
  | cons a r ih =>
    have e : joinS (a :: r) = a ++ 10 :: joinS r := by simp [joinS]
    rw [e, split, splitGo_line a _ [] (h a (by simp)), List.nil_append]
    have := ih fun l hl => h l (by simp [hl])
    rw [split] at this
    rw [this]

theorem splitGo_cut (a b : List UInt8) : ∀ cur : List UInt8, splitGo cur (a ++ 10 :: b) = splitGo cur (a ++ [10]) ++ splitGo [] b := by
  induction a with
  | nil => intro cur; simp [splitGo]
  | cons c r ih =>
    intro cur
    simp only [List.cons_append, splitGo]
    by_cases e : c = 10
    · rw [if_pos e, if_pos e, ih]; rfl
    · rw [if_neg e, if_neg e, ih]
theorem split_cut (a b : List UInt8) : split (a ++ [10] ++ b) = split (a ++ [10]) ++ split b := by
  rw [List.append_assoc]; exact splitGo_cut a b []
theorem splitGo_length (a : List UInt8) : ∀ cur : List UInt8, (splitGo cur (a ++ [10])).length = feeds a + 1 := by
  induction a with
  | nil => intro cur; simp [splitGo, feeds]
  | cons c r ih =>
    intro cur
    simp only [List.cons_append, splitGo]
    by_cases e : c = 10
    · rw [if_pos e, List.length_cons, ih]; simp [feeds, e]
    · rw [if_neg e, ih]; simp [feeds, e]
theorem splitGo_le (r : List UInt8) : ∀ cur : List UInt8, (splitGo cur r).length ≤ r.length + (if cur = [] then 0 else 1) := by
  induction r with
  | nil => intro cur; simp only [splitGo]; split <;> simp
  | cons c r ih =>
    intro cur
    simp only [splitGo]
    by_cases e : c = 10
    · rw [if_pos e]
      have := ih []
      simp at this ⊢; omega
    · rw [if_neg e]
      have := ih (cur ++ [c])
      simp at this ⊢; omega
theorem split_le (l : List UInt8) : (split l).length ≤ l.length := by
  have := splitGo_le l []
  simpa [split] using this
theorem split_length (a : List UInt8) : (split (a ++ [10])).length = feeds a + 1 := splitGo_length a []

theorem indent_drop (l : List UInt8) : ∀ k : Nat, k ≤ indent l → indent (l.drop k) = indent l - k := by
  induction l with
  | nil => intro k _; simp [indent]
  | cons c r ih =>
    intro k hk
    cases k with
    | zero => simp
    | succ k =>
      simp only [indent] at hk ⊢
      by_cases e : c = 32
      · rw [if_pos e] at hk ⊢
        rw [List.drop_succ_cons, ih k (by omega)]; omega
      · rw [if_neg e] at hk; omega
theorem indent_strip (l : List UInt8) (n : Int) : indent (strip l n) = indent l - min n.toNat (indent l) := indent_drop l _ (by omega)

theorem drop_indent (l : List UInt8) : l.drop (indent l) = l.dropWhile (· == 32) := by
  induction l with
  | nil => rfl
  | cons c r ih =>
    simp only [indent]
    by_cases e : c = 32
    · simp [e, ih]
    · simp [e]
theorem trim_eq (l : List UInt8) : trim l = rtrim (l.dropWhile (· == 32)) := by rw [trim, drop_indent]
theorem rtrim_space (l : List UInt8) : rtrim (l ++ [32]) = rtrim l := by simp [rtrim]
theorem rtrim_cons (c : UInt8) (l : List UInt8) (h : ¬ c = 32) : rtrim (c :: l) = c :: rtrim l := by
  unfold rtrim
  rw [List.reverse_cons, List.dropWhile_append]
  by_cases e : (l.reverse.dropWhile (· == 32)).isEmpty = true
  · rw [if_pos e]
    rw [List.isEmpty_iff] at e
    simp [e, h]
  · rw [if_neg e]; simp
theorem dropWhile_head (l : List UInt8) : (l.dropWhile (· == 32)) = [] ∨ ∃ c r, l.dropWhile (· == 32) = c :: r ∧ ¬ c = 32 := by
  induction l with
  | nil => simp
  | cons c r ih =>
    by_cases e : c = 32
    · simpa [e] using ih
    · right; exact ⟨c, r, by simp [e], e⟩
theorem rtrim_rtrim (l : List UInt8) : rtrim (rtrim l) = rtrim l := by
  unfold rtrim
  rw [List.reverse_reverse]
  congr 1
  rcases dropWhile_head l.reverse with h | ⟨c, r, h, hc⟩
  · rw [h]; rfl
  · rw [h]; simp [hc]
theorem trim_trim (l : List UInt8) : trim (trim l) = trim l := by
  rw [trim_eq (trim l), trim_eq l]
  rcases dropWhile_head l with h | ⟨c, r, h, hc⟩
  · rw [h]; rfl
  · rw [h, rtrim_cons c r hc]
    have : (c :: rtrim r).dropWhile (· == 32) = c :: rtrim r := by simp [hc]
    rw [this, rtrim_cons c _ hc, rtrim_rtrim]
theorem trim_wide (l : List UInt8) : trim ([32] ++ l ++ [32, 32]) = trim l := by
  rw [trim_eq, trim_eq]
  have : ([32] ++ l ++ [32, 32]).dropWhile (· == 32) = (l ++ [32, 32]).dropWhile (· == 32) := by simp
  rw [this, List.dropWhile_append]
  rcases dropWhile_head l with h | ⟨c, r, h, hc⟩
  · rw [h]; rfl
  · rw [h]
    rw [if_neg (by simp), show [(32 : UInt8), 32] = [32] ++ [32] from rfl, ← List.append_assoc, rtrim_space, rtrim_space]

theorem feeds_mono (l : List UInt8) (u v : Nat) (h : u ≤ v) : feeds (l.take u) ≤ feeds (l.take v) := by
  have : l.take u = (l.take v).take u := by rw [List.take_take, Nat.min_eq_left h]
  rw [this]
  exact List.Sublist.count_le _ (List.take_sublist _ _)
theorem take_snoc (l : List UInt8) (k : Nat) (h : k < l.length) : l.take (k + 1) = l.take k ++ [l[k]] := List.take_succ_eq_append_getElem h
theorem after_mono (l : List UInt8) (u : Nat) : ∀ v, u ≤ v → after (l.take u) ≤ after (l.take v) := by
  intro v h
  induction v with
  | zero => have : u = 0 := by omega
            rw [this]; omega
  | succ v ih =>
    by_cases e : u = v + 1
    · rw [e]; omega
    · by_cases hl : v < l.length
      · have h1 := ih (by omega)
        rw [take_snoc l v hl, after_snoc]
        split
        · have := after_le (l.take u)
          rw [List.length_take] at this ⊢; omega
        · exact h1
      · rw [show l.take (v + 1) = l.take v from by rw [List.take_of_length_le (by omega), List.take_of_length_le (by omega)]]
        exact ih (by omega)
/-- the beginning up to the last line has as many line feeds; a line feed is its last byte -/
theorem after_feeds (l : List UInt8) (u : Nat) : feeds (l.take (after (l.take u))) = feeds (l.take u) ∧ (after (l.take u) = 0 ∨ l[after (l.take u) - 1]? = some 10) := by
  induction u with
  | zero => simp [after]
  | succ u ih =>
    by_cases hl : u < l.length
    · rw [take_snoc l u hl, after_snoc, feeds_snoc]
      by_cases e : l[u] = 10
      · rw [if_pos e, if_pos e, List.length_take, Nat.min_eq_left (by omega), take_snoc l u hl, feeds_snoc, if_pos e]
        exact ⟨rfl, .inr (by simp [hl, e])⟩
      · rw [if_neg e, if_neg e]
        exact ih
    · rw [show l.take (u + 1) = l.take u from by rw [List.take_of_length_le (by omega), List.take_of_length_le (by omega)]]
      exact ih

end Go.Proofs.Ytedijdllbfnapaa
