/-
  Layer 16 (files): the plain functions: what the parts of a path, its names joined, its normal form are.
-/
import Derived.Test.YtpbampchhpkpbaaDoorFilesA
namespace Go.Proofs.YtpbampchhpkpbaaDoor
set_option linter.unusedSimpArgs false
set_option linter.unusedVariables false

/-- the parts of a path of which cur has been read since the last slash -/
def partsGo (cur : List UInt8) : List UInt8 → List (List UInt8)
  | [] => [cur]
  | c :: r => if c = 47 then cur :: partsGo [] r else partsGo (cur ++ [c]) r
def parts (l : List UInt8) : List (List UInt8) := partsGo [] l

theorem partsGo_cur (l : List UInt8) : ∀ cur : List UInt8, ∃ h t, parts l = h :: t ∧ partsGo cur l = (cur ++ h) :: t := by
  induction l with
  | nil => intro cur; exact ⟨[], [], rfl, by simp [partsGo]⟩
  | cons c r ih =>
    intro cur
    simp only [parts, partsGo]
    by_cases e : c = 47
    · rw [if_pos e, if_pos e]; exact ⟨[], _, rfl, by simp⟩
    · rw [if_neg e, if_neg e]
      obtain ⟨h, t, h1, h2⟩ := ih (cur ++ [c])
      obtain ⟨h', t', h1', h2'⟩ := ih ([] ++ [c])
      rw [h1] at h1'
      injection h1' with e1 e2
      subst e1; subst e2
      exact ⟨[c] ++ h, t, by simpa using h2', by simpa using h2⟩
theorem parts_cons (c : UInt8) (r : List UInt8) (h : ¬ c = 47) : ∃ x t, parts r = x :: t ∧ parts (c :: r) = (c :: x) :: t := by
  obtain ⟨x, t, h1, h2⟩ := partsGo_cur r [c]
  exact ⟨x, t, h1, by simp only [parts, partsGo]; rw [if_neg h]; simpa using h2⟩
theorem parts_slash (r : List UInt8) : parts (47 :: r) = [] :: parts r := by simp [parts, partsGo]

theorem split_parts (l : List UInt8) : Lib.split l [47] = parts l := by
  induction l with
  | nil => rfl
  | cons c r ih =>
    by_cases e : c = 47
    · subst e
      rw [parts_slash, ← ih]
      unfold Lib.split
      rw [Lib.count_cons_eq, Nat.add_comm, Lib.splitK]
      have hi : Lib.index (47 :: r) [47] = 0 := by simp [Lib.index, List.isPrefixOf]
      simp [hi]
    · obtain ⟨x, t, h1, h2⟩ := parts_cons c r e
      rw [h2]
      rw [h1] at ih
      unfold Lib.split at ih ⊢
      rw [Lib.count_cons_ne c 47 r e]
      have hp : List.isPrefixOf [47] (c :: r) = false := by simp [List.isPrefixOf]; exact fun h => e h.symm
      have hi : Lib.index (c :: r) [47] = if Lib.index r [47] == -1 then -1 else Lib.index r [47] + 1 := by
        rw [Lib.index]; simp [hp]
      cases hk : Lib.count r [47] with
      | zero =>
        rw [hk, Lib.splitK] at ih
        rw [Lib.splitK]
        injection ih with e1 e2
        rw [← e1, ← e2]
      | succ k =>
        obtain ⟨i, hidx⟩ := Lib.index_of_count (s := r) (old := [47]) (by omega)
        rw [hk, Lib.splitK, hidx] at ih
        rw [Lib.splitK, hi, hidx]
        have n1 : ¬ (((i : Int) == -1) = true) := by simp
        rw [if_neg n1] at ih
        rw [if_neg n1]
        have n2 : ¬ ((((i : Int) + 1) == -1) = true) := by simp; omega
        rw [if_neg n2]
        injection ih with e1 e2
        rw [← e1, ← e2]
        have e3 : ((i : Int) + 1).toNat = i + 1 := by omega
        have e4 : ((i : Int)).toNat = i := by omega
        rw [e3, e4]
        simp

/-- names, separated by slashes -/
def joinSl (ls : List (List UInt8)) : List UInt8 := Lib.join ls [47]

/-- the names that are left of the parts of a path; none: the path is not valid -/
def cleanGo (kept : List (List UInt8)) : List (List UInt8) → Option (List (List UInt8))
  | [] => some kept
  | p :: r =>
    if p = [] ∨ p = [46] then cleanGo kept r
    else if p = [46, 46] then (if kept = [] then none else cleanGo kept.dropLast r)
    else if nameB p = false then none
    else cleanGo (kept ++ [p]) r
/-- the normal form of a path; the empty list: there is none -/
def cleanK (k : Option (List (List UInt8))) : List UInt8 :=
  match k with
  | none => []
  | some ks => if (joinSl ks).length ≤ 200 then joinSl ks else []
def clean (l : List UInt8) : List UInt8 := cleanK (cleanGo [] (parts l))
def errK (l : List UInt8) : Int := if l = [] then 6 else 0

theorem lt_parts (l : List UInt8) : (parts l).length = l.count 47 + 1 := by
  induction l with
  | nil => rfl
  | cons c r ih =>
    by_cases e : c = 47
    · subst e; rw [parts_slash, List.length_cons, ih]; simp
    · obtain ⟨x, t, h1, h2⟩ := parts_cons c r e
      rw [h2, List.count_cons_of_ne (fun h => e h), ← ih, h1]; simp
theorem parts_le (l : List UInt8) : (parts l).length ≤ l.length + 1 := by
  rw [lt_parts]; have := List.count_le_length (a := (47 : UInt8)) (l := l); omega

end Go.Proofs.YtpbampchhpkpbaaDoor
