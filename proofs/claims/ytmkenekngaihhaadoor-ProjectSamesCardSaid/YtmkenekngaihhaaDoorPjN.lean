/-
  Layer 49 (project): a text divided at its spaces.
-/
import Derived.Test.YtmkenekngaihhaaDoorPjL
namespace Go.Proofs.YtmkenekngaihhaaDoor
open Go.RowKit
set_option linter.unusedVariables false
set_option linter.unusedSimpArgs false
attribute [local go_sem] B_data B_size

theorem wordsGo_cur (l : List UInt8) : ∀ cur : List UInt8, ∃ h t, wordsP l = h :: t ∧ wordsGo cur l = (cur ++ h) :: t := by
  induction l with
  | nil => intro cur; exact ⟨[], [], rfl, by simp [wordsGo]⟩
  | cons c r ih =>
    intro cur
    simp only [wordsP, wordsGo]
    by_cases e : c = 32
    · rw [if_pos e, if_pos e]; exact ⟨[], _, rfl, by simp⟩
    · rw [if_neg e, if_neg e]
      obtain ⟨h, t, h1, h2⟩ := ih (cur ++ [c])
      obtain ⟨h', t', h1', h2'⟩ := ih ([] ++ [c])
      rw [h1] at h1'
      injection h1' with e1 e2
      subst e1; subst e2
      exact ⟨[c] ++ h, t, by simpa using h2', by simpa using h2⟩
theorem words_cons (c : UInt8) (r : List UInt8) (h : ¬ c = 32) : ∃ x t, wordsP r = x :: t ∧ wordsP (c :: r) = (c :: x) :: t := by
  obtain ⟨x, t, h1, h2⟩ := wordsGo_cur r [c]
  exact ⟨x, t, h1, by simp only [wordsP, wordsGo]; rw [if_neg h]; simpa using h2⟩
theorem words_space (r : List UInt8) : wordsP (32 :: r) = [] :: wordsP r := by simp [wordsP, wordsGo]
theorem split_words (l : List UInt8) : Lib.split l [32] = wordsP l := by
  induction l with
  | nil => rfl
  | cons c r ih =>
    by_cases e : c = 32
    · subst e
      rw [words_space, ← ih]
      unfold Lib.split
      rw [Lib.count_cons_eq, Nat.add_comm, Lib.splitK]
      have hi : Lib.index (32 :: r) [32] = 0 := by simp [Lib.index, List.isPrefixOf]
      simp [hi]
    · obtain ⟨x, t, h1, h2⟩ := words_cons c r e
      rw [h2]
      rw [h1] at ih
      unfold Lib.split at ih ⊢
      rw [Lib.count_cons_ne c 32 r e]
      have hp : List.isPrefixOf [32] (c :: r) = false := by simp [List.isPrefixOf]; exact fun h => e h.symm
      have hi : Lib.index (c :: r) [32] = if Lib.index r [32] == -1 then -1 else Lib.index r [32] + 1 := by
        rw [Lib.index]; simp [hp]
      cases hk : Lib.count r [32] with
      | zero =>
        rw [hk, Lib.splitK] at ih
        rw [Lib.splitK]
        injection ih with e1 e2
        rw [← e1, ← e2]
      | succ k =>
        obtain ⟨i, hidx⟩ := Lib.index_of_count (s := r) (old := [32]) (by omega)
        rw [hk, Lib.splitK, hidx] at ih
        rw [Lib.splitK, hi, hidx]
        have n1 : ¬ (((i : Int) == -1) = true) := by simp
        rw [if_neg n1] at ih
        rw [if_neg n1]
        have n2 : ¬ ((((i : Int) + 1) == -1) = true) := by simp; omega
        rw [if_neg n2]
        injection ih with e1 e2
        rw [← e1, ← e2]
        have e3 : ((i : Int) + 1).toNat = i + 1 := by omega
        have e4 : ((i : Int)).toNat = i := by omega
        rw [e3, e4]
        simp
theorem words_len (l : List UInt8) : (wordsP l).length ≤ l.length + 1 := by
  induction l with
  | nil => simp [wordsP, wordsGo]
  | cons c r ih =>
    by_cases e : c = 32
    · subst e; rw [words_space]; simp; omega
    · obtain ⟨x, t, h1, h2⟩ := words_cons c r e
      rw [h2]; rw [h1] at ih; simp at ih ⊢; omega
theorem splitW_strs (s : ByteArray) : (Lib.splitB ⟨#[32]⟩ 0 (Lib.countB s ⟨#[32]⟩) s).map Value.string = strs (wordsP s.toList) := by
  have h := Lib.splitB_data ⟨#[32]⟩ 0 (Lib.countB s ⟨#[32]⟩) s
  have h2 : Lib.splitK [32] 0 (Lib.countB s ⟨#[32]⟩) s.data.toList = wordsP s.toList := by
    rw [← split_words, ByteArray.toList_eq]; rfl
  rw [h2] at h
  rw [← h]
  unfold strs
  rw [List.map_map]
  apply List.map_congr_left
  intro x _
  show Value.string x = Value.string (B x.data.toList)
  rw [← ByteArray.toList_eq, B_self]
theorem wsplit_any (s : ByteArray) (w : World) (hs : s.size ≤ 1000000000) (hG : Fil.Glob w) :
    Calls Tryd.prog 48 #[.string s, .string ⟨#[32]⟩] w fun e w' => ∃ v, e = .returned v ∧ w'.ownsRow w.heap.size 9 1 v (wordsP s.toList).length (strs (wordsP s.toList)) ∧ Below w.heap.size w w' := by
  obtain ⟨m, hm⟩ := hG
  refine (Tryd.strings_Split s ⟨#[32]⟩ m w (by omega) hm (by decide)).mono ?_
  rintro e w' ⟨rfl, rfl⟩
  have hl : (wordsP s.toList).length = Lib.countB s ⟨#[32]⟩ + 1 := by
    have h1 := Lib.splitB_all ⟨#[32]⟩ (by decide) 0 _ s rfl
    have h2 := congrArg List.length (splitW_strs s)
    rw [List.length_map, h1, strs_len] at h2
    exact h2.symm
  refine ⟨_, rfl, ⟨by rw [strs_len, Nat.mul_one], .inr ⟨w.heap.size, Lib.countB s ⟨#[32]⟩ + 1, _, by rw [hl], Nat.le_refl _, heap_alloc_new w _, by omega, ?_, ?_, ?_⟩⟩, (Below.refl _ _).alloc (Nat.le_refl _) _⟩
  · have := words_len s.toList; rw [len_toList] at this; unfold maxLen; omega
  · rw [splitW_strs, List.size_toArray, strs_len, hl, Nat.mul_one]
  · rw [splitW_strs]
    show (strs (wordsP s.toList)).take _ = _
    rw [List.take_of_length_le (by rw [strs_len, Nat.mul_one]; exact Nat.le_refl _)]
theorem wordsGo_head (cur l : List UInt8) : ∃ h t, wordsGo cur l = (cur ++ h) :: t := by
  obtain ⟨h, t, _, h2⟩ := wordsGo_cur l cur
  exact ⟨h, t, h2⟩
theorem strs_app1 (a : List (List UInt8)) (x : List UInt8) : strs a ++ [.string (B x)] = strs (a ++ [x]) := by simp [strs]
/-- what a row of strings of the call's own reads -/
theorem own_cells {w : World} {base n : Nat} {v : Value} {ls : List (List UInt8)} (h : w.ownsRow base 9 1 v n (strs ls)) (h0 : 0 < n) : ∃ g c, v = .slice (some ⟨g, 0, none⟩) n c ∧ base ≤ g ∧ ∀ j, j < n → w.cell? ⟨g, j, none⟩ = some (.string (B (ls.getD j []))) := by
  have hl : ls.length = n := by have := h.1; rw [strs_len] at this; omega
  rcases h.2 with ⟨_, h1⟩ | ⟨g, cap, cur, hv, hb, hg, _⟩
  · omega
  · refine ⟨g, cap, hv, hb, fun j hj => ?_⟩
    have hc := h.cells (g := g) (by rw [hv]; rfl) j (.string (B (ls.getD j []))) (by
      unfold strs
      rw [List.getElem?_map, List.getElem?_eq_getElem (by omega)]
      simp [List.getD_eq_getElem?_getD, List.getElem?_eq_getElem (show j < ls.length by omega)])
    rw [addr_lit, Nat.zero_add] at hc
    exact hc
/-- a target, and whether it is one -/
def TRet (o : Option Tg) (w : World) (e : Ending) (w' : World) : Prop := (match o with
  | some t => e = .returned (.tuple #[.agg #[.string (B t.nm), .string (B t.kd), .int .i64 t.pg, .int .i64 t.wd], .bool true])
  | none => ∃ x y a b, e = .returned (.tuple #[.agg #[.string x, .string y, .int .i64 a, .int .i64 b], .bool false])) ∧ Below w.heap.size w w'
theorem tret_some {o : Option Tg} {n k : List UInt8} {a b : Int} {w w' : World} (h : Hid (o = some ⟨n, k, a, b⟩)) (hb : Below w.heap.size w w') : TRet o w (.returned (.tuple #[.agg #[.string (B n), .string (B k), .int .i64 a, .int .i64 b], .bool true])) w' := by unfold TRet; rw [h.out]; exact ⟨rfl, hb⟩
theorem tret_none {o : Option Tg} {x y : ByteArray} {a b : Int} {w w' : World} (h : Hid (o = none)) (hb : Below w.heap.size w w') : TRet o w (.returned (.tuple #[.agg #[.string x, .string y, .int .i64 a, .int .i64 b], .bool false])) w' := by unfold TRet; rw [h.out]; exact ⟨⟨x, y, a, b, rfl⟩, hb⟩
theorem tP_bad {s : List UInt8} (h : [] ∈ wordsP s) : targetP s = none := by unfold targetP; rw [if_pos h]
theorem tP_len {s : List UInt8} (h : (wordsP s).length ≠ 2 ∧ (wordsP s).length ≠ 4) : targetP s = none := by
  unfold targetP
  split
  · rfl
  · split
    · rename_i e; rw [e] at h; exact absurd rfl h.1
    · rename_i e; rw [e] at h; exact absurd rfl h.2
    · rfl
theorem tP_two {s : List UInt8} (h0 : [] ∉ wordsP s) (h : (wordsP s).length = 2) : targetP s = if (wordsP s).getD 1 [] = kPages then none else some ⟨(wordsP s).getD 0 [], (wordsP s).getD 1 [], 0, 0⟩ := by
  unfold targetP
  rw [if_neg h0]
  match hw : wordsP s, h with
  | [a, b], _ => rfl
theorem tP_four {s : List UInt8} (h0 : [] ∉ wordsP s) (h : (wordsP s).length = 4) : targetP s = if (wordsP s).getD 1 [] = kPages then (match numP ((wordsP s).getD 2 []), numP ((wordsP s).getD 3 []) with
    | some x, some y => some ⟨(wordsP s).getD 0 [], (wordsP s).getD 1 [], x, y⟩
    | _, _ => none) else none := by
  unfold targetP
  rw [if_neg h0]
  match hw : wordsP s, h with
  | [a, b, c, d], _ => rfl
end Go.Proofs.YtmkenekngaihhaaDoor
