/-
  Layer 35 (archive): plain laws: what was read is what is written; a cut archive; a spoilt archive.
-/
import Derived.Test.YtofbcblhpflleaaDoorArcP
namespace Go.Proofs.YtofbcblhpflleaaDoor
open Go.RowKit
set_option linter.unusedVariables false

theorem fin_dir {fs gs : List (List UInt8 × List UInt8)} {r : List UInt8} (h : finL fs r = (gs, 0)) : gs = fs ∧ r = dirT fs (crcs fs) ∧ acheck fs = 0 := by
  unfold finL at h
  by_cases a : acheck fs ≠ 0
  · rw [if_pos a] at h; cases h
  rw [if_neg a] at h
  generalize dirT fs (crcs fs) = d at h ⊢
  by_cases b : r.take (min r.length d.length) ≠ d.take (min r.length d.length) ∨ d.length < r.length
  · rw [if_pos b] at h; cases h
  rw [if_neg b] at h
  by_cases c : r.length < d.length
  · rw [if_pos c] at h; cases h
  rw [if_neg c] at h
  have hl : r.length = d.length := by
    have : ¬ d.length < r.length := fun e => b (Or.inr e)
    omega
  have e : r.take (min r.length d.length) = d.take (min r.length d.length) := Classical.byContradiction fun e => b (Or.inl e)
  rw [hl, Nat.min_self, List.take_length, ← hl, List.take_length] at e
  refine ⟨?_, e, Classical.byContradiction a⟩
  injection h with h1 h2
  exact h1.symm
theorem cut_split (s : List UInt8) (a b : Nat) (h : a ≤ b) : s.drop a = cutL s a b ++ s.drop b := by
  unfold cutL
  have e : s.drop b = (s.drop a).drop (b - a) := by rw [List.drop_drop]; congr 1; omega
  rw [List.drop_take, e, List.take_append_drop]
theorem pre_head {s : List UInt8} (h : preB s headL = true) : s = headL ++ s.drop 4 := by
  unfold preB at h
  rw [Bool.and_eq_true] at h
  have e : s.take 4 = headL := by simpa [headL] using h.2
  rw [← e, List.take_append_drop]
theorem part_back {s : List UInt8} (h1 : preB s headL = true) (h2 : partE s = 0) : s = locT (pName s, pData s) ++ s.drop (30 + (pName s).length + (pData s).length) := by
  have hs := part_len h2
  have e1 := pre_head h1
  have e2 := cut_split s 4 30 (by omega)
  have e3 := cut_split s 30 (30 + pNames s) (by omega)
  have e4 := cut_split s (30 + pNames s) (30 + pNames s + pSize s) (by omega)
  unfold partE at h2
  rw [if_neg (by omega)] at h2
  by_cases b : s.length - 30 < pNames s + pSize s
  · rw [if_pos b] at h2; cases h2
  rw [if_neg b] at h2
  by_cases c : cutL s 4 30 ≠ comL (pName s).length (pData s).length (pSum s)
  · rw [if_pos c] at h2; cases h2
  have c' : cutL s 4 30 = comL (pName s).length (pData s).length (pSum s) := Classical.byContradiction c
  have n1 : (pName s).length = pNames s := by unfold pName; rw [cut_len]; omega
  have n2 : (pData s).length = pSize s := by unfold pData; rw [cut_len]; omega
  rw [c', hs.2.2] at e2
  have e3' : s.drop 30 = pName s ++ s.drop (30 + pNames s) := e3
  have e4' : s.drop (30 + pNames s) = pData s ++ s.drop (30 + pNames s + pSize s) := e4
  rw [e4'] at e3'
  rw [e3'] at e2
  rw [e2] at e1
  refine e1.trans ?_
  rw [n1, n2]
  simp [locT, locP, headL, n1, n2]
theorem put_get : ∀ (k : Nat) (s : List UInt8) (fs gs : List (List UInt8 × List UInt8)), s.length < k → getG s fs = (gs, 0) → ∃ hs, gs = fs ++ hs ∧ s = locs hs ++ dirT gs (crcs gs) ∧ acheck gs = 0 := by
  intro k
  induction k with
  | zero => intro s fs gs h; omega
  | succ k ih =>
    intro s fs gs hk h
    by_cases a : s.length < 4 ∧ preB headL s = true
    · rw [getG_end a] at h; cases h
    by_cases b : preB s headL = false
    · rw [getG_fin a b] at h
      obtain ⟨e1, e2, e3⟩ := fin_dir h
      exact ⟨[], by simp [e1], by rw [e1, e2]; rfl, by rw [e1]; exact e3⟩
    have b' : preB s headL = true := by simpa using b
    by_cases c : partE s = 0
    · rw [getG_next a b' c] at h
      have hl := (part_len c).1
      obtain ⟨hs, e1, e2, e3⟩ := ih _ _ _ (by rw [List.length_drop]; omega) h
      refine ⟨(pName s, pData s) :: hs, by rw [e1]; simp, ?_, e3⟩
      have e4 := part_back b' c
      rw [e2] at e4
      refine e4.trans ?_
      simp [locs]
    · rw [getG_bad a b' c] at h
      injection h with h1 h2
      exact absurd h2 c
/-- what is read is what was written -/
theorem get_back {s : List UInt8} {gs : List (List UInt8 × List UInt8)} (h : getG s [] = (gs, 0)) : acheck gs = 0 ∧ putT gs = s := by
  obtain ⟨hs, e1, e2, e3⟩ := put_get _ s [] gs (Nat.lt_succ_self _) h
  rw [List.nil_append] at e1
  subst e1
  exact ⟨e3, e2.symm⟩
/-- a changed byte -/
theorem get_spoil (a b : List (List UInt8 × List UInt8)) (nm x y rest : List UInt8) (p q : UInt8) (ha : ∀ f ∈ a, Fits f) (hf : Fits (nm, x ++ p :: y)) (hpq : p ≠ q) :
    getG (locs a ++ ((locP (nm, x ++ q :: y) (crc (x ++ p :: y))).flatten ++ rest)) [] = ([], 14) := by
  rw [getG_locs a ha, List.nil_append]
  have hf' : Fits (nm, x ++ q :: y) := ⟨hf.1, by have := hf.2; simp only [List.length_append, List.length_cons] at this ⊢; exact this⟩
  have hp := partE_loc (nm, x ++ q :: y) hf' (crc (x ++ p :: y)) (crc_lt _) rest
  rw [if_pos (crc_change x y q p (fun e => hpq e.symm))] at hp
  rw [getG_bad (not_end (by rw [List.length_append, locP_len]; unfold sizeF; omega)) (pre_loc _ _ rest) (by rw [hp]; decide), hp]
/-- a beginning of the directory -/
theorem fin_cut (fs : List (List UInt8 × List UInt8)) (h : acheck fs = 0) (n : Nat) (hn : n < (dirT fs (crcs fs)).length) : finL fs ((dirT fs (crcs fs)).take n) = ([], 4) := by
  unfold finL
  rw [if_neg (by simp [h])]
  generalize dirT fs (crcs fs) = d at hn ⊢
  have hl : (d.take n).length = n := by rw [List.length_take]; omega
  rw [hl, Nat.min_eq_left (by omega), if_neg (by rw [List.take_take, Nat.min_self]; simp; omega), if_pos hn]
theorem cut_dir (fs : List (List UInt8 × List UInt8)) (h : acheck fs = 0) (n : Nat) (hn : n < (dirT fs (crcs fs)).length) : getG ((dirT fs (crcs fs)).take n) fs = ([], 4) := by
  obtain ⟨c, t, e, hc, ht⟩ := dir_head fs (crcs fs)
  by_cases a : ((dirT fs (crcs fs)).take n).length < 4 ∧ preB headL ((dirT fs (crcs fs)).take n) = true
  · exact getG_end a
  · rw [getG_fin a ?_, fin_cut fs h n hn]
    rw [e]
    match n with
    | 0 => rfl
    | 1 => rfl
    | 2 => rfl
    | n + 3 => exact pre_dir hc
theorem cut_take (s : List UInt8) (a b n : Nat) (h : b ≤ n) : cutL (s.take n) a b = cutL s a b := by
  unfold cutL
  rw [List.take_take, Nat.min_eq_left h]
theorem head_take (n : Nat) (h : n < 4) (t : List UInt8) : ((headL ++ t).take n).length < 4 ∧ preB headL ((headL ++ t).take n) = true := by
  match n with
  | 0 => exact ⟨by simp, rfl⟩
  | 1 => exact ⟨by simp [headL], rfl⟩
  | 2 => exact ⟨by simp [headL], rfl⟩
  | 3 => exact ⟨by simp [headL], rfl⟩
  | n + 4 => omega
theorem cut_loc (f : List UInt8 × List UInt8) (hf : Fits f) (rest : List UInt8) (n : Nat) (hn : n < sizeF f) (gs : List (List UInt8 × List UInt8)) : getG ((locT f ++ rest).take n) gs = ([], 4) := by
  have hl : (locT f ++ rest).length = sizeF f + rest.length := by rw [List.length_append, locT_len]
  have hln : ((locT f ++ rest).take n).length = n := by rw [List.length_take]; omega
  have e : locT f ++ rest = headL ++ (comL f.1.length f.2.length (crc f.2) ++ f.1 ++ f.2 ++ rest) := by simp [locT, locP, headL]
  by_cases h4 : n < 4
  · rw [e]; exact getG_end (head_take n h4 _)
  have hp : preB ((locT f ++ rest).take n) headL = true := by
    unfold preB
    rw [hln, List.take_take, show headL.length = 4 from rfl, Nat.min_eq_left (by omega), e]
    simp [headL]; omega
  have hE : partE ((locT f ++ rest).take n) = 4 := by
    obtain ⟨h1, h2, h3, _⟩ := part_loc f hf (crc f.2) (crc_lt _) rest
    unfold partE
    rw [hln]
    by_cases h30 : n < 30
    · rw [if_pos h30]
    rw [if_neg h30, if_pos ?_]
    have p1 : pNames ((locT f ++ rest).take n) = pNames (locT f ++ rest) := by unfold pNames; rw [cut_take _ _ _ _ (by omega)]
    have p2 : pSize ((locT f ++ rest).take n) = pSize (locT f ++ rest) := by unfold pSize; rw [cut_take _ _ _ _ (by omega)]
    rw [p1, p2, show pNames (locT f ++ rest) = f.1.length from h2, show pSize (locT f ++ rest) = f.2.length from h1]
    unfold sizeF at hn
    omega
  rw [getG_bad (not_end (by omega)) hp (by rw [hE]; decide), hE]
theorem cut_locs (fs : List (List UInt8 × List UInt8)) (h : acheck fs = 0) (hs : List (List UInt8 × List UInt8)) : ∀ (gs : List (List UInt8 × List UInt8)) (n : Nat), (∀ f ∈ hs, Fits f) → gs ++ hs = fs → n < (locs hs ++ dirT fs (crcs fs)).length →
    getG ((locs hs ++ dirT fs (crcs fs)).take n) gs = ([], 4) := by
  induction hs with
  | nil =>
    intro gs n hf e hn
    rw [List.append_nil] at e
    subst e
    exact cut_dir gs h n hn
  | cons f r ih =>
    intro gs n hf e hn
    have e1 : locs (f :: r) ++ dirT fs (crcs fs) = locT f ++ (locs r ++ dirT fs (crcs fs)) := by simp [locs]
    rw [e1] at hn ⊢
    by_cases hl : n < sizeF f
    · exact cut_loc f (hf f (List.mem_cons_self ..)) _ n hl gs
    · rw [List.take_append, List.take_of_length_le (by rw [locT_len]; omega), getG_loc f (hf f (List.mem_cons_self ..)), locT_len]
      refine ih _ _ (fun g hg => hf g (List.mem_cons_of_mem _ hg)) (by rw [← e]; simp) ?_
      rw [List.length_append, locT_len] at hn
      omega
/-- a proper beginning of an archive ends too early -/
theorem get_cut (fs : List (List UInt8 × List UInt8)) (hf : ∀ f ∈ fs, Fits f) (h : acheck fs = 0) (n : Nat) (hn : n < (putT fs).length) : getG ((putT fs).take n) [] = ([], 4) :=
  cut_locs fs h fs [] n hf rfl hn
end Go.Proofs.YtofbcblhpflleaaDoor
