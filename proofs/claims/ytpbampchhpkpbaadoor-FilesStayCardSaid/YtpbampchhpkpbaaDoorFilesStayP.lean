/-
  Layer 16 (files): the plain law of FilesStay: set and drop keep a list sorted, free of twins and of normal names; what was set is found, what was dropped is not.
-/
import Derived.Test.YtpbampchhpkpbaaDoorFilesW
import Derived.Test.YtpbampchhpkpbaaDoorFilesQ
namespace Go.Proofs.YtpbampchhpkpbaaDoor
open Go.RowKit
set_option linter.unusedVariables false

theorem bl_irrefl (a : List UInt8) : Op.bytesLess a a = false := by
  induction a with
  | nil => rfl
  | cons x r ih => simp [Op.bytesLess, ih]
theorem bl_trans : ∀ (a b c : List UInt8), Op.bytesLess a b = true → Op.bytesLess b c = true → Op.bytesLess a c = true := by
  intro a
  induction a with
  | nil =>
    intro b c h1 h2
    cases b with
    | nil => simp [Op.bytesLess] at h1
    | cons y r => cases c with
      | nil => simp [Op.bytesLess] at h2
      | cons z q => rfl
  | cons x p ih =>
    intro b c h1 h2
    cases b with
    | nil => simp [Op.bytesLess] at h1
    | cons y r => cases c with
      | nil => simp [Op.bytesLess] at h2
      | cons z q =>
        simp only [Op.bytesLess, Bool.or_eq_true, decide_eq_true_eq, Bool.and_eq_true, beq_iff_eq] at h1 h2 ⊢
        rcases h1 with h1 | ⟨rfl, h1⟩ <;> rcases h2 with h2 | ⟨rfl, h2⟩
        · exact .inl (UInt8.lt_trans h1 h2)
        · exact .inl h1
        · exact .inl h2
        · exact .inr ⟨rfl, ih _ _ h1 h2⟩
theorem bl_tri : ∀ (a b : List UInt8), Op.bytesLess a b = true ∨ a = b ∨ Op.bytesLess b a = true := by
  intro a
  induction a with
  | nil => intro b; cases b <;> simp [Op.bytesLess]
  | cons x p ih =>
    intro b
    cases b with
    | nil => simp [Op.bytesLess]
    | cons y r =>
      simp only [Op.bytesLess, Bool.or_eq_true, decide_eq_true_eq, Bool.and_eq_true, beq_iff_eq]
      have h : x < y ∨ x = y ∨ y < x := by
        simp only [UInt8.lt_iff_toNat_lt, ← UInt8.toNat_inj]; omega
      rcases h with h | rfl | h
      · exact .inl (.inl h)
      · rcases ih r with h | rfl | h
        · exact .inl (.inr ⟨rfl, h⟩)
        · exact .inr (.inl rfl)
        · exact .inr (.inr (.inr ⟨rfl, h⟩))
      · exact .inr (.inr (.inl h))

def Good (fs : List (List UInt8 × List UInt8)) : Prop := (fs.map (·.1)).Pairwise (fun a b => Op.bytesLess a b = true) ∧ ∀ f ∈ fs, clean f.1 = f.1 ∧ f.1 ≠ []
theorem good_nil : Good [] := ⟨List.Pairwise.nil, by simp⟩

theorem checkFrom_zero (fs : List (List UInt8 × List UInt8)) : ∀ m k, (∀ j, k ≤ j → j < k + m → stepC fs j = 0) → checkFrom fs m k = 0 := by
  intro m
  induction m with
  | zero => intro k _; rfl
  | succ m ih =>
    intro k h
    rw [checkFrom, if_neg (by rw [h k (Nat.le_refl _) (by omega)]; simp)]
    exact ih (k + 1) (fun j h1 h2 => h j (by omega) (by omega))
theorem good_check {fs : List (List UInt8 × List UInt8)} (h : Good fs) (hl : fs.length ≤ 128) : checkL fs = 0 := by
  unfold checkL
  rw [if_neg (by omega)]
  apply checkFrom_zero
  intro j _ hj
  have hj : j < fs.length := by omega
  have e1 : fs[j]?.getD ([], []) = fs[j] := by simp [hj]
  obtain ⟨g1, g2⟩ := h.2 fs[j] (List.getElem_mem hj)
  unfold stepC stepP
  rw [e1, g1, if_neg (by simp [g2])]
  by_cases h0 : j = 0
  · rw [if_pos h0]
  · rw [if_neg h0]
    have e2 : fs[j - 1]?.getD ([], []) = fs[j - 1] := by simp [show j - 1 < fs.length from by omega]
    have hp := (List.pairwise_iff_getElem.1 h.1) (j - 1) j (by simp; omega) (by simpa using hj) (by omega)
    simp only [List.getElem_map] at hp
    rw [e2, hp]
    have hne : fs[j - 1].1 ≠ fs[j].1 := by
      intro e; rw [e, bl_irrefl] at hp; cases hp
    simp [hne]
theorem findL_none (name : List UInt8) (fs : List (List UInt8 × List UInt8)) : ∀ i : Nat, findL name fs i < 0 → ∀ f ∈ fs, f.1 ≠ name := by
  induction fs with
  | nil => intro i _ f hf; simp at hf
  | cons x r ih =>
    intro i h f hf
    rw [findL] at h
    by_cases e : x.1 = name
    · rw [if_pos e] at h; omega
    · rw [if_neg e] at h
      rcases List.mem_cons.1 hf with rfl | hf
      · exact e
      · exact ih (i + 1) h f hf
theorem findL_some (name : List UInt8) (fs : List (List UInt8 × List UInt8)) (i : Nat) (h : ¬ findL name fs i < 0) : ∃ k, findL name fs i = ((i + k : Nat) : Int) ∧ k < fs.length ∧ (fs[k]?.getD ([], [])).1 = name := by
  rcases findL_cases name fs i with e | ⟨k, hk, e, hn⟩
  · omega
  · exact ⟨k, e, hk, hn⟩

def insF (f : List UInt8 × List UInt8) : List (List UInt8 × List UInt8) → List (List UInt8 × List UInt8)
  | [] => [f]
  | x :: r => if leB x.1 f.1 = true then x :: insF f r else f :: x :: r
theorem ins_eq (f : List UInt8 × List UInt8) (fs : List (List UInt8 × List UInt8)) : fs.take (atGo f.1 fs) ++ f :: fs.drop (atGo f.1 fs) = insF f fs := by
  induction fs with
  | nil => rfl
  | cons x r ih =>
    simp only [atGo, insF]
    by_cases h : leB x.1 f.1 = true
    · rw [if_pos h, if_pos h, List.take_succ_cons, List.drop_succ_cons, List.cons_append, ih]
    · rw [if_neg h, if_neg h]; rfl
theorem mem_ins (f y : List UInt8 × List UInt8) (fs : List (List UInt8 × List UInt8)) : y ∈ insF f fs ↔ y = f ∨ y ∈ fs := by
  induction fs with
  | nil => simp [insF]
  | cons x r ih =>
    simp only [insF]
    split
    · simp only [List.mem_cons, ih]
      constructor
      · rintro (h | h | h) <;> simp [h]
      · rintro (h | h | h) <;> simp [h]
    · simp only [List.mem_cons]
theorem len_ins (f : List UInt8 × List UInt8) (fs : List (List UInt8 × List UInt8)) : (insF f fs).length = fs.length + 1 := by
  induction fs with
  | nil => rfl
  | cons x r ih =>
    simp only [insF]
    split <;> simp [ih]
theorem pw_map {fs : List (List UInt8 × List UInt8)} : (fs.map (·.1)).Pairwise (fun a b => Op.bytesLess a b = true) ↔ fs.Pairwise (fun a b => Op.bytesLess a.1 b.1 = true) := List.pairwise_map
theorem ins_pw (f : List UInt8 × List UInt8) (fs : List (List UInt8 × List UInt8)) (h : fs.Pairwise (fun a b => Op.bytesLess a.1 b.1 = true)) (hn : ∀ g ∈ fs, g.1 ≠ f.1) : (insF f fs).Pairwise (fun a b => Op.bytesLess a.1 b.1 = true) := by
  induction fs with
  | nil => simp [insF]
  | cons x r ih =>
    rw [List.pairwise_cons] at h
    obtain ⟨h1, h2⟩ := h
    simp only [insF]
    have hx := hn x (List.mem_cons_self ..)
    by_cases hl : leB x.1 f.1 = true
    · rw [if_pos hl, List.pairwise_cons]
      refine ⟨fun y hy => ?_, ih h2 (fun g hg => hn g (List.mem_cons_of_mem _ hg))⟩
      rcases (mem_ins f y r).1 hy with rfl | hy
      · unfold leB at hl
        simpa [hx] using hl
      · exact h1 y hy
    · rw [if_neg hl, List.pairwise_cons, List.pairwise_cons]
      have hfx : Op.bytesLess f.1 x.1 = true := by
        unfold leB at hl
        simp [hx] at hl
        rcases bl_tri f.1 x.1 with h | h | h
        · exact h
        · exact absurd h.symm hx
        · rw [hl] at h; cases h
      refine ⟨fun y hy => ?_, h1, h2⟩
      rcases List.mem_cons.1 hy with rfl | hy
      · exact hfx
      · exact bl_trans _ _ _ hfx (h1 y hy)
theorem map_set (fs : List (List UInt8 × List UInt8)) (k : Nat) (f : List UInt8 × List UInt8) (hk : k < fs.length) (h : (fs[k]?.getD ([], [])).1 = f.1) : (fs.set k f).map (·.1) = fs.map (·.1) := by
  rw [List.map_set]
  have e : f.1 = (fs.map (·.1))[k]'(by simpa using hk) := by rw [List.getElem_map]; rw [← h]; simp [hk]
  rw [e, List.set_getElem_self]
theorem set_good {fs : List (List UInt8 × List UInt8)} {f : List UInt8 × List UInt8} (h : Good fs) (hf : clean f.1 = f.1) (h0 : f.1 ≠ []) : Good (setL fs f) ∧ f ∈ setL fs f ∧ (setL fs f).length ≤ fs.length + 1 := by
  unfold setL
  by_cases hi : findL f.1 fs 0 < 0
  · rw [if_pos hi, ins_eq]
    have hn := findL_none f.1 fs 0 hi
    refine ⟨⟨pw_map.2 (ins_pw f fs (pw_map.1 h.1) hn), fun g hg => ?_⟩, (mem_ins f f fs).2 (.inl rfl), by rw [len_ins]; omega⟩
    rcases (mem_ins f g fs).1 hg with rfl | hg
    · exact ⟨hf, h0⟩
    · exact h.2 g hg
  · rw [if_neg hi]
    obtain ⟨k, e, hk, hn⟩ := findL_some f.1 fs 0 hi
    have e' : (findL f.1 fs 0).toNat = k := by omega
    rw [e']
    refine ⟨⟨by rw [map_set fs k f hk hn]; exact h.1, fun g hg => ?_⟩, ?_, by simp⟩
    · rcases List.mem_or_eq_of_mem_set hg with hg | rfl
      · exact h.2 g hg
      · exact ⟨hf, h0⟩
    · exact List.mem_set hk f
theorem good_inj {fs : List (List UInt8 × List UInt8)} (h : Good fs) {f g : List UInt8 × List UInt8} (hf : f ∈ fs) (hg : g ∈ fs) (e : f.1 = g.1) : f = g := by
  obtain ⟨i, hi, rfl⟩ := List.getElem_of_mem hf
  obtain ⟨j, hj, rfl⟩ := List.getElem_of_mem hg
  have hp := List.pairwise_iff_getElem.1 (pw_map.1 h.1)
  rcases Nat.lt_trichotomy i j with h | rfl | h
  · have := hp i j hi hj h; rw [e, bl_irrefl] at this; cases this
  · rfl
  · have := hp j i hj hi h; rw [e, bl_irrefl] at this; cases this
theorem get_yes {fs : List (List UInt8 × List UInt8)} {f : List UInt8 × List UInt8} (h : Good fs) (hf : f ∈ fs) : GetRet fs f.1 = .returned (.tuple #[.string (B f.2), .bool true]) := by
  unfold GetRet
  by_cases hi : findL f.1 fs 0 < 0
  · exact absurd rfl (findL_none f.1 fs 0 hi f hf)
  · rw [if_neg hi]
    obtain ⟨k, e, hk, hn⟩ := findL_some f.1 fs 0 hi
    have e' : (findL f.1 fs 0).toNat = k := by omega
    rw [e', good_inj h (fl_mem fs k hk) hf hn]
theorem get_no {fs : List (List UInt8 × List UInt8)} {name : List UInt8} (h : ∀ f ∈ fs, f.1 ≠ name) : GetRet fs name = .returned (.tuple #[.string ⟨#[]⟩, .bool false]) := by
  unfold GetRet
  by_cases hi : findL name fs 0 < 0
  · rw [if_pos hi]
  · obtain ⟨k, e, hk, hn⟩ := findL_some name fs 0 hi
    exact absurd hn (h _ (fl_mem fs k hk))
theorem drop_good {fs : List (List UInt8 × List UInt8)} (h : Good fs) (name : List UInt8) : Good (dropL fs name) ∧ (∀ f ∈ dropL fs name, f.1 ≠ name) ∧ (dropL fs name).length ≤ fs.length := by
  unfold dropL
  by_cases hi : findL name fs 0 < 0
  · rw [if_pos hi]
    exact ⟨h, findL_none name fs 0 hi, Nat.le_refl _⟩
  · rw [if_neg hi]
    obtain ⟨k, e, hk, hn⟩ := findL_some name fs 0 hi
    have e' : (findL name fs 0).toNat = k := by omega
    rw [e', ← List.eraseIdx_eq_take_drop_succ]
    have hs : (fs.eraseIdx k).Sublist fs := List.eraseIdx_sublist fs k
    refine ⟨⟨pw_map.2 ((pw_map.1 h.1).sublist hs), fun g hg => h.2 g (hs.subset hg)⟩, fun g hg hne => ?_, hs.length_le⟩
    obtain ⟨i, hlt, hik, e2⟩ := List.mem_eraseIdx_iff_getElem.1 hg
    have hp := List.pairwise_iff_getElem.1 (pw_map.1 h.1)
    have ek : (fs[k]?.getD ([], [])) = fs[k] := by simp [hk]
    rw [ek] at hn
    rcases Nat.lt_trichotomy i k with h | rfl | h
    · have := hp i k hlt hk h; rw [e2, hne, hn, bl_irrefl] at this; cases this
    · omega
    · have := hp k i hk hlt h; rw [e2, hne, hn, bl_irrefl] at this; cases this

end Go.Proofs.YtpbampchhpkpbaaDoor
