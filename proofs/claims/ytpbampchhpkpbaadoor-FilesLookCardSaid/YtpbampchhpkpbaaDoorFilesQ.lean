/-
  Layer 16 (files): the plain laws of normal forms.
-/
import Derived.Test.YtpbampchhpkpbaaDoorFilesF
namespace Go.Proofs.YtpbampchhpkpbaaDoor
set_option linter.unusedSimpArgs false
set_option linter.unusedVariables false

theorem cleanGo_names (ps : List (List UInt8)) : ∀ kept ks, cleanGo kept ps = some ks → (∀ k ∈ kept, nameB k = true) → ∀ k ∈ ks, nameB k = true := by
  induction ps with
  | nil => intro kept ks h hk; simp only [cleanGo] at h; injection h with h; rw [← h]; exact hk
  | cons p r ih =>
    intro kept ks h hk
    rw [cleanGo] at h
    by_cases h0 : p = [] ∨ p = [46]
    · rw [if_pos h0] at h; exact ih kept ks h hk
    · rw [if_neg h0] at h
      by_cases h1 : p = [46, 46]
      · rw [if_pos h1] at h
        by_cases h2 : kept = []
        · rw [if_pos h2] at h; cases h
        · rw [if_neg h2] at h; exact ih _ ks h fun k hm => hk k (List.dropLast_subset _ hm)
      · rw [if_neg h1] at h
        by_cases h3 : nameB p = false
        · rw [if_pos h3] at h; cases h
        · rw [if_neg h3] at h
          refine ih _ ks h fun k hm => ?_
          rcases List.mem_append.1 hm with hm | hm
          · exact hk k hm
          · rw [List.mem_singleton.1 hm]; simpa using h3
theorem clean_form (l : List UInt8) : clean l = [] ∨ ∃ ks, ks ≠ [] ∧ (∀ k ∈ ks, nameB k = true) ∧ clean l = joinSl ks ∧ (joinSl ks).length ≤ 200 := by
  unfold clean
  cases h : cleanGo [] (parts l) with
  | none => left; rfl
  | some ks =>
    by_cases hl : (joinSl ks).length ≤ 200
    · rw [cleanK_short hl]
      by_cases h0 : ks = []
      · left; rw [h0]; rfl
      · right; exact ⟨ks, h0, cleanGo_names _ _ _ h (by simp), rfl, hl⟩
    · left; exact cleanK_long hl

theorem name_slash (k : List UInt8) (h : nameB k = true) : (47 : UInt8) ∉ k := by
  intro hm
  unfold nameB at h
  simp only [Bool.and_eq_true, List.all_eq_true] at h
  have := h.2 47 hm
  simp [okc] at this
theorem name_ne (k : List UInt8) (h : nameB k = true) : k ≠ [] ∧ k ≠ [46] ∧ k ≠ [46, 46] := by
  unfold nameB at h
  simp only [Bool.and_eq_true, bne_iff_ne, ne_eq] at h
  exact ⟨h.1.1.1, h.1.1.2, h.1.2⟩

theorem partsGo_append (a b : List UInt8) : ∀ cur, partsGo cur (a ++ 47 :: b) = partsGo cur a ++ parts b := by
  induction a with
  | nil => intro cur; simp [partsGo, parts]
  | cons c r ih =>
    intro cur
    simp only [List.cons_append, partsGo]
    by_cases e : c = 47
    · rw [if_pos e, if_pos e, ih]; rfl
    · rw [if_neg e, if_neg e, ih]
theorem parts_append (a b : List UInt8) : parts (a ++ 47 :: b) = parts a ++ parts b := partsGo_append a b []
theorem partsGo_one (a : List UInt8) (h : (47 : UInt8) ∉ a) : ∀ cur, partsGo cur a = [cur ++ a] := by
  induction a with
  | nil => intro cur; simp [partsGo]
  | cons c r ih =>
    intro cur
    rw [partsGo, if_neg (fun e => h (by simp [e])), ih (fun e => h (by simp [e]))]; simp
theorem parts_one (a : List UInt8) (h : (47 : UInt8) ∉ a) : parts a = [a] := by simpa [parts] using partsGo_one a h []
theorem joinSl_cons (a : List UInt8) (r : List (List UInt8)) (h : r ≠ []) : joinSl (a :: r) = a ++ 47 :: joinSl r := by
  cases r with
  | nil => exact absurd rfl h
  | cons b t => unfold joinSl; simp [Lib.join, List.intercalate]
theorem parts_join (ks : List (List UInt8)) (h0 : ks ≠ []) (h : ∀ k ∈ ks, (47 : UInt8) ∉ k) : parts (joinSl ks) = ks := by
  induction ks with
  | nil => exact absurd rfl h0
  | cons a r ih =>
    by_cases hr : r = []
    · subst hr; rw [joinSl_one]; exact parts_one a (h a (by simp))
    · rw [joinSl_cons a r hr, parts_append, parts_one a (h a (by simp)), ih hr fun k hk => h k (by simp [hk])]; rfl
theorem cleanGo_all (ks : List (List UInt8)) : ∀ kept, (∀ k ∈ ks, nameB k = true) → cleanGo kept ks = some (kept ++ ks) := by
  induction ks with
  | nil => intro kept _; simp [cleanGo]
  | cons p r ih =>
    intro kept h
    obtain ⟨h0, h1, h2⟩ := name_ne p (h p (by simp))
    rw [go_name (by simp [h0, h1]) h2 (h p (by simp)), ih _ fun k hk => h k (by simp [hk])]
    simp
theorem clean_join (ks : List (List UInt8)) (h0 : ks ≠ []) (h : ∀ k ∈ ks, nameB k = true) (hl : (joinSl ks).length ≤ 200) : clean (joinSl ks) = joinSl ks := by
  unfold clean
  rw [parts_join ks h0 fun k hk => name_slash k (h k hk), cleanGo_all ks [] h, List.nil_append, cleanK_short hl]
theorem clean_nil : clean [] = [] := rfl
theorem clean_clean (l : List UInt8) : clean (clean l) = clean l := by
  rcases clean_form l with h | ⟨ks, h0, h1, h2, h3⟩
  · rw [h]; rfl
  · rw [h2]; exact clean_join ks h0 h1 h3

/-- the names of a directory -/
def namesL (d : List UInt8) : List (List UInt8) := if d = [] then [] else parts d
theorem joinSl_ne (ks : List (List UInt8)) (h0 : ks ≠ []) (h : ∀ k ∈ ks, nameB k = true) : joinSl ks ≠ [] := by
  intro e
  have hp := parts_join ks h0 fun k hk => name_slash k (h k hk)
  rw [e] at hp
  have : ks = [[]] := hp.symm
  have := h [] (by rw [this]; simp)
  exact (name_ne _ this).1 rfl
theorem dir_join (ks : List (List UInt8)) (k : List UInt8) (hk : (47 : UInt8) ∉ k) : dirL (joinSl (ks ++ [k])) = joinSl ks := by
  by_cases h : ks = []
  · subst h; rw [List.nil_append, joinSl_one]; exact ahead_miss 47 k hk
  · rw [joinSl_snoc ks k h]
    have := ahead_hit 47 (joinSl ks) k hk
    simpa [dirL] using this
theorem names_clean (l : List UInt8) (h : ¬ clean l = []) : namesL (dirL (clean l)) = (parts (clean l)).take ((clean l).count 47) ∧ (parts (clean l)).length = (clean l).count 47 + 1 := by
  refine ⟨?_, lt_parts _⟩
  rcases clean_form l with h' | ⟨ks, h0, h1, h2, h3⟩
  · exact absurd h' h
  · rw [h2]
    have hp := parts_join ks h0 fun k hk => name_slash k (h1 k hk)
    have hc := lt_parts (joinSl ks)
    rw [hp] at hc ⊢
    rcases List.eq_nil_or_concat ks with h4 | ⟨js, k, h4⟩
    · exact absurd h4 h0
    · rw [List.concat_eq_append] at h4
      subst h4
      rw [dir_join js k (name_slash k (h1 k (by simp)))]
      have hcount : (joinSl (js ++ [k])).count 47 = js.length := by simp at hc; omega
      rw [hcount]
      have : (js ++ [k]).take js.length = js := by simp
      rw [this]
      unfold namesL
      by_cases h5 : js = []
      · subst h5; rfl
      · rw [if_neg (joinSl_ne js h5 fun x hx => h1 x (by simp [hx]))]
        exact parts_join js h5 fun x hx => name_slash x (h1 x (by simp [hx]))

/-- the part that two lists of names begin with in common -/
theorem stripC_common (a : List (List UInt8)) : ∀ b, ∃ c, a = c ++ (stripC a b).1 ∧ b = c ++ (stripC a b).2 := by
  induction a with
  | nil => intro b; exact ⟨[], by unfold stripC; simp, by unfold stripC; simp⟩
  | cons x a ih =>
    intro b
    cases b with
    | nil => exact ⟨[], by unfold stripC; simp, by unfold stripC; simp⟩
    | cons y b =>
      unfold stripC
      by_cases e : x = y
      · rw [if_pos e]
        obtain ⟨c, h1, h2⟩ := ih b
        exact ⟨x :: c, by rw [List.cons_append, ← h1], by rw [List.cons_append, ← h2, e]⟩
      · rw [if_neg e]; exact ⟨[], rfl, rfl⟩
theorem parts_ups (k : Nat) (l : List UInt8) : parts (ups k ++ l) = List.replicate k [46, 46] ++ parts l := by
  induction k with
  | zero => simp [ups]
  | succ k ih =>
    have e : ups (k + 1) ++ l = [46, 46] ++ 47 :: (ups k ++ l) := by simp [ups, List.replicate_succ]
    rw [e, parts_append, ih, List.replicate_succ]; rfl
theorem parts_slashed (ks : List (List UInt8)) (h : ∀ k ∈ ks, (47 : UInt8) ∉ k) (l : List UInt8) : parts (slashed ks ++ l) = ks ++ parts l := by
  induction ks with
  | nil => rfl
  | cons a r ih =>
    have e : slashed (a :: r) ++ l = a ++ 47 :: (slashed r ++ l) := by simp [slashed]
    rw [e, parts_append, parts_one a (h a (by simp)), ih fun k hk => h k (by simp [hk])]; rfl
theorem cleanGo_ups (b : List (List UInt8)) (r : List (List UInt8)) : ∀ c, cleanGo (c ++ b) (List.replicate b.length [46, 46] ++ r) = cleanGo c r := by
  obtain ⟨n, hn⟩ : ∃ n, b.length = n := ⟨_, rfl⟩
  induction n generalizing b with
  | zero => intro c; have : b = [] := List.eq_nil_of_length_eq_zero hn
            subst this; simp
  | succ n ih =>
    intro c
    rcases List.eq_nil_or_concat b with h | ⟨b', x, h⟩
    · subst h; simp at hn
    · rw [List.concat_eq_append] at h
      subst h
      simp at hn
      rw [List.length_append, List.length_singleton, List.replicate_succ, List.cons_append, go_up rfl (by simp), ← List.append_assoc, List.dropLast_concat]
      exact ih b' hn c
theorem cleanGo_append (a b : List (List UInt8)) : ∀ kept, cleanGo kept (a ++ b) = (cleanGo kept a).bind fun k => cleanGo k b := by
  induction a with
  | nil => intro kept; rfl
  | cons p r ih =>
    intro kept
    rw [List.cons_append, cleanGo, cleanGo]
    repeat' split
    all_goals first | exact ih _ | rfl

/-- the name of a file in another one leads there -/
theorem rel_leads (a b : List UInt8) (ha : ¬ clean a = []) (hb : ¬ clean b = []) : joinF a (relL (clean a) (clean b)) = clean b := by
  obtain ⟨na, la⟩ := names_clean a ha
  obtain ⟨nb, lb⟩ := names_clean b hb
  rcases clean_form a with h' | ⟨ks, k0, k1, k2, k3⟩
  · exact absurd h' ha
  rcases clean_form b with h' | ⟨ms, m0, m1, m2, m3⟩
  · exact absurd h' hb
  have hpa := parts_join ks k0 fun k hk => name_slash k (k1 k hk)
  have hpb := parts_join ms m0 fun k hk => name_slash k (m1 k hk)
  rcases List.eq_nil_or_concat ks with h4 | ⟨js, x, h4⟩
  · exact absurd h4 k0
  rcases List.eq_nil_or_concat ms with h5 | ⟨ns, y, h5⟩
  · exact absurd h5 m0
  rw [List.concat_eq_append] at h4 h5
  subst h4; subst h5
  have hny : nameB y = true := m1 y (by simp)
  have hns : ∀ z ∈ ns, nameB z = true := fun z hz => m1 z (by simp [hz])
  have hjs : ∀ z ∈ js, nameB z = true := fun z hz => k1 z (by simp [hz])
  rw [k2, hpa] at la
  rw [m2, hpb] at lb
  have ca : (clean a).count 47 = js.length := by rw [k2]; simp at la; omega
  have cb : (clean b).count 47 = ns.length := by rw [m2]; simp at lb; omega
  obtain ⟨c, e1, e2⟩ := stripC_common js ns
  have hrel : relL (clean a) (clean b) = ups (stripC js ns).1.length ++ (slashed (stripC js ns).2 ++ y) := by
    unfold relL relR
    rw [ca, cb, k2, m2, hpa, hpb]
    simp
  have hyne := name_ne y hny
  have hsub : ∀ z ∈ (stripC js ns).2, nameB z = true := fun z hz => hns z (by rw [e2]; simp [hz])
  have hparts : parts (relL (clean a) (clean b)) = List.replicate (stripC js ns).1.length [46, 46] ++ ((stripC js ns).2 ++ [y]) := by
    rw [hrel, parts_ups, parts_slashed _ fun z hz => name_slash z (hsub z hz), parts_one y (name_slash y hny)]
  have hne : relL (clean a) (clean b) ≠ [] := by
    rw [hrel]; intro e
    have := congrArg List.length e
    rw [List.length_append, List.length_append] at this
    have : y.length = 0 := by simp at this; simp [this]
    exact hyne.1 (List.eq_nil_of_length_eq_zero this)
  have hfirst : ¬ (relL (clean a) (clean b))[0]? = some 47 := by
    intro e
    cases hr : relL (clean a) (clean b) with
    | nil => exact hne hr
    | cons z zs =>
      rw [hr] at e hparts
      simp at e
      subst e
      rw [parts_slash] at hparts
      cases hc : (stripC js ns).1.length with
      | zero =>
        rw [hc, List.replicate_zero, List.nil_append] at hparts
        cases hs : (stripC js ns).2 with
        | nil => rw [hs] at hparts; injection hparts with h1 h2; exact hyne.1 h1.symm
        | cons q qs => rw [hs] at hparts; injection hparts with h1 h2; exact (name_ne q (hsub q (by rw [hs]; simp))).1 h1.symm
      | succ n => rw [hc, List.replicate_succ] at hparts; injection hparts with h1 h2; cases h1
  unfold joinF
  rw [if_neg ha, if_neg hne, if_neg hfirst]
  have hdir : dirL (clean a) = joinSl js := by rw [k2]; exact dir_join js x (name_slash x (k1 x (by simp)))
  have hgo : cleanGo [] (parts (dirL (clean a) ++ 47 :: relL (clean a) (clean b))) = some (ns ++ [y]) := by
    rw [parts_append, cleanGo_append, hdir]
    have h1 : cleanGo [] (parts (joinSl js)) = some js := by
      by_cases hj : js = []
      · subst hj; rfl
      · rw [parts_join js hj fun z hz => name_slash z (hjs z hz), cleanGo_all js [] hjs, List.nil_append]
    rw [h1, Option.bind_some, hparts]
    generalize stripC js ns = p at *
    rw [e1, cleanGo_ups p.1 (p.2 ++ [y]) c, cleanGo_all _ c, ← List.append_assoc, ← e2]
    intro z hz
    rcases List.mem_append.1 hz with hz | hz
    · exact hsub z hz
    · rw [List.mem_singleton.1 hz]; exact hny
  show cleanK (cleanGo [] (parts (dirL (clean a) ++ 47 :: relL (clean a) (clean b)))) = clean b
  rw [hgo, m2, cleanK_short m3]

end Go.Proofs.YtpbampchhpkpbaaDoor
