/-
  Layer 48 (graph), plain: the reference's Set and Rule are the program's.
-/
import Derived.Test.YtbikldmhfaecpaaGrRo
namespace Go.Proofs.Ytbikldmhfaecpaa
set_option linter.unusedVariables false
set_option linter.unusedSimpArgs false

/-- a value needs nothing -/
def Flat (L : List VM) : Prop := ∀ v ∈ L, v.rule = false → v.nd = []
theorem mem_absR {L : List VM} {v : VM} (h : v ∈ L) (hr : v.rule = true) : toR v ∈ absR L := by
  unfold absR; exact List.mem_map_of_mem (f := toR) (List.mem_filter.2 ⟨h, hr⟩)
theorem absR_mem {L : List VM} {r : RuleS} (h : r ∈ absR L) : ∃ v ∈ L, v.rule = true ∧ toR v = r := by
  unfold absR at h
  obtain ⟨v, hv, rfl⟩ := List.mem_map.1 h
  obtain ⟨h1, h2⟩ := List.mem_filter.1 hv
  exact ⟨v, h1, h2, rfl⟩
theorem dep_iff {L : List VM} (hf : Flat L) (n x : Nm) : DepV L n x ↔ DepR (absR L) n x := by
  have rl : ∀ v ∈ L, ∀ y, y ∈ v.nd → v.rule = true := fun v hv y hy => by
    cases hr : v.rule with
    | true => rfl
    | false => rw [hf v hv hr] at hy; cases hy
  constructor
  · intro h
    induction h with
    | one hv hn => exact DepR.one (r := toR _) (mem_absR hv (rl _ hv _ hn)) hn
    | more hv _ hm ih => exact DepR.more (r := toR _) (mem_absR hv (rl _ hv _ hm)) ih hm
  · intro h
    induction h with
    | one hr hn =>
      obtain ⟨v, hv, _, rfl⟩ := absR_mem hr
      exact DepV.one hv hn
    | more hr _ hm ih =>
      obtain ⟨v, hv, _, rfl⟩ := absR_mem hr
      exact DepV.more hv ih hm
theorem nm_inj {L : List VM} (hnd : (L.map (·.nm)).Nodup) {v v' : VM} (h : v ∈ L) (h' : v' ∈ L) (e : v.nm = v'.nm) : v = v' := by
  obtain ⟨i, hi⟩ := List.mem_iff_getElem?.1 h
  obtain ⟨j, hj⟩ := List.mem_iff_getElem?.1 h'
  have h1 := find_map_eq hnd hi rfl
  have h2 := find_map_eq hnd hj rfl
  rw [e, h2] at h1
  injection h1 with h1
  subst h1
  rw [hi] at hj; injection hj
theorem st_iff {L : List VM} (hnd : (L.map (·.nm)).Nodup) (n : Nm) {v : VM} (hv : v ∈ L) : StV L n v ↔ DepV L n v.nm := by
  constructor
  · rintro (h | ⟨m, hm, h⟩)
    · exact .one hv h
    · exact .more hv hm h
  · intro h
    generalize hx : v.nm = x at h
    cases h with
    | one hv' hn => rw [nm_inj hnd hv hv' hx]; exact .inl hn
    | more hv' hm hn => rw [nm_inj hnd hv hv' hx]; exact .inr ⟨_, hm, hn⟩
theorem mkV_rule (P : VM → Prop) (v : VM) : (mkV P v).rule = v.rule ∧ (mkV P v).nm = v.nm ∧ (mkV P v).vl = v.vl ∧ (mkV P v).nd = v.nd := by unfold mkV; split <;> exact ⟨rfl, rfl, rfl, rfl⟩
theorem filter_mk {p : VM → Bool} {P : VM → Prop} (hp : ∀ v, p (mkV P v) = p v) (L : List VM) : (L.map (mkV P)).filter p = (L.filter p).map (mkV P) := by
  induction L with
  | nil => rfl
  | cons a r ih =>
    rw [List.map_cons, List.filter_cons, List.filter_cons, hp a, ih]
    split <;> rfl
/-- the mark of the reference is the program's -/
theorem mark_abs {L : List VM} (hf : Flat L) (hnd : (L.map (·.nm)).Nodup) (n : Nm) : absV (L.map (mkV (StV L n))) = absV L ∧ absR (L.map (mkV (StV L n))) = markS (touchGo (absR L) (2 * (absR L).length + 1) [] [n]) (absR L) := by
  constructor
  · unfold absV
    rw [filter_mk (fun v => by rw [(mkV_rule _ v).1]), List.map_map]
    apply List.map_congr_left
    intro v _
    simp only [Function.comp]
    rw [(mkV_rule _ v).2.1, (mkV_rule _ v).2.2.1]
  · conv => lhs; unfold absR
    rw [filter_mk (fun v => by rw [(mkV_rule _ v).1]), List.map_map]
    unfold markS
    conv => rhs; unfold absR
    rw [List.map_map]
    apply List.map_congr_left
    intro v hv
    have hm := (List.mem_filter.1 hv).1
    simp only [Function.comp]
    have e : (toR v).name ∈ touchGo (absR L) (2 * (absR L).length + 1) [] [n] ↔ StV L n v := by
      rw [touch_dep, ← dep_iff hf, st_iff hnd n hm]; rfl
    unfold mkV
    by_cases hs : StV L n v
    · have h1 := e.2 hs
      unfold absR at h1
      rw [if_pos hs, if_pos h1]
      rfl
    · have h1 : ¬ _ := fun h => hs (e.1 h)
      unfold absR at h1
      rw [if_neg hs, if_neg h1]
theorem touch_same {L : List VM} (hf : Flat L) (hnd : (L.map (·.nm)).Nodup) (n : Nm) (N c : Nat) : SameG (touchX { absG L N with changes := c } n) (absG (L.map (mkV (StV L n))) N) := by
  have h := mark_abs hf hnd n
  unfold touchX absG
  exact ⟨h.1, h.2, rfl⟩
theorem putV_snoc {n v : Nm} : ∀ {vs : List (Nm × Nm)}, getV vs n = none → putV n v vs = vs ++ [(n, v)]
  | [], _ => rfl
  | p :: r, h => by
    unfold getV at h
    split at h
    · cases h
    · rename_i hn
      unfold putV
      rw [if_neg hn, putV_snoc h]; rfl
theorem absV_set {L : List VM} {n v : Nm} {v0 : VM} : ∀ {i : Nat}, (L.map (·.nm)).Nodup → L[i]? = some v0 → v0.nm = n → v0.rule = false → absV (L.set i { v0 with vl := v }) = putV n v (absV L) ∧ absR (L.set i { v0 with vl := v }) = absR L := by
  induction L with
  | nil => intro i _ h; simp at h
  | cons a r ih =>
    intro i hnd hv hn hr
    rw [List.map_cons, List.nodup_cons] at hnd
    cases i with
    | zero =>
      have e : a = v0 := by simpa using hv
      subst e
      rw [List.set_cons_zero]
      unfold absV absR
      rw [List.filter_cons, List.filter_cons, List.filter_cons, List.filter_cons]
      simp only [hr, Bool.not_false, if_true, Bool.false_eq_true, if_false, List.map_cons]
      rw [putV, if_pos hn.symm, hn]
      exact ⟨rfl, trivial⟩
    | succ i =>
      have hv' : r[i]? = some v0 := by simpa using hv
      have ih := ih hnd.2 hv' hn hr
      have hne : n ≠ a.nm := fun e => hnd.1 (List.mem_map.2 ⟨v0, List.mem_of_getElem? hv', by rw [hn, e]⟩)
      rw [List.set_cons_succ]
      unfold absV absR at *
      rw [List.filter_cons, List.filter_cons, List.filter_cons, List.filter_cons]
      cases ha : a.rule with
      | true =>
        simp only [Bool.not_true, if_true, Bool.false_eq_true, if_false, List.map_cons]
        rw [ih.2]
        exact ⟨ih.1, rfl⟩
      | false =>
        simp only [Bool.not_false, if_true, Bool.false_eq_true, if_false, List.map_cons]
        rw [ih.1, putV, if_neg hne]
        exact ⟨rfl, ih.2⟩
theorem nodup_set {L : List VM} {i : Nat} {v v' : VM} (hnd : (L.map (·.nm)).Nodup) (hv : L[i]? = some v) (e : v'.nm = v.nm) : ((L.set i v').map (·.nm)).Nodup := by
  have h : (L.set i v').map (·.nm) = L.map (·.nm) := by
    rw [List.map_set, e]
    apply List.ext_getElem?
    intro j
    by_cases hj : i = j
    · subst hj
      have hi := (List.getElem?_eq_some_iff.1 hv).1
      rw [List.getElem?_set_self (by simpa using hi), List.getElem?_map, hv]; rfl
    · rw [List.getElem?_set_ne hj]
  rw [h]; exact hnd
/-- the reference's Set is the program's -/
theorem set_abs {L L' : List VM} {n v : Nm} {code N c : Nat} (hf : Flat L) (hnd : (L.map (·.nm)).Nodup) (h : SetR L n v code L') : (setX { absG L N with changes := c } n v).1 = code ∧ SameG (setX { absG L N with changes := c } n v).2 (absG L' N) := by
  have hsame : SameG { absG L N with changes := c } (absG L N) := ⟨rfl, rfl, rfl⟩
  rcases h with ⟨hn, rfl, rfl⟩ | ⟨hn, i, v0, hi, hv, h⟩ | ⟨hn, hi, h⟩
  · unfold setX; rw [if_pos hn]; exact ⟨rfl, hsame⟩
  · obtain ⟨v0', hv', hvn, _⟩ := findI_some hi
    rw [hv] at hv'; injection hv' with hv'; subst hv'
    have hab := abs_some hnd hv hvn
    rcases h with ⟨hr, rfl, rfl⟩ | ⟨hr, hvl, rfl, rfl⟩ | ⟨hr, hvl, rfl, rfl⟩
    · unfold setX
      rw [if_neg hn, show findR ({ absG L' N with changes := c } : GS).rules n = some (toR v0) from (hab.2 hr).2]
      exact ⟨rfl, hsame⟩
    · unfold setX
      rw [if_neg hn, show findR ({ absG L' N with changes := c } : GS).rules n = none from (hab.1 hr).2, if_neg (by simp), show getV ({ absG L' N with changes := c } : GS).vals n = some v0.vl from (hab.1 hr).1]
      simp only
      rw [if_pos hvl]
      exact ⟨rfl, hsame⟩
    · have hs := absV_set (v := v) hnd hv hvn hr
      have hf' : Flat (L.set i { v0 with vl := v }) := fun u hu hur => by
        rcases List.mem_or_eq_of_mem_set hu with hu | rfl
        · exact hf u hu hur
        · exact hf v0 (List.mem_of_getElem? hv) hr
      have ht := touch_same hf' (nodup_set hnd hv rfl) n N c
      unfold setX
      rw [if_neg hn, show findR ({ absG L N with changes := c } : GS).rules n = none from (hab.1 hr).2, if_neg (by simp), show getV ({ absG L N with changes := c } : GS).vals n = some v0.vl from (hab.1 hr).1]
      simp only
      rw [if_neg hvl]
      refine ⟨rfl, ?_⟩
      have e : ({ absG (L.set i { v0 with vl := v }) N with changes := c } : GS) = { ({ absG L N with changes := c } : GS) with vals := putV n v (absG L N).vals } := by
        unfold absG; rw [hs.1, hs.2]
      rw [e] at ht
      exact ht
  · have hab := abs_none hi
    have hlen := abs_len L
    rcases h with ⟨hl, rfl, rfl⟩ | ⟨hl, rfl, rfl⟩
    · unfold setX
      rw [if_neg hn, show findR ({ absG L' N with changes := c } : GS).rules n = none from hab.2, if_neg (by simp), show getV ({ absG L' N with changes := c } : GS).vals n = none from hab.1]
      simp only
      rw [if_pos (show 1024 ≤ (absG L' N).vals.length + (absG L' N).rules.length from by show 1024 ≤ (absV L').length + (absR L').length; omega)]
      exact ⟨rfl, hsame⟩
    · have hf' : Flat (L ++ [valV n v]) := fun u hu hur => by
        rcases List.mem_append.1 hu with hu | hu
        · exact hf u hu hur
        · rw [List.mem_singleton] at hu; subst hu; rfl
      have hnd' : ((L ++ [valV n v]).map (·.nm)).Nodup := by
        rw [List.map_append, List.nodup_append]
        refine ⟨hnd, by simp, fun a ha b hb e => ?_⟩
        obtain ⟨u, hu, rfl⟩ := List.mem_map.1 ha
        have hb : b = n := by simpa [valV] using hb
        exact findI_none.1 hi u hu (by rw [e, hb])
      have ht := touch_same hf' hnd' n N c
      unfold setX
      rw [if_neg hn, show findR ({ absG L N with changes := c } : GS).rules n = none from hab.2, if_neg (by simp), show getV ({ absG L N with changes := c } : GS).vals n = none from hab.1]
      simp only
      rw [if_neg (show ¬ 1024 ≤ (absG L N).vals.length + (absG L N).rules.length from by show ¬ 1024 ≤ (absV L).length + (absR L).length; omega)]
      refine ⟨rfl, ?_⟩
      have e : ({ absG (L ++ [valV n v]) N with changes := c } : GS) = { ({ absG L N with changes := c } : GS) with vals := putV n v (absG L N).vals } := by
        unfold absG
        rw [absV_snoc, absR_snoc, putV_snoc hab.1]
        rfl
      rw [e] at ht
      exact ht
theorem foI_some {F : Int} (h : 0 ≤ F) : foI F = some (fN F) := by
  unfold fN foI
  rw [if_neg (by omega)]
  split
  · rfl
  · split
    · rfl
    · split <;> rfl
/-- the reference's Rule is the program's -/
theorem rule_abs {L L' : List VM} {n : Nm} {nd : List Nm} {F : Int} {code N c : Nat} (hf : Flat L) (hnd : (L.map (·.nm)).Nodup) (h : RuleR L n nd F code L') : (ruleX { absG L N with changes := c } n nd (foI F)).1 = code ∧ SameG (ruleX { absG L N with changes := c } n nd (foI F)).2 (absG L' N) := by
  have hsame : SameG { absG L N with changes := c } (absG L N) := ⟨rfl, rfl, rfl⟩
  rcases h with ⟨hn, rfl, rfl⟩ | ⟨hn, hF, rfl, rfl⟩ | ⟨hn, hF, ⟨i, hi⟩, rfl, rfl⟩ | ⟨hn, hF, hi, hl, rfl, rfl⟩ | ⟨hn, hF, hi, hl1, hl2, rfl, nA, nc, rfl⟩
  · unfold ruleX
    rcases hn with hn | hn
    · rw [if_pos hn]; exact ⟨rfl, hsame⟩
    · by_cases h0 : n = []
      · rw [if_pos h0]; exact ⟨rfl, hsame⟩
      · rw [if_neg h0, if_pos hn]; exact ⟨rfl, hsame⟩
  · have e : foI F = none := by unfold foI; rw [if_pos hF]
    unfold ruleX
    rw [if_neg (fun h => hn (.inl h)), if_neg (fun h => hn (.inr h)), e]
    exact ⟨rfl, hsame⟩
  · obtain ⟨v0, hv, hvn, _⟩ := findI_some hi
    have hab := abs_some hnd hv hvn
    unfold ruleX
    rw [if_neg (fun h => hn (.inl h)), if_neg (fun h => hn (.inr h)), foI_some hF]
    simp only
    cases hr : v0.rule with
    | false =>
      rw [show getV (absG L' N).vals n = some v0.vl from (hab.1 hr).1]
      exact ⟨rfl, hsame⟩
    | true =>
      rw [show getV (absG L' N).vals n = none from (hab.2 hr).1, show findR (absG L' N).rules n = some (toR v0) from (hab.2 hr).2]
      exact ⟨rfl, hsame⟩
  · have hab := abs_none hi
    have hlen := abs_len L'
    unfold ruleX
    rw [if_neg (fun h => hn (.inl h)), if_neg (fun h => hn (.inr h)), foI_some hF]
    simp only
    rw [show getV (absG L' N).vals n = none from hab.1, show findR (absG L' N).rules n = none from hab.2, if_neg (by simp), if_neg (by simp)]
    by_cases hl1 : 1024 < nd.length
    · rw [if_pos hl1]; exact ⟨rfl, hsame⟩
    · rw [if_neg hl1, if_pos (show 1024 ≤ (absG L' N).vals.length + (absG L' N).rules.length from by show 1024 ≤ (absV L').length + (absR L').length; omega)]
      exact ⟨rfl, hsame⟩
  · have hab := abs_none hi
    have hlen := abs_len L
    have hf' : Flat (L ++ [rulV n nd F nA nc]) := fun u hu hur => by
      rcases List.mem_append.1 hu with hu | hu
      · exact hf u hu hur
      · rw [List.mem_singleton] at hu; subst hu; cases hur
    have hnd' : ((L ++ [rulV n nd F nA nc]).map (·.nm)).Nodup := by
      rw [List.map_append, List.nodup_append]
      refine ⟨hnd, by simp, fun a ha b hb e => ?_⟩
      obtain ⟨u, hu, rfl⟩ := List.mem_map.1 ha
      have hb : b = n := by simpa [rulV] using hb
      exact findI_none.1 hi u hu (by rw [e, hb])
    have ht := touch_same hf' hnd' n N c
    unfold ruleX
    rw [if_neg (fun h => hn (.inl h)), if_neg (fun h => hn (.inr h)), foI_some hF]
    simp only
    rw [show getV (absG L N).vals n = none from hab.1, show findR (absG L N).rules n = none from hab.2, if_neg (by simp), if_neg (by simp), if_neg (by omega), if_neg (show ¬ 1024 ≤ (absG L N).vals.length + (absG L N).rules.length from by show ¬ 1024 ≤ (absV L).length + (absR L).length; omega)]
    refine ⟨rfl, ?_⟩
    have e : ({ absG (L ++ [rulV n nd F nA nc]) N with changes := c } : GS) = { ({ absG L N with changes := c } : GS) with rules := (absG L N).rules ++ [⟨n, nd, fN F, false, [], [], 0, true, false⟩] } := by
      unfold absG
      rw [absV_snoc, absR_snoc]
      rfl
    rw [e] at ht
    exact ht
end Go.Proofs.Ytbikldmhfaecpaa
