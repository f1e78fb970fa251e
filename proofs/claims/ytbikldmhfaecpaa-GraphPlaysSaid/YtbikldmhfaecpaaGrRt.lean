/-
  Layer 48 (graph), plain: both sides, call by call.
-/
import Derived.Test.YtbikldmhfaecpaaGrRs
namespace Go.Proofs.Ytbikldmhfaecpaa
set_option linter.unusedVariables false
set_option linter.unusedSimpArgs false

theorem insN_perm (x : Nm) : ∀ l : List Nm, (insN x l).Perm (x :: l)
  | [] => List.Perm.refl _
  | a :: r => by
    rw [insN]
    split
    · exact ((insN_perm x r).cons a).trans (List.Perm.swap x a r)
    · exact List.Perm.refl _
theorem insN_sorted (x : Nm) : ∀ l : List Nm, l.Pairwise (· ≤ ·) → (insN x l).Pairwise (· ≤ ·)
  | [], _ => by rw [insN]; exact List.pairwise_singleton _ _
  | a :: r, h => by
    obtain ⟨h1, h2⟩ := List.pairwise_cons.1 h
    rw [insN]
    split
    · rename_i hlt
      refine List.pairwise_cons.2 ⟨fun y hy => ?_, insN_sorted x r h2⟩
      rcases List.mem_cons.1 ((insN_perm x r).mem_iff.1 hy) with rfl | hy
      · exact List.le_of_lt hlt
      · exact h1 y hy
    · rename_i hlt
      have hxa : x ≤ a := hlt
      exact List.pairwise_cons.2 ⟨fun y hy => by
        rcases List.mem_cons.1 hy with rfl | hy
        · exact hxa
        · exact List.le_trans hxa (h1 y hy), h⟩
theorem staleR_form (L : List VM) : ∀ acc : List Nm, acc.Pairwise (· ≤ ·) → (L.foldl stIns acc).Pairwise (· ≤ ·) ∧ (L.foldl stIns acc).Perm (acc ++ ((L.filter fun v => v.rule && !v.fresh).map (·.nm))) := by
  induction L with
  | nil => intro acc h; exact ⟨h, by simp⟩
  | cons v r ih =>
    intro acc h
    rw [List.foldl_cons, List.filter_cons]
    by_cases hc : v.rule = true ∧ v.fresh = false
    · have e : stIns acc v = insN v.nm acc := by unfold stIns; rw [if_pos hc]
      have hb : (v.rule && !v.fresh) = true := by rw [hc.1, hc.2]; rfl
      obtain ⟨h1, h2⟩ := ih (insN v.nm acc) (insN_sorted _ _ h)
      rw [e, if_pos hb, List.map_cons]
      exact ⟨h1, h2.trans (((insN_perm v.nm acc).append_right _).trans (by simpa using (List.perm_middle (a := v.nm) (l₁ := acc)).symm))⟩
    · have e : stIns acc v = acc := by unfold stIns; rw [if_neg hc]
      have hb : ¬ (v.rule && !v.fresh) = true := fun hb => hc (by
        cases h1 : v.rule <;> cases h2 : v.fresh <;> simp_all)
      rw [e, if_neg hb]
      exact ih acc h
/-- the stale names on both sides -/
theorem stale_abs (L : List VM) (N c : Nat) : staleX { absG L N with changes := c } = staleR L := by
  obtain ⟨h1, h2⟩ := staleR_form L [] List.Pairwise.nil
  have e : (({ absG L N with changes := c } : GS).rules.filter (·.stale)).map (·.name) = (L.filter fun v => v.rule && !v.fresh).map (·.nm) := by
    show ((absR L).filter (·.stale)).map (·.name) = _
    unfold absR
    rw [List.filter_map, List.map_map, List.filter_filter]
    have e2 : (L.filter fun a => ((fun r : RuleS => r.stale) ∘ toR) a && a.rule) = L.filter fun v => v.rule && !v.fresh := by
      congr 1
      funext a
      simp [toR, Bool.and_comm]
    rw [e2]
    rfl
  unfold staleX staleR
  rw [e]
  rw [List.nil_append] at h2
  have tr : ∀ a b c : Nm, decide (a ≤ b) = true → decide (b ≤ c) = true → decide (a ≤ c) = true := fun a b c h1 h2 => by
    rw [decide_eq_true_eq] at h1 h2 ⊢; exact List.le_trans h1 h2
  have tot : ∀ a b : Nm, (decide (a ≤ b) || decide (b ≤ a)) = true := fun a b => by
    rw [Bool.or_eq_true, decide_eq_true_eq, decide_eq_true_eq]; exact List.le_total a b
  exact List.Perm.eq_of_pairwise (le := fun a b => decide (a ≤ b) = true) (fun a b _ _ h1 h2 => by rw [decide_eq_true_eq] at h1 h2; exact List.le_antisymm h1 h2) (List.pairwise_mergeSort tr tot _) (h1.imp (fun h => by simpa using h)) ((List.mergeSort_perm _ _).trans h2.symm)
/-- how often a graph was changed says nothing -/
def shC (c : Nat) (P : GS × Res) : GS × Res := ({ P.1 with changes := c }, P.2)
theorem callX_sh (c : Nat) (S : GS) (n : Nm) (inn : List Nm) : callX { S with changes := c } n inn = shC c (callX S n inn) := by
  unfold callX shC
  simp only
  cases findR S.rules n with
  | none => rfl
  | some r =>
    simp only
    split <;> rfl
theorem needsR_sh (c : Nat) {g : GS → Nm → GS × Res} (hg : ∀ S n, g { S with changes := c } n = shC c (g S n)) : ∀ (l : List Nm) (S : GS) (acc : List Nm), needsR g { S with changes := c } acc l = ({ (needsR g S acc l).1 with changes := c }, (needsR g S acc l).2)
  | [], S, acc => rfl
  | n :: l, S, acc => by
    unfold needsR
    rw [hg S n]
    unfold shC
    simp only
    by_cases h0 : (g S n).2.2 = 0
    · rw [if_pos h0, if_pos h0]; exact needsR_sh c hg l _ _
    · rw [if_neg h0, if_neg h0]
theorem evalR_sh (c : Nat) : ∀ (g : Nat) (S : GS) (n : Nm), evalR g { S with changes := c } n = shC c (evalR g S n)
  | 0, S, n => rfl
  | g + 1, S, n => by
    rw [evalR, evalR]
    simp only
    cases getV S.vals n with
    | some v => rfl
    | none =>
      cases findR S.rules n with
      | none => rfl
      | some r =>
        simp only
        rw [needsR_sh c (evalR_sh c g)]
        unfold finR
        simp only
        cases (needsR (evalR g) S [] r.needs).2 with
        | inl e => rfl
        | inr inn =>
          simp only
          exact callX_sh c (freshX (needsR (evalR g) S [] r.needs).1 n) n inn
theorem same_eq {S T : GS} (h : SameG S T) : S = { T with changes := S.changes } := by
  obtain ⟨h1, h2, h3⟩ := h
  cases S; cases T
  simp only at h1 h2 h3
  subst h1; subst h2; subst h3; rfl
/-- both graphs are alike -/
structure PlayI (R : Nat) (S : GS) (L : List VM) (N : Nat) : Prop where
  same : SameG S (absG L N)
  mi : MI S
  gi : GI R S
  gl : GoodL L
  fl : Flat L
theorem PlayI.new (R : Nat) : PlayI R GS.new [] 0 := ⟨⟨rfl, rfl, rfl⟩, new_mi, GI.new R, ⟨by simp, by simp, by simp, by simp, by simp, by simp, by simp⟩, fun v hv => by cases hv⟩
theorem mk_good {L : List VM} {P : VM → Prop} (h : GoodL L) : GoodL (L.map (mkV P)) := by
  have al : ∀ {Q : VM → Prop}, (∀ v ∈ L, Q v) → (∀ v, Q v → Q (mkV P v)) → ∀ v ∈ L.map (mkV P), Q v := fun h1 h2 v hv => by
    obtain ⟨u, hu, rfl⟩ := List.mem_map.1 hv
    exact h2 u (h1 u hu)
  have e : (L.map (mkV P)).map (·.nm) = L.map (·.nm) := by
    rw [List.map_map]
    apply List.map_congr_left
    intro v _
    exact (mkV_rule P v).2.1
  exact ⟨by rw [List.length_map]; exact h.len, al h.nd (fun v hv => by rw [(mkV_rule P v).2.2.2]; exact hv), by rw [e]; exact h.nm, al h.F (fun v hv => by unfold mkV; split <;> exact hv), al h.vl (fun v hv => by rw [(mkV_rule P v).2.2.1]; exact hv), al h.out (fun v hv => by unfold mkV; split <;> exact hv), al h.inn (fun v hv => by unfold mkV; split <;> exact hv)⟩
theorem mk_flat {L : List VM} {P : VM → Prop} (h : Flat L) : Flat (L.map (mkV P)) := fun v hv hr => by
  obtain ⟨u, hu, rfl⟩ := List.mem_map.1 hv
  rw [(mkV_rule P u).1] at hr
  rw [(mkV_rule P u).2.2.2]; exact h u hu hr
theorem GoodL.snoc {L : List VM} {v : VM} (h : GoodL L) (hl : L.length < 1024) (hn : findI L v.nm = none) (h1 : v.nd.length ≤ 10000) (h2 : v.rule = true → 0 ≤ v.F) (h3 : v.vl.length ≤ 1000) (h4 : v.out.length ≤ 1000) (h5 : v.inn.length ≤ 10000) : GoodL (L ++ [v]) := by
  have al : ∀ {Q : VM → Prop}, (∀ u ∈ L, Q u) → Q v → ∀ u ∈ L ++ [v], Q u := fun a b u hu => by
    rcases List.mem_append.1 hu with hu | hu
    · exact a u hu
    · rw [List.mem_singleton] at hu; subst hu; exact b
  refine ⟨by simp; omega, al h.nd h1, ?_, al h.F h2, al h.vl h3, al h.out h4, al h.inn h5⟩
  rw [List.map_append, List.nodup_append]
  refine ⟨h.nm, by simp, fun a ha b hb e => ?_⟩
  obtain ⟨u, hu, rfl⟩ := List.mem_map.1 ha
  have hb : b = v.nm := by simpa using hb
  exact findI_none.1 hn u hu (by rw [e, hb])
theorem play_set {R : Nat} {S : GS} {L L' : List VM} {N code : Nat} {n v : Nm} (h : PlayI R S L N) (hv : v.length ≤ 1000) (hs : SetR L n v code L') : (setX S n v).1 = code ∧ PlayI R (setX S n v).2 L' N := by
  have ha := set_abs (N := N) (c := S.changes) h.fl h.gl.nm hs
  rw [← same_eq h.same] at ha
  refine ⟨ha.1, ha.2, setX_mi h.mi n v, (setX_gi h.gi n v hv).1, ?_, ?_⟩
  · rcases hs with ⟨_, _, rfl⟩ | ⟨_, i, v0, hi, hv0, h2⟩ | ⟨_, hi, h2⟩
    · exact h.gl
    · rcases h2 with ⟨_, _, rfl⟩ | ⟨_, _, _, rfl⟩ | ⟨hr, _, _, rfl⟩
      · exact h.gl
      · exact h.gl
      · have hm := List.mem_of_getElem? hv0
        exact mk_good (h.gl.set hv0 rfl (h.gl.nd v0 hm) (h.gl.F v0 hm) hv (h.gl.out v0 hm) (h.gl.inn v0 hm))
    · rcases h2 with ⟨_, _, rfl⟩ | ⟨hl, _, rfl⟩
      · exact h.gl
      · exact mk_good (h.gl.snoc hl hi (by simp [valV]) (fun h => by cases h) hv (by simp [valV]) (by simp [valV]))
  · rcases hs with ⟨_, _, rfl⟩ | ⟨_, i, v0, hi, hv0, h2⟩ | ⟨_, hi, h2⟩
    · exact h.fl
    · rcases h2 with ⟨_, _, rfl⟩ | ⟨_, _, _, rfl⟩ | ⟨hr, _, _, rfl⟩
      · exact h.fl
      · exact h.fl
      · refine mk_flat (fun u hu hur => ?_)
        rcases List.mem_or_eq_of_mem_set hu with hu | rfl
        · exact h.fl u hu hur
        · exact h.fl v0 (List.mem_of_getElem? hv0) hr
    · rcases h2 with ⟨_, _, rfl⟩ | ⟨hl, _, rfl⟩
      · exact h.fl
      · refine mk_flat (fun u hu hur => ?_)
        rcases List.mem_append.1 hu with hu | hu
        · exact h.fl u hu hur
        · rw [List.mem_singleton] at hu; subst hu; rfl
theorem play_rule {R : Nat} {S : GS} {L L' : List VM} {N code : Nat} {n : Nm} {nd : List Nm} {F : Int} (h : PlayI R S L N) (hs : RuleR L n nd F code L') : (ruleX S n nd (foI F)).1 = code ∧ PlayI R (ruleX S n nd (foI F)).2 L' N := by
  have ha := rule_abs (N := N) (c := S.changes) h.fl h.gl.nm hs
  rw [← same_eq h.same] at ha
  refine ⟨ha.1, ha.2, ruleX_mi h.mi n nd _, (ruleX_gi h.gi n nd _).1, ?_, ?_⟩
  · rcases hs with ⟨_, _, rfl⟩ | ⟨_, _, _, rfl⟩ | ⟨_, _, _, _, rfl⟩ | ⟨_, _, _, _, _, rfl⟩ | ⟨_, hF, hi, h1, h2, _, nA, nc, rfl⟩
    · exact h.gl
    · exact h.gl
    · exact h.gl
    · exact h.gl
    · exact mk_good (h.gl.snoc h2 hi (by simp [rulV]; omega) (fun _ => hF) (by simp [rulV]) (by simp [rulV]) (by simp [rulV]))
  · rcases hs with ⟨_, _, rfl⟩ | ⟨_, _, _, rfl⟩ | ⟨_, _, _, _, rfl⟩ | ⟨_, _, _, _, _, rfl⟩ | ⟨_, hF, hi, h1, h2, _, nA, nc, rfl⟩
    · exact h.fl
    · exact h.fl
    · exact h.fl
    · exact h.fl
    · refine mk_flat (fun u hu hur => ?_)
      rcases List.mem_append.1 hu with hu | hu
      · exact h.fl u hu hur
      · rw [List.mem_singleton] at hu; subst hu; cases hur
theorem abs_mi {R : Nat} {S : GS} {L : List VM} {N : Nat} (h : PlayI R S L N) : MI (absG L N) := by
  have e := same_eq h.same
  have hm := h.mi
  rw [e] at hm
  exact ⟨hm.nm, hm.nb, hm.vx, hm.w⟩
/-- Get: what the reference needs, and what both make -/
theorem play_get {R : Nat} {S : GS} {L : List VM} {N : Nat} (h : PlayI R S L N) (hR : R + 1024 ≤ 1000000) (n : Nm) : ∃ g, (¬ CycV L n → OkD (rf (absR L)) g n ∧ (evalR g (absG L N) n).1.runs ≤ 1000000) ∧ (getX S n).2 = (getR g L N n).2 ∧
    ∀ L' N', absG L' N' = (getR g L N n).1 → Sh L L' → GoodL L' → PlayI (R + 1024) (getX S n).1 L' N' := by
  have hmi := abs_mi h
  obtain ⟨g, h1, h2⟩ := get_abs h.fl h.gl.nm N hmi n
  have hgi := getX_gi h.gi n
  have hsh : getX S n = shC S.changes (getR g L N n) := by
    by_cases hc : CycV L n
    · have e1 : cycX S n = true := by
        have := (cycX_iff h.fl h.gl.nm N n).2 hc
        rw [same_eq h.same]; exact this
      rw [getX_cyc e1]
      unfold getR
      rw [if_pos hc]
      unfold shC
      simp only
      rw [← same_eq h.same]
    · have e1 : cycX S n = false := by
        cases hh : cycX S n with
        | false => rfl
        | true =>
          rw [same_eq h.same] at hh
          exact absurd ((cycX_iff h.fl h.gl.nm N n).1 hh) hc
      obtain ⟨D, hD⟩ := sm_of S
      have hrf : rf S.rules = rf (absR L) := by rw [← show (absG L N).rules = absR L from rfl, h.same.2.1]
      have he := evalX_evalR hD g (S.rules.length + 1) ⟨S, []⟩ n (by rw [hrf]; exact h1 hc) (fun p hp hb => by
        obtain ⟨r, hr, rfl⟩ := List.mem_map.1 hp
        have := h.mi.nb r hr
        simp only at hb
        rw [this] at hb; cases hb) (by have := nb_le S.rules; simp only; omega) h.mi.di
      simp only at he
      have e2 : getX S n = evalR g S n := by
        rw [he]
        unfold getX
        unfold cycX at e1
        rw [e1]; simp
      rw [e2]
      unfold getR
      rw [if_neg hc]
      conv => lhs; rw [same_eq h.same]
      exact evalR_sh S.changes g (absG L N) n
  refine ⟨g, fun hc => ⟨h1 hc, ?_⟩, by rw [hsh]; rfl, fun L' N' e hs hg => ⟨?_, getX_mi h.mi n, hgi.1, hg, fun v' hv' hr => ?_⟩⟩
  · have hr := hgi.1.runs
    rw [hsh] at hr
    unfold getR at hr
    rw [if_neg hc] at hr
    have hr : (evalR g (absG L N) n).1.runs ≤ R + 1024 := hr
    omega
  · rw [hsh, e]
    exact ⟨rfl, rfl, rfl⟩
  · obtain ⟨i, hi⟩ := List.mem_iff_getElem?.1 hv'
    obtain ⟨v, hv, _, e3, e4, _⟩ := hs.back hi
    rw [e4]
    exact h.fl v (List.mem_of_getElem? hv) (by rw [← e3]; exact hr)
theorem play_stale {R : Nat} {S : GS} {L : List VM} {N : Nat} (h : PlayI R S L N) : staleX S = staleR L := by
  rw [same_eq h.same]; exact stale_abs L N S.changes
theorem PlayI.up {R R' : Nat} {S : GS} {L : List VM} {N : Nat} (h : PlayI R S L N) (hR : R ≤ R') : PlayI R' S L N := ⟨h.same, h.mi, ⟨h.gi.vals, h.gi.rv, h.gi.nm, h.gi.nb, h.gi.needs, h.gi.size, Nat.le_trans h.gi.runs hR⟩, h.gl, h.fl⟩
end Go.Proofs.Ytbikldmhfaecpaa
