/-
  Layer 48 (graph), plain: a new graph with the same values and rules (GraphFresh).
-/
import Derived.Test.YtbikldmhfaecpaaGrDc
namespace Go.Proofs.Ytbikldmhfaecpaa
set_option linter.unusedVariables false
set_option linter.unusedSimpArgs false

/-- what Get returns hangs on values and rules alone -/
theorem get_same {S T : GS} (hS : MI S) (hT : MI T) (hv : ∀ m, getV T.vals m = getV S.vals m) (hr : ∀ m, rf T.rules m = rf S.rules m) (hl : T.rules.length = S.rules.length) (n : Nm) : (getX T n).2 = (getX S n).2 := by
  obtain ⟨D, hD⟩ := sm_of S
  have hc : cycX T n = cycX S n := by unfold cycX; rw [hl, cyc_congr hr]
  have hD2 : Sm (getV T.vals) (rf T.rules) D := by
    rw [show getV T.vals = getV S.vals from funext hv, show rf T.rules = rf S.rules from funext hr]; exact hD
  cases h : cycX S n with
  | true => rw [h] at hc; rw [getX_cyc h, getX_cyc hc]
  | false => rw [h] at hc; rw [(getX_den hS hD h).2.1, (getX_den hT hD2 hc).2.1]
theorem setX_bad {S : GS} {n v : Nm} (h : (setX S n v).1 ≠ 0) : (setX S n v).2 = S := by
  unfold setX at h ⊢
  split
  · rfl
  · split
    · rfl
    · split
      · split
        · rfl
        · rename_i h1 h2 _ h3 h4
          rw [if_neg h1, if_neg h2, h3] at h
          simp only at h
          rw [if_neg h4] at h
          exact absurd rfl h
      · split
        · rfl
        · rename_i h1 h2 _ _ h3 h4
          rw [if_neg h1, if_neg h2, h3] at h
          simp only at h
          rw [if_neg h4] at h
          exact absurd rfl h
theorem findR_of_isSome {rs : List RuleS} {n : Nm} (h : ¬ (findR rs n).isSome = true) : findR rs n = none := by
  cases hf : findR rs n with
  | none => rfl
  | some r => rw [hf] at h; exact absurd rfl h
theorem setX_ok {S : GS} {n v : Nm} (h : (setX S n v).1 = 0) : n ≠ [] ∧ findR S.rules n = none ∧ (∀ m, getV (setX S n v).2.vals m = if m = n then some v else getV S.vals m) ∧ (∀ m, rf (setX S n v).2.rules m = rf S.rules m) ∧ (setX S n v).2.rules.length = S.rules.length := by
  unfold setX at h ⊢
  split at h
  · cases h
  · rename_i h1
    rw [if_neg h1]
    split at h
    · cases h
    · rename_i h2
      rw [if_neg h2]
      have hn := findR_of_isSome h2
      have go : (∀ m, getV (touchX { S with vals := putV n v S.vals } n).vals m = if m = n then some v else getV S.vals m) ∧ (∀ m, rf (touchX { S with vals := putV n v S.vals } n).rules m = rf S.rules m) ∧ (touchX { S with vals := putV n v S.vals } n).rules.length = S.rules.length := by
        refine ⟨fun m => getV_put m, fun m => touch_rf { S with vals := putV n v S.vals } n m, ?_⟩
        have := congrArg List.length (touch_names { S with vals := putV n v S.vals } n)
        simpa using this
      refine ⟨h1, hn, ?_⟩
      cases hg : getV S.vals n with
      | none =>
        rw [hg] at h
        simp only at h ⊢
        split at h
        · cases h
        · rename_i h4
          rw [if_neg h4]
          exact go
      | some o =>
        rw [hg] at h
        simp only at h ⊢
        split
        · rename_i e
          refine ⟨fun m => ?_, fun m => rfl, rfl⟩
          by_cases hm : m = n
          · subst hm; rw [if_pos rfl, ← e]; exact hg
          · rw [if_neg hm]
        · exact go
theorem setX_can {S : GS} {n v : Nm} (h1 : n ≠ []) (h2 : findR S.rules n = none) (h3 : S.vals.length + S.rules.length < 1024) : (setX S n v).1 = 0 := by
  unfold setX
  rw [if_neg h1, h2, if_neg (by simp)]
  cases getV S.vals n with
  | none => simp only; rw [if_neg (by omega)]
  | some o => simp only; split <;> rfl
theorem ruleX_bad {S : GS} {n : Nm} {nd : List Nm} {fo : Option Nat} (h : (ruleX S n nd fo).1 ≠ 0) : (ruleX S n nd fo).2 = S := by
  unfold ruleX at h ⊢
  split
  · rfl
  · rename_i h1
    split
    · rfl
    · rename_i h2
      rw [if_neg h1, if_neg h2] at h
      cases fo with
      | none => rfl
      | some f =>
        simp only at h ⊢
        split
        · rfl
        · rename_i h3
          rw [if_neg h3] at h
          split
          · rfl
          · rename_i h4
            rw [if_neg h4] at h
            split
            · rfl
            · rename_i h5
              rw [if_neg h5] at h
              split
              · rfl
              · rename_i h6
                rw [if_neg h6] at h
                exact absurd rfl h
theorem ruleX_ok {S : GS} {n : Nm} {nd : List Nm} {fo : Option Nat} (h : (ruleX S n nd fo).1 = 0) : n ≠ [] ∧ [] ∉ nd ∧ getV S.vals n = none ∧ findR S.rules n = none ∧ ∃ f, fo = some f ∧ (∀ m, getV (ruleX S n nd fo).2.vals m = getV S.vals m) ∧ (∀ m, rf (ruleX S n nd fo).2.rules m = if m = n then some (nd, f) else rf S.rules m) ∧ (ruleX S n nd fo).2.rules.length = S.rules.length + 1 := by
  unfold ruleX at h ⊢
  split at h
  · cases h
  · rename_i h1
    rw [if_neg h1]
    split at h
    · cases h
    · rename_i h2
      rw [if_neg h2]
      cases fo with
      | none => cases h
      | some f =>
        simp only at h ⊢
        split at h
        · cases h
        · rename_i h3
          rw [if_neg h3]
          split at h
          · cases h
          · rename_i h4
            rw [if_neg h4]
            split at h
            · cases h
            · rename_i h5
              rw [if_neg h5]
              split at h
              · cases h
              · rename_i h6
                rw [if_neg h6]
                have hv : getV S.vals n = none := by
                  cases hg : getV S.vals n with
                  | none => rfl
                  | some x => rw [hg] at h3; exact absurd rfl h3
                have hn := findR_of_isSome h4
                refine ⟨h1, h2, hv, hn, f, rfl, fun m => rfl, fun m => ?_, ?_⟩
                · rw [touch_rf { S with rules := S.rules ++ [⟨n, nd, f, false, [], [], 0, true, false⟩] } n m]
                  unfold rf
                  simp only
                  rw [findR_snoc2]
                  by_cases hm : m = n
                  · subst hm; rw [hn]; simp
                  · simp only [if_neg hm]
                    cases findR S.rules m <;> rfl
                · have := congrArg List.length (touch_names { S with rules := S.rules ++ [⟨n, nd, f, false, [], [], 0, true, false⟩] } n)
                  simpa using this
theorem ruleX_can {S : GS} {n : Nm} {nd : List Nm} {f : Nat} (h1 : n ≠ []) (h2 : [] ∉ nd) (h3 : getV S.vals n = none) (h4 : findR S.rules n = none) (h5 : nd.length ≤ 1024) (h6 : S.vals.length + S.rules.length < 1024) : (ruleX S n nd (some f)).1 = 0 := by
  unfold ruleX
  rw [if_neg h1, if_neg h2]
  simp only
  rw [h3, if_neg (by simp), h4, if_neg (by simp), if_neg (by omega), if_neg (by omega)]
/-- the last call that says something -/
def lastBy {β : Type} (f : OpR → Option β) : List OpR → Option β
  | [] => none
  | o :: D => (lastBy f D).or (f o)
theorem lastBy_snoc {β : Type} (f : OpR → Option β) (o : OpR) : ∀ M, lastBy f (M ++ [o]) = (f o).or (lastBy f M)
  | [] => by simp [lastBy]
  | a :: M => by
    rw [List.cons_append, lastBy, lastBy_snoc f o M, lastBy]
    cases f o <;> simp
theorem lastBy_mem {β : Type} {f : OpR → Option β} {x : β} : ∀ {M}, lastBy f M = some x → ∃ o ∈ M, f o = some x
  | [], h => by cases h
  | a :: M, h => by
    rw [lastBy] at h
    cases hl : lastBy f M with
    | some y =>
      rw [hl] at h
      obtain ⟨o, ho, e⟩ := lastBy_mem hl
      simp at h
      exact ⟨o, List.mem_cons_of_mem _ ho, by rw [e, h]⟩
    | none => rw [hl] at h; exact ⟨a, List.mem_cons_self, by simpa using h⟩
theorem lastBy_some {β : Type} {f : OpR → Option β} {o : OpR} : ∀ {M}, o ∈ M → f o ≠ none → lastBy f M ≠ none
  | [], h, _ => by cases h
  | a :: M, h, hf => by
    rw [lastBy]
    rcases List.mem_cons.1 h with rfl | h
    · cases lastBy f M with
      | some y => simp
      | none => simpa using hf
    · have := lastBy_some h hf
      cases hl : lastBy f M with
      | some y => simp
      | none => exact absurd hl this
def vB (n : Nm) (o : OpR) : Option Nm := if o.K = 0 ∧ o.nm = n then some o.vl else none
def rB (n : Nm) (o : OpR) : Option (List Nm × Nat) := if o.K = 1 ∧ o.nm = n then (foI o.F).map fun f => (o.nd, f) else none
/-- calls that were taken -/
structure Made (M : List OpR) : Prop where
  pw : M.Pairwise fun a b => a.nm = b.nm → a.K = 0 ∧ b.K = 0
  ok : ∀ o ∈ M, o.nm ≠ [] ∧ (o.K = 0 ∨ (o.K = 1 ∧ [] ∉ o.nd ∧ foI o.F ≠ none))
/-- a graph has the values and rules of calls -/
structure Has (M : List OpR) (S : GS) : Prop where
  v : ∀ n, getV S.vals n = lastBy (vB n) M
  r : ∀ n, rf S.rules n = lastBy (rB n) M
  len : S.rules.length = (M.filter fun o => decide (o.K = 1)).length
def madeX (P : GS × List OpR) (o : OpR) : GS × List OpR :=
  (opX P.1 o, if (o.K = 0 ∧ (setX P.1 o.nm o.vl).1 = 0) ∨ (o.K = 1 ∧ (ruleX P.1 o.nm o.nd (foI o.F)).1 = 0) then P.2 ++ [o] else P.2)
theorem has_new : Has [] GS.new := ⟨fun _ => rfl, fun _ => rfl, rfl⟩
theorem made_step {S : GS} {M : List OpR} (h : Made M) (k : Has M S) (hm : MI S) (o : OpR) : Made (madeX (S, M) o).2 ∧ Has (madeX (S, M) o).2 (madeX (S, M) o).1 := by
  have rule_in : ∀ a ∈ M, a.K = 1 → findR S.rules a.nm ≠ none := fun a ha hK hf => by
    have h1 := k.r a.nm
    unfold rf at h1
    rw [hf] at h1
    rcases (h.ok a ha).2 with h0 | ⟨_, _, h0⟩
    · rw [h0] at hK; cases hK
    · refine lastBy_some (f := rB a.nm) ha ?_ h1.symm
      unfold rB
      rw [if_pos ⟨hK, rfl⟩]
      cases hfo : foI a.F with
      | none => exact absurd hfo h0
      | some f => simp
  have val_in : ∀ a ∈ M, a.K = 0 → getV S.vals a.nm ≠ none := fun a ha hK hv => by
    rw [k.v a.nm] at hv
    refine lastBy_some (f := vB a.nm) ha ?_ hv
    unfold vB
    rw [if_pos ⟨hK, rfl⟩]; simp
  unfold madeX opX
  by_cases h0 : o.K = 0
  · rw [if_pos h0]
    have h1 : ¬ o.K = 1 := by rw [h0]; decide
    by_cases hc : (setX S o.nm o.vl).1 = 0
    · rw [if_pos (.inl ⟨h0, hc⟩)]
      obtain ⟨e1, e2, e3, e4, e5⟩ := setX_ok hc
      refine ⟨⟨?_, fun a ha => ?_⟩, ⟨fun n => ?_, fun n => ?_, ?_⟩⟩
      · rw [List.pairwise_append]
        refine ⟨h.pw, List.pairwise_singleton _ _, fun a ha b hb e => ?_⟩
        rw [List.mem_singleton] at hb; subst hb
        refine ⟨?_, h0⟩
        rcases (h.ok a ha).2 with h2 | ⟨h2, _⟩
        · exact h2
        · exact absurd (by rw [e]; exact e2) (rule_in a ha h2)
      · rcases List.mem_append.1 ha with ha | ha
        · exact h.ok a ha
        · rw [List.mem_singleton] at ha; subst ha; exact ⟨e1, .inl h0⟩
      · simp only
        rw [e3, lastBy_snoc, k.v n]
        unfold vB
        by_cases hn : n = o.nm
        · subst hn; simp [h0]
        · have hn' : ¬ o.nm = n := fun e => hn e.symm
          simp [hn, hn']
      · simp only
        rw [e4, lastBy_snoc, k.r n]
        unfold rB
        simp [h1]
      · simp only
        rw [e5, k.len, List.filter_append]
        simp [h1]
    · rw [if_neg (by rintro (⟨_, h⟩ | ⟨h, _⟩); exact hc h; exact h1 h)]
      simp only
      rw [setX_bad hc]
      exact ⟨h, k⟩
  · rw [if_neg h0]
    by_cases h1 : o.K = 1
    · rw [if_pos h1]
      by_cases hc : (ruleX S o.nm o.nd (foI o.F)).1 = 0
      · rw [if_pos (.inr ⟨h1, hc⟩)]
        obtain ⟨e1, e2, e3, e4, f, e5, e6, e7, e8⟩ := ruleX_ok hc
        refine ⟨⟨?_, fun a ha => ?_⟩, ⟨fun n => ?_, fun n => ?_, ?_⟩⟩
        · rw [List.pairwise_append]
          refine ⟨h.pw, List.pairwise_singleton _ _, fun a ha b hb e => ?_⟩
          rw [List.mem_singleton] at hb; subst hb
          rcases (h.ok a ha).2 with h2 | ⟨h2, _⟩
          · exact absurd (by rw [e]; exact e3) (val_in a ha h2)
          · exact absurd (by rw [e]; exact e4) (rule_in a ha h2)
        · rcases List.mem_append.1 ha with ha | ha
          · exact h.ok a ha
          · rw [List.mem_singleton] at ha; subst ha; exact ⟨e1, .inr ⟨h1, e2, by rw [e5]; simp⟩⟩
        · simp only
          rw [e6, lastBy_snoc, k.v n]
          unfold vB
          simp [h0]
        · simp only
          rw [e7, lastBy_snoc, k.r n]
          unfold rB
          by_cases hn : n = o.nm
          · subst hn; simp [h1, e5]
          · have hn' : ¬ o.nm = n := fun e => hn e.symm
            simp [hn, hn']
        · simp only
          rw [e8, k.len, List.filter_append]
          simp [h1]
      · rw [if_neg (by rintro (⟨h, _⟩ | ⟨_, h⟩); exact h0 h; exact hc h)]
        simp only
        rw [ruleX_bad hc]
        exact ⟨h, k⟩
    · rw [if_neg h1, if_neg (by rintro (⟨h, _⟩ | ⟨h, _⟩); exact h0 h; exact h1 h)]
      simp only
      obtain ⟨D, hD⟩ := sm_of S
      have g := getX_got hm hD o.nm
      exact ⟨h, ⟨fun n => (g.v n).trans (k.v n), fun n => (g.r n).trans (k.r n), g.len.trans k.len⟩⟩
/-- whether no later call has the name -/
def lastNm (o : OpR) (D : List OpR) : Prop := ∀ a ∈ D, a.nm ≠ o.nm
instance (o : OpR) (D : List OpR) : Decidable (lastNm o D) := by unfold lastNm; infer_instance
/-- the new graph, from the end -/
def backX : List OpR → GS
  | [] => GS.new
  | o :: D => if o.K = 0 then (if lastNm o D then (setX (backX D) o.nm o.vl).2 else backX D) else (ruleX (backX D) o.nm o.nd (foI o.F)).2
theorem back_vals (S : GS) (n v : Nm) : (setX S n v).2.vals.length ≤ S.vals.length + 1 := by
  unfold setX
  split
  · exact Nat.le_succ _
  · split
    · exact Nat.le_succ _
    · split
      · split
        · exact Nat.le_succ _
        · show (putV n v S.vals).length ≤ _
          rw [putV_len]; split <;> omega
      · split
        · exact Nat.le_succ _
        · show (putV n v S.vals).length ≤ _
          rw [putV_len]; split <;> omega
theorem rule_vals (S : GS) (n : Nm) (nd : List Nm) (fo : Option Nat) : (ruleX S n nd fo).2.vals = S.vals := by
  unfold ruleX
  split
  · rfl
  · split
    · rfl
    · cases fo with
      | none => rfl
      | some f =>
        simp only
        split
        · rfl
        · split
          · rfl
          · split
            · rfl
            · split <;> rfl
theorem back_step {D : List OpR} {o : OpR} (h : Made (o :: D)) (hs : D.length < 1000) (hnd : o.nd.length ≤ 1024) (k : Has D (backX D)) (hz : (backX D).vals.length + (backX D).rules.length ≤ D.length) :
    (o.K = 0 → lastNm o D → (setX (backX D) o.nm o.vl).1 = 0) ∧ (o.K = 1 → (ruleX (backX D) o.nm o.nd (foI o.F)).1 = 0) ∧ Has (o :: D) (backX (o :: D)) ∧ (backX (o :: D)).vals.length + (backX (o :: D)).rules.length ≤ (o :: D).length := by
  obtain ⟨hpw, hD⟩ := List.pairwise_cons.1 h.pw
  have ho := h.ok o List.mem_cons_self
  have norule : findR (backX D).rules o.nm = none := by
    have h1 := k.r o.nm
    cases hf : findR (backX D).rules o.nm with
    | none => rfl
    | some r =>
      exfalso
      unfold rf at h1
      rw [hf] at h1
      obtain ⟨a, ha, e⟩ := lastBy_mem h1.symm
      unfold rB at e
      split at e
      · rename_i hc
        have := (hpw a ha hc.2.symm).2
        rw [hc.1] at this; cases this
      · cases e
  have noval : o.K ≠ 0 ∨ lastNm o D → getV (backX D).vals o.nm = none := fun hx => by
    rw [k.v o.nm]
    cases hl : lastBy (vB o.nm) D with
    | none => rfl
    | some x =>
      exfalso
      obtain ⟨a, ha, e⟩ := lastBy_mem hl
      unfold vB at e
      split at e
      · rename_i hc
        rcases hx with hx | hx
        · exact hx (hpw a ha hc.2.symm).1
        · exact hx a ha hc.2
      · cases e
  by_cases h0 : o.K = 0
  · have h1 : ¬ o.K = 1 := by rw [h0]; decide
    have hset : (setX (backX D) o.nm o.vl).1 = 0 := setX_can ho.1 norule (by omega)
    obtain ⟨e1, e2, e3, e4, e5⟩ := setX_ok hset
    refine ⟨fun _ _ => hset, fun h => absurd h h1, ?_, ?_⟩
    · rw [backX, if_pos h0]
      by_cases hl : lastNm o D
      · rw [if_pos hl]
        refine ⟨fun n => ?_, fun n => ?_, ?_⟩
        · rw [e3, lastBy, k.v n]
          unfold vB
          by_cases hn : n = o.nm
          · subst hn
            have := noval (.inr hl)
            rw [k.v] at this
            unfold vB at this
            rw [this]
            simp [h0]
          · have hn' : ¬ o.nm = n := fun e => hn e.symm
            simp [hn, hn']
        · rw [e4, lastBy, k.r n]
          have : rB n o = none := by unfold rB; simp [h1]
          rw [this]; simp
        · rw [e5, k.len]; simp [h1]
      · rw [if_neg hl]
        refine ⟨fun n => ?_, fun n => ?_, ?_⟩
        · rw [lastBy, k.v n]
          by_cases hn : o.nm = n
          · subst hn
            have : lastBy (vB o.nm) D ≠ none := by
              obtain ⟨a, ha, e⟩ : ∃ a ∈ D, a.nm = o.nm := Classical.byContradiction fun hx => hl fun a ha e => hx ⟨a, ha, e⟩
              refine lastBy_some ha ?_
              unfold vB
              rw [if_pos ⟨(hpw a ha e.symm).2, e⟩]; simp
            cases hb : lastBy (vB o.nm) D with
            | none => exact absurd hb this
            | some x => simp
          · have : vB n o = none := by unfold vB; simp [hn]
            rw [this]; simp
        · rw [lastBy, k.r n]
          have : rB n o = none := by unfold rB; simp [h1]
          rw [this]; simp
        · rw [k.len]; simp [h1]
    · rw [backX, if_pos h0]
      by_cases hl : lastNm o D
      · rw [if_pos hl, e5]
        have := back_vals (backX D) o.nm o.vl
        simp only [List.length_cons]; omega
      · rw [if_neg hl]; simp only [List.length_cons]; omega
  · have h1 : o.K = 1 := by
      rcases ho.2 with h | ⟨h, _⟩
      · exact absurd h h0
      · exact h
    obtain ⟨_, hn2, hfo⟩ : o.K = 1 ∧ [] ∉ o.nd ∧ foI o.F ≠ none := by
      rcases ho.2 with h | h
      · exact absurd h h0
      · exact h
    obtain ⟨f, hf⟩ : ∃ f, foI o.F = some f := by
      cases h : foI o.F with
      | none => exact absurd h hfo
      | some f => exact ⟨f, rfl⟩
    have hrule : (ruleX (backX D) o.nm o.nd (foI o.F)).1 = 0 := by rw [hf]; exact ruleX_can ho.1 hn2 (noval (.inl h0)) norule hnd (by omega)
    obtain ⟨e1, e2, e3, e4, f', e5, e6, e7, e8⟩ := ruleX_ok hrule
    refine ⟨fun h => absurd h h0, fun _ => hrule, ?_, ?_⟩
    · rw [backX, if_neg h0]
      refine ⟨fun n => ?_, fun n => ?_, ?_⟩
      · rw [e6, lastBy, k.v n]
        have : vB n o = none := by unfold vB; simp [h0]
        rw [this]; simp
      · rw [e7, lastBy, k.r n]
        by_cases hn : n = o.nm
        · subst hn
          have h2 := k.r o.nm
          unfold rf at h2
          rw [norule] at h2
          rw [← h2]
          unfold rB
          simp [h1, e5]
        · have hn' : ¬ o.nm = n := fun e => hn e.symm
          have : rB n o = none := by unfold rB; simp [hn']
          rw [this, if_neg hn]; simp
      · rw [e8, k.len]; simp [h1]
    · rw [backX, if_neg h0, e8, rule_vals]
      simp only [List.length_cons]; omega
theorem Made.tail {o : OpR} {D : List OpR} (h : Made (o :: D)) : Made D := ⟨(List.pairwise_cons.1 h.pw).2, fun a ha => h.ok a (List.mem_cons_of_mem _ ha)⟩
theorem back_has : ∀ (D : List OpR), Made D → D.length < 1000 → (∀ o ∈ D, o.nd.length ≤ 1024) → Has D (backX D) ∧ (backX D).vals.length + (backX D).rules.length ≤ D.length
  | [], _, _, _ => ⟨has_new, Nat.le_refl _⟩
  | o :: D, h, hl, hn => by
    obtain ⟨k, hz⟩ := back_has D h.tail (by simp at hl; omega) (fun a ha => hn a (List.mem_cons_of_mem _ ha))
    have := back_step h (by simp at hl; omega) (hn o List.mem_cons_self) k hz
    exact ⟨this.2.2.1, this.2.2.2⟩
theorem back_mi : ∀ D, MI (backX D)
  | [] => new_mi
  | o :: D => by
    unfold backX
    split
    · split
      · exact setX_mi (back_mi D) _ _
      · exact back_mi D
    · exact ruleX_mi (back_mi D) _ _ _
/-- P48.5: a new graph with the same values and rules answers as the old one -/
theorem fresh_law {S : GS} {M : List OpR} (hm : MI S) (h : Made M) (k : Has M S) (hl : M.length < 1000) (hn : ∀ o ∈ M, o.nd.length ≤ 1024) (n : Nm) : (getX (backX M) n).2 = (getX S n).2 := by
  have b := (back_has M h hl hn).1
  exact get_same hm (back_mi M) (fun m => (b.v m).trans (k.v m).symm) (fun m => (b.r m).trans (k.r m).symm) (b.len.trans k.len.symm) n
def freshP (l : List OpR) (k : Nat) : GS × List OpR := (l.take k).foldl madeX (GS.new, [])
theorem freshP_succ {l : List OpR} {k : Nat} {o : OpR} (h : l[k]? = some o) : freshP l (k + 1) = madeX (freshP l k) o := by
  unfold freshP; rw [take_one h, List.foldl_append]; rfl
theorem freshP_all (l : List OpR) : ∀ k, (freshP l k).1 = opsX GS.new (l.take k) ∧ Made (freshP l k).2 ∧ Has (freshP l k).2 (freshP l k).1 ∧ (∀ o ∈ (freshP l k).2, o ∈ l) ∧ (freshP l k).2.length ≤ k
  | 0 => by
    unfold freshP
    rw [List.take_zero]
    exact ⟨rfl, ⟨List.Pairwise.nil, by simp⟩, has_new, by simp, Nat.le_refl _⟩
  | k + 1 => by
    obtain ⟨h1, h2, h3, h4, h5⟩ := freshP_all l k
    cases hk : l[k]? with
    | none =>
      have hlen : l.length ≤ k := List.getElem?_eq_none_iff.1 hk
      have e : freshP l (k + 1) = freshP l k := by unfold freshP; rw [List.take_of_length_le (by omega), List.take_of_length_le hlen]
      rw [e]
      exact ⟨by rw [h1, List.take_of_length_le hlen, List.take_of_length_le (Nat.le_succ_of_le hlen)], h2, h3, h4, by omega⟩
    | some o =>
      rw [freshP_succ hk, take_one hk, opsX_snoc, ← h1]
      have hs := made_step h2 h3 (by rw [h1]; exact opsX_mi _ new_mi) o
      refine ⟨rfl, hs.1, hs.2, fun a ha => ?_, ?_⟩
      · unfold madeX at ha
        simp only at ha
        split at ha
        · rcases List.mem_append.1 ha with ha | ha
          · exact h4 a ha
          · rw [List.mem_singleton] at ha; subst ha; exact List.mem_of_getElem? hk
        · exact h4 a ha
      · unfold madeX
        simp only
        split
        · simp; omega
        · omega
theorem back_gi : ∀ D : List OpR, (∀ o ∈ D, FewO o) → GI 0 (backX D) ∧ (backX D).changes ≤ D.length
  | [], _ => ⟨GI.new 0, Nat.le_refl _⟩
  | o :: D, h => by
    obtain ⟨h1, h2⟩ := back_gi D (fun a ha => h a (List.mem_cons_of_mem _ ha))
    have ho := h o List.mem_cons_self
    have hs := setX_gi h1 o.nm o.vl (by have := ho.2.2.1; omega)
    have hr := ruleX_gi h1 o.nm o.nd (foI o.F)
    unfold backX
    simp only [List.length_cons]
    split
    · split
      · exact ⟨hs.1, by have := hs.2; omega⟩
      · exact ⟨h1, by omega⟩
    · exact ⟨hr.1, by have := hr.2; omega⟩
theorem drop_get {α : Type} {l : List α} {k : Nat} {x : α} (h : l[k]? = some x) : l.drop k = x :: l.drop (k + 1) := by
  obtain ⟨hk, e⟩ := List.getElem?_eq_some_iff.1 h
  rw [List.drop_eq_getElem_cons hk, e]
theorem Made.drop {M : List OpR} (h : Made M) : ∀ k, Made (M.drop k)
  | 0 => h
  | k + 1 => by
    have := Made.drop h k
    cases hk : M[k]? with
    | none =>
      have : M.length ≤ k := List.getElem?_eq_none_iff.1 hk
      rw [List.drop_eq_nil_of_le (by omega)]
      exact ⟨List.Pairwise.nil, by simp⟩
    | some o => rw [drop_get hk] at this; exact this.tail
/-- the new graph's step -/
theorem back_at {M : List OpR} (h : Made M) (hl : M.length < 1000) (hn : ∀ o ∈ M, o.nd.length ≤ 1024) {y : Nat} {o : OpR} (hy : M[y]? = some o) :
    (o.K = 0 → lastNm o (M.drop (y + 1)) → (setX (backX (M.drop (y + 1))) o.nm o.vl).1 = 0) ∧ (o.K = 1 → (ruleX (backX (M.drop (y + 1))) o.nm o.nd (foI o.F)).1 = 0) ∧
    backX (M.drop y) = (if o.K = 0 then (if lastNm o (M.drop (y + 1)) then (setX (backX (M.drop (y + 1))) o.nm o.vl).2 else backX (M.drop (y + 1))) else (ruleX (backX (M.drop (y + 1))) o.nm o.nd (foI o.F)).2) ∧ (o.K = 0 ∨ o.K = 1) := by
  have hm := h.drop y
  rw [drop_get hy] at hm
  have hl2 : (M.drop (y + 1)).length < 1000 := by rw [List.length_drop]; omega
  have hb := back_has (M.drop (y + 1)) (h.drop (y + 1)) hl2 (fun a ha => hn a (List.mem_of_mem_drop ha))
  have hs := back_step hm hl2 (hn o (List.mem_of_getElem? hy)) hb.1 hb.2
  refine ⟨hs.1, hs.2.1, by rw [drop_get hy]; rfl, ?_⟩
  rcases (h.ok o (List.mem_of_getElem? hy)).2 with h | ⟨h, _⟩
  · exact .inl h
  · exact .inr h
theorem lastNm_snoc {o a : OpR} {D : List OpR} : lastNm o (D ++ [a]) ↔ lastNm o D ∧ a.nm ≠ o.nm := by
  unfold lastNm
  constructor
  · intro h; exact ⟨fun x hx => h x (List.mem_append_left _ hx), h a (by simp)⟩
  · rintro ⟨h1, h2⟩ x hx
    rcases List.mem_append.1 hx with hx | hx
    · exact h1 x hx
    · rw [List.mem_singleton] at hx; subst hx; exact h2
end Go.Proofs.Ytbikldmhfaecpaa
