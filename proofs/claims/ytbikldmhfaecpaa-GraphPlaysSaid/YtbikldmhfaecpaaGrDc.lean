/-
  Layer 48 (graph), plain: what Set and Rule keep; the state after calls.
-/
import Derived.Test.YtbikldmhfaecpaaGrDb
import Derived.Test.YtbikldmhfaecpaaGrOr
namespace Go.Proofs.Ytbikldmhfaecpaa
set_option linter.unusedVariables false
set_option linter.unusedSimpArgs false

theorem findR_snoc2 (rs : List RuleS) (r : RuleS) (m : Nm) : findR (rs ++ [r]) m = match findR rs m with
    | some x => some x
    | none => if m = r.name then some r else none := by
  induction rs with
  | nil => simp [findR]
  | cons a q ih =>
    rw [List.cons_append]
    unfold findR
    split
    · rfl
    · rw [ih]
theorem touch_find (S : GS) (n m : Nm) : ∃ g : RuleS → RuleS, (∀ r, g r = r ∨ g r = { r with stale := true }) ∧ findR (touchX S n).rules m = (findR S.rules m).map g := by
  refine ⟨fun r => if r.name ∈ touchGo S.rules (2 * S.rules.length + 1) [] [n] then { r with stale := true } else r, fun r => ?_, ?_⟩
  · simp only; split
    · exact .inr rfl
    · exact .inl rfl
  · unfold touchX markS
    exact findR_map _ (fun r => by split <;> rfl) _ _
theorem touch_rf (S : GS) (n m : Nm) : rf (touchX S n).rules m = rf S.rules m := by
  obtain ⟨g, hg, e⟩ := touch_find S n m
  unfold rf
  rw [e, Option.map_map]
  congr 1
  funext r
  simp only [Function.comp]
  rcases hg r with h | h <;> rw [h]
theorem touch_names (S : GS) (n : Nm) : (touchX S n).rules.map (·.name) = S.rules.map (·.name) := by
  unfold touchX markS
  simp only [List.map_map]
  apply List.map_congr_left
  intro r _
  simp only [Function.comp]
  split <;> rfl
theorem touch_mi {S : GS} (h : MI S) (n : Nm) : MI (touchX S n) := by
  refine ⟨by rw [touch_names]; exact h.nm, fun r hr => ?_, fun m hm => ?_, fun m r hr hc => ?_⟩
  · unfold touchX markS at hr
    obtain ⟨q, hq, rfl⟩ := List.mem_map.1 hr
    split <;> exact h.nb q hq
  · have h1 := touch_rf S n m
    have h2 : findR S.rules m = none := h.vx m hm
    unfold rf at h1
    rw [h2] at h1
    cases hf : findR (touchX S n).rules m with
    | none => rfl
    | some r => rw [hf] at h1; cases h1
  · obtain ⟨g, hg, e⟩ := touch_find S n m
    rw [hr] at e
    cases hf : findR S.rules m with
    | none => rw [hf] at e; cases e
    | some q =>
      rw [hf] at e
      simp only [Option.map_some, Option.some.injEq] at e
      have := h.w m q hf
      rcases hg q with hq | hq
      · rw [hq] at e; rw [e] at hc ⊢; exact this hc
      · rw [hq] at e; rw [e] at hc ⊢; exact this hc
theorem setX_mi {S : GS} (h : MI S) (n v : Nm) : MI (setX S n v).2 := by
  have hp : findR S.rules n = none → MI (touchX { S with vals := putV n v S.vals } n) := fun hn => touch_mi (S := { S with vals := putV n v S.vals }) ⟨h.nm, h.nb, fun m hm => by
    have hm : getV (putV n v S.vals) m ≠ none := hm
    rw [getV_put] at hm
    by_cases e : m = n
    · subst e; exact hn
    · rw [if_neg e] at hm; exact h.vx m hm, h.w⟩ n
  unfold setX
  split
  · exact h
  · split
    · exact h
    · rename_i hr
      have hn : findR S.rules n = none := by
        cases hf : findR S.rules n with
        | none => rfl
        | some r => rw [hf] at hr; exact absurd rfl hr
      split
      · split
        · exact h
        · exact hp hn
      · split
        · exact h
        · exact hp hn
theorem ruleX_mi {S : GS} (h : MI S) (n : Nm) (needs : List Nm) (fo : Option Nat) : MI (ruleX S n needs fo).2 := by
  unfold ruleX
  split
  · exact h
  · split
    · exact h
    · cases fo with
      | none => exact h
      | some f =>
        simp only
        split
        · exact h
        · rename_i hv
          split
          · exact h
          · rename_i hr
            split
            · exact h
            · split
              · exact h
              · have hn : findR S.rules n = none := by
                  cases hf : findR S.rules n with
                  | none => rfl
                  | some r => rw [hf] at hr; exact absurd rfl hr
                refine touch_mi (S := { S with rules := S.rules ++ [⟨n, needs, f, false, [], [], 0, true, false⟩] }) ⟨?_, fun r hr => ?_, fun m hm => ?_, fun m r hr hc => ?_⟩ n
                · simp only [List.map_append, List.map_cons, List.map_nil]
                  rw [List.nodup_append]
                  exact ⟨h.nm, by simp, fun a ha b hb => by
                    simp at hb; subst hb
                    obtain ⟨q, hq, rfl⟩ := List.mem_map.1 ha
                    exact findR_none hn q hq⟩
                · rcases List.mem_append.1 hr with hr | hr
                  · exact h.nb r hr
                  · rw [List.mem_singleton] at hr; subst hr; rfl
                · simp only at hm ⊢
                  rw [findR_snoc2, h.vx m hm]
                  simp only
                  rw [if_neg]
                  intro e
                  rw [e] at hm
                  cases hg : getV S.vals n with
                  | none => exact hm hg
                  | some x => rw [hg] at hv; exact hv rfl
                · simp only at hr
                  rw [findR_snoc2] at hr
                  cases hf : findR S.rules m with
                  | some q => rw [hf] at hr; injection hr with hr; subst hr; exact h.w m q hf hc
                  | none =>
                    rw [hf] at hr
                    simp only at hr
                    split at hr
                    · injection hr with hr; subst hr; cases hc
                    · cases hr
theorem getX_mi {S : GS} (h : MI S) (n : Nm) : MI (getX S n).1 := by
  obtain ⟨D, hD⟩ := sm_of S
  exact (getX_got h hD n).mi
theorem new_mi : MI GS.new := ⟨by simp [GS.new], by simp [GS.new], fun m hm => rfl, fun m r hr => by cases hr⟩
/-- a law's call -/
def opX (S : GS) (o : OpR) : GS := if o.K = 0 then (setX S o.nm o.vl).2 else if o.K = 1 then (ruleX S o.nm o.nd (foI o.F)).2 else (getX S o.nm).1
def opsX (S : GS) (l : List OpR) : GS := l.foldl opX S
theorem opX_mi {S : GS} (h : MI S) (o : OpR) : MI (opX S o) := by
  unfold opX
  split
  · exact setX_mi h _ _
  · split
    · exact ruleX_mi h _ _ _
    · exact getX_mi h _
theorem opsX_mi : ∀ (l : List OpR) {S : GS}, MI S → MI (opsX S l)
  | [], _, h => h
  | o :: l, S, h => opsX_mi l (opX_mi h o)
theorem opX_gi {R : Nat} {S : GS} (h : GI R S) (o : OpR) (ho : FewO o) : GI (R + 1024) (opX S o) ∧ (opX S o).changes ≤ S.changes + 1 := by
  have up : ∀ {T : GS}, GI R T → GI (R + 1024) T := fun h => ⟨h.vals, h.rv, h.nm, h.nb, h.needs, h.size, Nat.le_trans h.runs (Nat.le_add_right _ _)⟩
  unfold opX
  split
  · have := setX_gi h o.nm o.vl (by have := ho.2.2.1; omega)
    exact ⟨up this.1, this.2⟩
  · split
    · have := ruleX_gi h o.nm o.nd (foI o.F)
      exact ⟨up this.1, this.2⟩
    · have := getX_gi h o.nm
      exact ⟨this.1, by rw [this.2.2.1]; omega⟩
theorem opsX_snoc (S : GS) (l : List OpR) (o : OpR) : opsX S (l ++ [o]) = opX (opsX S l) o := by unfold opsX; rw [List.foldl_append]; rfl
theorem opsX_gi (l : List OpR) (hl : ∀ o ∈ l, FewO o) : ∀ k, GI (1024 * k) (opsX GS.new (l.take k)) ∧ (opsX GS.new (l.take k)).changes ≤ k
  | 0 => ⟨by rw [List.take_zero]; exact GI.new _, by rw [List.take_zero]; exact Nat.le_refl _⟩
  | k + 1 => by
    obtain ⟨h1, h2⟩ := opsX_gi l hl k
    cases hk : l[k]? with
    | none =>
      have hlen : l.length ≤ k := List.getElem?_eq_none_iff.1 hk
      rw [List.take_of_length_le (by omega)] at h1 h2 ⊢
      exact ⟨⟨h1.vals, h1.rv, h1.nm, h1.nb, h1.needs, h1.size, by have := h1.runs; omega⟩, by omega⟩
    | some o =>
      rw [take_one hk, opsX_snoc]
      have h3 := opX_gi h1 o (hl o (List.mem_of_getElem? hk))
      exact ⟨by have := h3.1; rwa [show 1024 * k + 1024 = 1024 * (k + 1) from by omega] at this, by have := h3.2; omega⟩
theorem getsX_snoc : ∀ (l : List Nm) (S : GS) (n : Nm), getsX S (l ++ [n]) = (getX (getsX S l) n).1
  | [], S, n => rfl
  | a :: l, S, n => getsX_snoc l (getX S a).1 n
theorem getsX_gi : ∀ (l : List Nm) {R : Nat} {S : GS}, GI R S → GI (R + 1024 * l.length) (getsX S l) ∧ (getsX S l).changes = S.changes
  | [], R, S, h => ⟨h, rfl⟩
  | n :: l, R, S, h => by
    have h1 := getX_gi h n
    have h2 := getsX_gi l h1.1
    exact ⟨by have := h2.1; rw [List.length_cons, show R + 1024 * (l.length + 1) = R + 1024 + 1024 * l.length from by omega]; exact this, by rw [getsX, h2.2, h1.2.2.1]⟩
theorem getsX_mi : ∀ (l : List Nm) {S : GS}, MI S → MI (getsX S l)
  | [], _, h => h
  | n :: l, S, h => getsX_mi l (getX_mi h n)
theorem mem_staleX (S : GS) (n : Nm) : n ∈ staleX S ↔ n ∈ S.rules.filterMap (fun r => if r.stale then some r.name else none) := by
  unfold staleX
  rw [List.mem_mergeSort, List.mem_map, List.mem_filterMap]
  constructor
  · rintro ⟨r, hr, rfl⟩
    obtain ⟨h1, h2⟩ := List.mem_filter.1 hr
    exact ⟨r, h1, by rw [if_pos h2]⟩
  · rintro ⟨r, hr, e⟩
    split at e
    · rename_i hs
      injection e with e
      exact ⟨r, List.mem_filter.2 ⟨hr, hs⟩, e⟩
    · cases e
/-- to set a name to the value that it has changes nothing -/
theorem set_same {S : GS} (h : MI S) (n : Nm) (h0 : (getX S n).2.2 = 0) : setX (getX S n).1 n (getX S n).2.1 = ((setX (getX S n).1 n (getX S n).2.1).1, (getX S n).1) := by
  obtain ⟨D, hD⟩ := sm_of S
  have g := getX_got h hD n
  cases hc : cycX S n with
  | true => rw [getX_cyc hc] at h0; cases h0
  | false =>
    have hd := (getX_den h hD hc).2.1
    obtain ⟨⟨k, hk⟩, _⟩ := cyc_ok S.rules (S.rules.length + 1) [] [] n (by simp) hc
    have e : (setX (getX S n).1 n (getX S n).2.1).2 = (getX S n).1 := by
      unfold setX
      split
      · rfl
      · split
        · rfl
        · rename_i hr
          rw [g.v n]
          cases hv : getV S.vals n with
          | some x =>
            simp only
            rw [hd, hD.val n x hv, if_pos rfl]
          | none =>
            exfalso
            have hrf : rf S.rules n = none := by
              rw [← g.r n]
              unfold rf
              cases hf : findR (getX S n).1.rules n with
              | none => rfl
              | some r => rw [hf] at hr; exact absurd rfl hr
            rw [hd, hD.non n hv hrf] at h0
            cases h0
    rw [Prod.ext_iff]; exact ⟨rfl, e⟩
end Go.Proofs.Ytbikldmhfaecpaa
