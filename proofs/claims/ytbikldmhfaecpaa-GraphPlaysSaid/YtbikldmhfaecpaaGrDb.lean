/-
  Layer 48 (graph), plain: what Get returns is what a name is worth; a second Get calls nothing.
-/
import Derived.Test.YtbikldmhfaecpaaGrDa
namespace Go.Proofs.Ytbikldmhfaecpaa
set_option linter.unusedVariables false
set_option linter.unusedSimpArgs false

def cycX (S : GS) (n : Nm) : Bool := (cyc S.rules (S.rules.length + 1) [] [] n).1
theorem cycs_congr {g h : List Nm → Nm → Bool × List Nm} : ∀ (l d : List Nm), (∀ d m, m ∈ l → g d m = h d m) → cycs g d l = cycs h d l
  | [], d, _ => rfl
  | n :: l, d, e => by
    have ih := fun d' => cycs_congr l d' (fun d m hm => e d m (List.mem_cons_of_mem _ hm))
    unfold cycs
    rw [e d n List.mem_cons_self]
    cases h d n with
    | mk b d' =>
      cases b with
      | true => rfl
      | false => exact ih d'
theorem cyc_congr {rs rs' : List RuleS} (hr : ∀ m, rf rs m = rf rs' m) : ∀ (f : Nat) (o d : List Nm) (n : Nm), cyc rs f o d n = cyc rs' f o d n
  | 0, o, d, n => rfl
  | f + 1, o, d, n => by
    unfold cyc
    have h := hr n
    unfold rf at h
    cases h1 : findR rs n with
    | none =>
      rw [h1] at h
      cases h2 : findR rs' n with
      | none => rfl
      | some r' => rw [h2] at h; cases h
    | some r =>
      rw [h1] at h
      cases h2 : findR rs' n with
      | none => rw [h2] at h; cases h
      | some r' =>
        rw [h2] at h
        simp only [Option.map_some, Option.some.injEq, Prod.mk.injEq] at h
        simp only
        rw [h.1, cycs_congr r'.needs d (fun d m _ => cyc_congr hr f (o ++ [n]) d m)]
theorem cycs_ok {R : RF} {g : List Nm → Nm → Bool × List Nm} : ∀ (l d : List Nm),
    (∀ d m, m ∈ l → (∀ x ∈ d, ∃ g, OkD R g x) → (g d m).1 = false → (∃ g, OkD R g m) ∧ ∀ x ∈ (g d m).2, ∃ g, OkD R g x) →
    (∀ x ∈ d, ∃ g, OkD R g x) → (cycs g d l).1 = false → (∀ m ∈ l, ∃ g, OkD R g m) ∧ ∀ x ∈ (cycs g d l).2, ∃ g, OkD R g x
  | [], d, _, hd, _ => ⟨by simp, hd⟩
  | n :: l, d, e, hd, hc => by
    unfold cycs at hc ⊢
    have e1 := e d n List.mem_cons_self hd
    cases hg : g d n with
    | mk b d' =>
      rw [hg] at hc e1
      cases b with
      | true => cases hc
      | false =>
        obtain ⟨a1, a2⟩ := e1 rfl
        have ih := cycs_ok l d' (fun d m hm => e d m (List.mem_cons_of_mem _ hm)) a2 hc
        exact ⟨fun m hm => by
          rcases List.mem_cons.1 hm with rfl | hm
          · exact a1
          · exact ih.1 m hm, ih.2⟩
theorem ok_all {R : RF} : ∀ l : List Nm, (∀ m ∈ l, ∃ g, OkD R g m) → ∃ g, ∀ m ∈ l, OkD R g m
  | [], _ => ⟨0, by simp⟩
  | a :: l, h => by
    obtain ⟨g1, h1⟩ := h a List.mem_cons_self
    obtain ⟨g2, h2⟩ := ok_all l (fun m hm => h m (List.mem_cons_of_mem _ hm))
    exact ⟨max g1 g2, fun m hm => by
      rcases List.mem_cons.1 hm with rfl | hm
      · exact h1.le (Nat.le_max_left _ _)
      · exact (h2 m hm).le (Nat.le_max_right _ _)⟩
/-- a name that leads to no cycle -/
theorem cyc_ok (rs : List RuleS) : ∀ (f : Nat) (o d : List Nm) (n : Nm), (∀ x ∈ d, ∃ g, OkD (rf rs) g x) → (cyc rs f o d n).1 = false → (∃ g, OkD (rf rs) g n) ∧ ∀ x ∈ (cyc rs f o d n).2, ∃ g, OkD (rf rs) g x
  | 0, o, d, n, _, h => by cases h
  | f + 1, o, d, n, hd, h => by
    unfold cyc at h ⊢
    by_cases ho : n ∈ o
    · rw [if_pos ho] at h; cases h
    · rw [if_neg ho] at h ⊢
      cases hr : findR rs n with
      | none => exact ⟨⟨1, fun l f' hl => by unfold rf at hl; rw [hr] at hl; cases hl⟩, hd⟩
      | some r =>
        rw [hr] at h
        simp only at h ⊢
        by_cases hm : n ∈ d
        · rw [if_pos hm]; exact ⟨hd n hm, hd⟩
        · rw [if_neg hm] at h ⊢
          have C := cycs_ok (R := rf rs) (g := cyc rs f (o ++ [n])) r.needs d (fun d m _ hd' hc => cyc_ok rs f (o ++ [n]) d m hd' hc) hd
          cases hc : cycs (cyc rs f (o ++ [n])) d r.needs with
          | mk b d' =>
            rw [hc] at h C
            cases b with
            | true => cases h
            | false =>
              obtain ⟨a1, a2⟩ := C rfl
              obtain ⟨g, hg⟩ := ok_all r.needs a1
              have hn : OkD (rf rs) (g + 1) n := fun l f' hl m hm' => by
                unfold rf at hl; rw [hr] at hl
                simp only [Option.map_some, Option.some.injEq, Prod.mk.injEq] at hl
                rw [← hl.1] at hm'
                exact hg m hm'
              refine ⟨⟨g + 1, hn⟩, fun x hx => ?_⟩
              simp only at hx
              unfold addS at hx
              split at hx
              · exact a2 x hx
              · rcases List.mem_append.1 hx with hx | hx
                · exact a2 x hx
                · rw [List.mem_singleton] at hx; subst hx; exact ⟨g + 1, hn⟩
/-- what a graph's calls keep -/
structure MI (S : GS) : Prop where
  nm : (S.rules.map (·.name)).Nodup
  nb : ∀ r ∈ S.rules, r.busy = false
  vx : ∀ m, getV S.vals m ≠ none → findR S.rules m = none
  w : ∀ m r, findR S.rules m = some r → r.called = true → (r.val, r.e) = applyV r.f r.inn
structure Got (D : Nm → Res) (S S' : GS) : Prop where
  mi : MI S'
  v : ∀ m, getV S'.vals m = getV S.vals m
  r : ∀ m, rf S'.rules m = rf S.rules m
  len : S'.rules.length = S.rules.length
  runs : S.runs ≤ S'.runs
  clo : ∀ Q, Clo (getV S.vals) D Q S → Clo (getV S.vals) D Q S'
theorem Got.refl {D : Nm → Res} {S : GS} (h : MI S) : Got D S S := ⟨h, fun _ => rfl, fun _ => rfl, rfl, Nat.le_refl _, fun _ h => h⟩
theorem Got.trans {D : Nm → Res} {S S' S'' : GS} (h : Got D S S') (k : Got D S' S'') : Got D S S'' :=
  ⟨k.mi, fun m => (k.v m).trans (h.v m), fun m => (k.r m).trans (h.r m), k.len.trans h.len, Nat.le_trans h.runs k.runs, fun Q c => by
    have e : getV S'.vals = getV S.vals := funext h.v
    have := k.clo Q (by rw [e]; exact h.clo Q c)
    rwa [e] at this⟩
theorem MI.di {S : GS} {D : Nm → Res} (h : MI S) : DI (getV S.vals) (rf S.rules) D ⟨S, []⟩ := ⟨fun _ => rfl, fun _ => rfl, h.nm, h.w, by simp⟩
theorem getX_cyc {S : GS} {n : Nm} (h : cycX S n = true) : getX S n = (S, ([], 10)) := by
  unfold getX; unfold cycX at h; rw [if_pos h]
theorem mi_of {D : Nm → Res} {S : GS} {E' : ES} (h : MI S) (d : DI (getV S.vals) (rf S.rules) D E') (hb : bl E'.s.rules = bl S.rules) : MI E'.s := by
  refine ⟨d.nm, fun r hr => ?_, fun m hm => ?_, d.w⟩
  · have : (r.name, r.busy) ∈ bl E'.s.rules := List.mem_map_of_mem (f := fun r : RuleS => (r.name, r.busy)) hr
    rw [hb] at this
    obtain ⟨q, hq, e⟩ := List.mem_map.1 this
    have := h.nb q hq
    simp only [Prod.mk.injEq] at e
    rw [← e.2]; exact this
  · have h1 : findR S.rules m = none := h.vx m (by rw [← d.v m]; exact hm)
    have h2 := d.r m
    unfold rf at h2
    rw [h1] at h2
    cases hf : findR E'.s.rules m with
    | none => rfl
    | some r => rw [hf] at h2; cases h2
/-- what Get leaves, where there is no cycle -/
theorem getX_den {S : GS} {D : Nm → Res} (h : MI S) (hD : Sm (getV S.vals) (rf S.rules) D) {n : Nm} (hc : cycX S n = false) :
    Got D S (getX S n).1 ∧ (getX S n).2 = D n ∧ (∃ Q, Clo (getV S.vals) D Q (getX S n).1 ∧ Q n) ∧ (∀ r, getV S.vals n = none → findR (getX S n).1.rules n = some r → r.stale = false) ∧ ∀ Q, Clo (getV S.vals) D Q S → Q n → (getX S n).1.runs = S.runs := by
  obtain ⟨⟨g, hg⟩, _⟩ := cyc_ok S.rules (S.rules.length + 1) [] [] n (by simp) hc
  obtain ⟨a1, a2, a3, a4, a5, a6⟩ := evalX_den hD g (S.rules.length + 1) ⟨S, []⟩ n hg (fun p hp hb => by
    obtain ⟨r, hr, rfl⟩ := List.mem_map.1 hp
    have := h.nb r hr
    simp only at hb
    rw [this] at hb; cases hb) (by have := nb_le S.rules; simp only; omega) h.di
  have e : getX S n = ((evalX (S.rules.length + 1) ⟨S, []⟩ n).1.s, (evalX (S.rules.length + 1) ⟨S, []⟩ n).2) := by
    unfold getX; unfold cycX at hc; rw [hc]; simp
  rw [e]
  generalize evalX (S.rules.length + 1) ⟨S, []⟩ n = X at *
  simp only
  refine ⟨⟨mi_of h a2 a4, a2.v, a2.r, ?_, a3.runs, fun Q c => a3.clo h.di a2 c⟩, a1, ⟨QE (getV S.vals) (rf S.rules) X.1, fun m r hq hv hr => ?_, a5⟩, fun r hv hr => ?_, a6⟩
  · have := congrArg List.length a4
    unfold bl at this
    simpa using this
  · rcases hq with hq | hq | hq
    · exact absurd hv hq
    · have := a2.r m; rw [hq] at this; unfold rf at this; rw [hr] at this; cases this
    · obtain ⟨p, hp, rfl⟩ := List.mem_map.1 hq
      obtain ⟨_, r', b1, b2, b3, _⟩ := a2.k p hp
      rw [hr] at b1; injection b1 with b1; subst b1
      exact ⟨b2, b3⟩
  · rcases a5 with hq | hq | hq
    · exact absurd hv hq
    · have := a2.r n; rw [hq] at this; unfold rf at this; rw [hr] at this; cases this
    · obtain ⟨p, hp, e⟩ := List.mem_map.1 hq
      obtain ⟨_, r', b1, _, _, b4⟩ := a2.k p hp
      rw [e] at b1
      rw [hr] at b1; injection b1 with b1; subst b1
      exact b4
theorem getX_got {S : GS} {D : Nm → Res} (h : MI S) (hD : Sm (getV S.vals) (rf S.rules) D) (n : Nm) : Got D S (getX S n).1 := by
  cases hc : cycX S n with
  | true => rw [getX_cyc hc]; exact Got.refl h
  | false => exact (getX_den h hD hc).1
theorem Got.cyc {D : Nm → Res} {S S' : GS} (h : Got D S S') (n : Nm) : cycX S' n = cycX S n := by
  unfold cycX; rw [h.len, cyc_congr h.r]
theorem Got.sm {D : Nm → Res} {S S' : GS} (h : Got D S S') (hD : Sm (getV S.vals) (rf S.rules) D) : Sm (getV S'.vals) (rf S'.rules) D := by
  rw [show getV S'.vals = getV S.vals from funext h.v, show rf S'.rules = rf S.rules from funext h.r]; exact hD
/-- there is what a graph's names are worth -/
theorem sm_of (S : GS) : ∃ D, Sm (getV S.vals) (rf S.rules) D := sm_exists _ _ (S.rules.map (·.name)) fun n h => by
  cases hf : findR S.rules n with
  | none => exact absurd (by unfold rf; rw [hf]; rfl) h
  | some r => have := findR_mem hf; exact this.2 ▸ List.mem_map_of_mem this.1
/-- many Gets -/
def getsX : GS → List Nm → GS
  | S, [] => S
  | S, n :: l => getsX (getX S n).1 l
theorem getsX_got {D : Nm → Res} : ∀ (l : List Nm) {S : GS}, MI S → Sm (getV S.vals) (rf S.rules) D → Got D S (getsX S l)
  | [], S, h, _ => Got.refl h
  | n :: l, S, h, hD => by
    have g := getX_got h hD n
    exact g.trans (getsX_got l g.mi (g.sm hD))
/-- P48.5, P48.6: a second Get calls nothing and returns the same; what Get returned without a cycle is not stale -/
theorem rests_law {S : GS} (h : MI S) (n : Nm) (l : List Nm) :
    (getX (getsX (getX S n).1 l) n).2 = (getX S n).2 ∧ (getX (getsX (getX S n).1 l) n).1.runs = (getsX (getX S n).1 l).runs ∧ (getX S n).1.runs ≤ (getsX (getX S n).1 l).runs ∧ (n ∈ (getX S n).1.rules.filterMap (fun r => if r.stale then some r.name else none) → (getX S n).2.2 = 10) := by
  obtain ⟨D, hD⟩ := sm_of S
  have g1 := getX_got h hD n
  have g2 := getsX_got l g1.mi (g1.sm hD)
  have g3 := g1.trans g2
  cases hc : cycX S n with
  | true =>
    have hc2 : cycX (getsX (getX S n).1 l) n = true := by rw [g3.cyc]; exact hc
    refine ⟨by rw [getX_cyc hc2, getX_cyc hc], by rw [getX_cyc hc2], g2.runs, fun _ => by rw [getX_cyc hc]⟩
  | false =>
    have hc2 : cycX (getsX (getX S n).1 l) n = false := by rw [g3.cyc]; exact hc
    obtain ⟨_, a2, ⟨Q, c1, c2⟩, a4, _⟩ := getX_den h hD hc
    obtain ⟨_, b2, _, _, b5⟩ := getX_den g3.mi (g3.sm hD) hc2
    have e1 : getV (getX S n).1.vals = getV S.vals := funext g1.v
    have e3 : getV (getsX (getX S n).1 l).vals = getV S.vals := funext g3.v
    refine ⟨by rw [b2, a2], b5 Q ?_ c2, g2.runs, fun hm => ?_⟩
    · have := g2.clo Q (by rw [e1]; exact c1)
      rw [e1] at this
      rw [e3]; exact this
    · obtain ⟨r, hr, e⟩ := List.mem_filterMap.1 hm
      split at e
      · rename_i hs
        injection e with e
        have hf := findR_of g1.mi.nm hr
        rw [e] at hf
        cases hv : getV S.vals n with
        | none => exact absurd hs (by rw [a4 r hv hf]; decide)
        | some v =>
          have := g1.mi.vx n (by rw [g1.v n, hv]; simp)
          rw [this] at hf; cases hf
      · cases e
end Go.Proofs.Ytbikldmhfaecpaa
