/-
  Layer 48 (graph), plain: cycles and Get on both sides; stale names sorted.
-/
import Derived.Test.YtbikldmhfaecpaaGrRr
import Derived.Test.YtbikldmhfaecpaaGrRn
namespace Go.Proofs.Ytbikldmhfaecpaa
set_option linter.unusedVariables false
set_option linter.unusedSimpArgs false

theorem ndV_rf {L : List VM} (hf : Flat L) (hnd : (L.map (·.nm)).Nodup) (a : Nm) : (∀ l f, rf (absR L) a = some (l, f) → ndV L a = l) ∧ (rf (absR L) a = none → ndV L a = []) := by
  cases hi : findI L a with
  | none =>
    have hab := abs_none hi
    have h1 := ndV_none hi
    unfold Go.Proofs.Ytbikldmhfaecpaa.rf
    rw [hab.2]
    exact ⟨fun l f h => (by cases h), fun _ => h1⟩
  | some i =>
    obtain ⟨v, hv, hvn, _⟩ := findI_some hi
    have hab := abs_some hnd hv hvn
    have h1 := ndV_some hi hv
    unfold Go.Proofs.Ytbikldmhfaecpaa.rf
    cases hr : v.rule with
    | false =>
      rw [(hab.1 hr).2, h1, hf v (List.mem_of_getElem? hv) hr]
      exact ⟨fun l f h => by (cases h), fun _ => rfl⟩
    | true =>
      rw [(hab.2 hr).2, h1]
      exact ⟨fun l f h => by simp [toR] at h; exact h.1, fun h => by cases h⟩
theorem ndV_ok {L : List VM} (hf : Flat L) (hnd : (L.map (·.nm)).Nodup) {g : Nat} {a : Nm} (h : OkD (rf (absR L)) (g + 1) a) : ∀ b ∈ ndV L a, OkD (rf (absR L)) g b := fun b hb => by
  have hn := ndV_rf hf hnd a
  cases hr : rf (absR L) a with
  | none => rw [hn.2 hr] at hb; cases hb
  | some p =>
    obtain ⟨l, f⟩ := p
    rw [hn.1 l f hr] at hb
    exact h l f hr b hb
theorem ndV_ok' {L : List VM} (hf : Flat L) (hnd : (L.map (·.nm)).Nodup) {g : Nat} {a : Nm} (h : ∀ b ∈ ndV L a, OkD (rf (absR L)) g b) : OkD (rf (absR L)) (g + 1) a := fun l f hr b hb => h b (by rw [(ndV_rf hf hnd a).1 l f hr]; exact hb)
theorem rep_ok {L : List VM} (hf : Flat L) (hnd : (L.map (·.nm)).Nodup) {g : Nat} {a x : Nm} (h : OkD (rf (absR L)) (g + 1) a) (hx : ReP L a x) : OkD (rf (absR L)) g x := by
  induction hx with
  | one hb => exact ndV_ok hf hnd h _ hb
  | more _ hc ih => exact ndV_ok hf hnd ih.up _ hc
theorem no_self {L : List VM} (hf : Flat L) (hnd : (L.map (·.nm)).Nodup) {s : Nm} (hs : ReP L s s) : ∀ g, ¬ OkD (rf (absR L)) g s
  | 0, h => h
  | g + 1, h => no_self hf hnd hs g (rep_ok hf hnd h hs)
theorem ReP.trans {L : List VM} {a b c : Nm} (h : ReP L a b) (k : ReP L b c) : ReP L a c := by
  induction k with
  | one hb => exact .more h hb
  | more _ hc ih => exact .more ih hc
open Classical in
theorem ok_of {L : List VM} (hf : Flat L) (hnd : (L.map (·.nm)).Nodup) : ∀ (k : Nat) (a : Nm), ((L.flatMap (·.nd)).filter fun x => decide (ReP L a x)).length ≤ k → ¬ CycV L a → ∃ g, OkD (rf (absR L)) g a := by
  intro k
  induction k with
  | zero =>
    intro a hk hc
    refine ⟨1, ndV_ok' hf hnd (fun b hb => ?_)⟩
    have h1 : b ∈ (L.flatMap (·.nd)).filter fun x => decide (ReP L a x) := List.mem_filter.2 ⟨ndV_mem hb, decide_eq_true (.one hb)⟩
    have := List.length_pos_of_mem h1
    omega
  | succ k ih =>
    intro a hk hc
    have each : ∀ m ∈ ndV L a, ∃ g, OkD (rf (absR L)) g m := fun m hm => by
      have hcm : ¬ CycV L m := fun ⟨s, hs, hss⟩ => hc ⟨s, .inr (by
        rcases hs with hs | hs
        · rw [hs]; exact .one hm
        · exact ReP.trans (.one hm) hs), hss⟩
      refine ih m ?_ hcm
      have hlt : ((L.flatMap (·.nd)).filter fun x => decide (ReP L m x)).length < ((L.flatMap (·.nd)).filter fun x => decide (ReP L a x)).length := by
        have hsub : ∀ x, ReP L m x → ReP L a x := fun x hx => ReP.trans (.one hm) hx
        have hmm : ¬ ReP L m m := fun h => hcm ⟨m, .inl rfl, h⟩
        have hma : ReP L a m := .one hm
        have hmem := ndV_mem hm
        generalize L.flatMap (·.nd) = U at hmem
        clear hk ih
        induction U with
        | nil => cases hmem
        | cons u U ihu =>
          have hle : ∀ V : List Nm, (V.filter fun x => decide (ReP L m x)).length ≤ (V.filter fun x => decide (ReP L a x)).length := fun V => by
            induction V with
            | nil => exact Nat.le_refl _
            | cons y V ihv =>
              rw [List.filter_cons, List.filter_cons]
              by_cases h1 : ReP L m y
              · rw [if_pos (decide_eq_true h1), if_pos (decide_eq_true (hsub y h1))]; simpa using ihv
              · rw [if_neg (by simpa using h1)]
                split
                · simp only [List.length_cons]; omega
                · exact ihv
          rw [List.filter_cons, List.filter_cons]
          rcases List.mem_cons.1 hmem with rfl | hmem
          · rw [if_neg (by simpa using hmm), if_pos (decide_eq_true hma)]
            have := hle U
            simp only [List.length_cons]; omega
          · have := ihu hmem
            by_cases h1 : ReP L m u
            · rw [if_pos (decide_eq_true h1), if_pos (decide_eq_true (hsub u h1))]; simpa using this
            · rw [if_neg (by simpa using h1)]
              split
              · simp only [List.length_cons]; omega
              · exact this
      omega
    obtain ⟨g, hg⟩ := ok_all (ndV L a) each
    exact ⟨g + 1, ndV_ok' hf hnd hg⟩
theorem cyc_ok_iff {L : List VM} (hf : Flat L) (hnd : (L.map (·.nm)).Nodup) (a : Nm) : ¬ CycV L a ↔ ∃ g, OkD (rf (absR L)) g a := by
  constructor
  · exact fun h => ok_of hf hnd _ a (Nat.le_refl _) h
  · rintro ⟨g, hg⟩ ⟨s, hs, hss⟩
    rcases hs with rfl | hs
    · exact no_self hf hnd hss g hg
    · cases g with
      | zero => exact hg
      | succ g => exact no_self hf hnd hss g (rep_ok hf hnd hg hs)
theorem cycs_false {R : RF} {g : List Nm → Nm → Bool × List Nm} : ∀ (l d : List Nm), (∀ d m, m ∈ l → (g d m).1 = false) → (cycs g d l).1 = false
  | [], d, _ => rfl
  | n :: l, d, e => by
    unfold cycs
    have e1 := e d n List.mem_cons_self
    cases hg : g d n with
    | mk b d' =>
      rw [hg] at e1
      simp only at e1
      subst e1
      exact cycs_false (R := R) l d' (fun d m hm => e d m (List.mem_cons_of_mem _ hm))
theorem cyc_false {rs : List RuleS} : ∀ (g f : Nat) (o d : List Nm) (n : Nm), OkD (rf rs) g n → (∀ x ∈ o, ¬ OkD (rf rs) g x) → o.Nodup → (∀ x ∈ o, x ∈ rs.map (·.name)) → rs.length < f + o.length → (cyc rs f o d n).1 = false := by
  intro g
  induction g with
  | zero => intro f o d n h; exact absurd h id
  | succ g ih =>
    intro f o d n h ho hnd hsub hf
    by_cases hg : OkD (rf rs) g n
    · exact ih f o d n hg (fun x hx hk => ho x hx hk.up) hnd hsub hf
    · cases f with
      | zero =>
        have := nodup_sub_len o _ hnd hsub
        rw [List.length_map] at this
        omega
      | succ f =>
        unfold cyc
        rw [if_neg (fun hm => ho n hm h)]
        cases hr : findR rs n with
        | none => rfl
        | some r =>
          simp only
          by_cases hd : n ∈ d
          · rw [if_pos hd]
          · rw [if_neg hd]
            have hR : rf rs n = some (r.needs, r.f) := by unfold rf; rw [hr]; rfl
            have hno : n ∉ o := fun hm => ho n hm h
            have hc := cycs_false (R := rf rs) (g := cyc rs f (o ++ [n])) r.needs d (fun d m hm => ih f (o ++ [n]) d m (h _ _ hR m hm) (fun x hx hk => by
              rcases List.mem_append.1 hx with hx | hx
              · exact ho x hx hk.up
              · rw [List.mem_singleton] at hx; subst hx; exact hg hk) (nodup_snoc hnd hno) (fun x hx => by
              rcases List.mem_append.1 hx with hx | hx
              · exact hsub x hx
              · rw [List.mem_singleton] at hx; subst hx
                have := findR_mem hr
                exact this.2 ▸ List.mem_map_of_mem this.1) (by rw [List.length_append, List.length_singleton]; omega))
            cases hcc : cycs (cyc rs f (o ++ [n])) d r.needs with
            | mk b d' =>
              rw [hcc] at hc
              simp only at hc
              subst hc
              rfl
theorem cycX_iff {L : List VM} (hf : Flat L) (hnd : (L.map (·.nm)).Nodup) (N : Nat) (a : Nm) : cycX (absG L N) a = true ↔ CycV L a := by
  constructor
  · intro h
    refine Classical.byContradiction fun hc => ?_
    obtain ⟨g, hg⟩ := (cyc_ok_iff hf hnd a).1 hc
    have := cyc_false g ((absR L).length + 1) [] [] a hg (by simp) (by simp) (by simp) (by simp)
    have h2 : cycX (absG L N) a = false := this
    rw [h2] at h; cases h
  · intro hc
    cases h : cycX (absG L N) a with
    | true => rfl
    | false =>
      obtain ⟨⟨g, hg⟩, _⟩ := cyc_ok (absR L) ((absR L).length + 1) [] [] a (by simp) h
      exact absurd hc ((cyc_ok_iff hf hnd a).2 ⟨g, hg⟩)
/-- Get on both sides -/
theorem get_abs {L : List VM} (hf : Flat L) (hnd : (L.map (·.nm)).Nodup) (N : Nat) (hm : MI (absG L N)) (a : Nm) : ∃ g, (¬ CycV L a → OkD (rf (absR L)) g a) ∧ getX (absG L N) a = getR g L N a := by
  by_cases hc : CycV L a
  · refine ⟨0, fun h => absurd hc h, ?_⟩
    rw [getX_cyc ((cycX_iff hf hnd N a).2 hc)]
    unfold getR
    rw [if_pos hc]
  · obtain ⟨g, hg⟩ := (cyc_ok_iff hf hnd a).1 hc
    refine ⟨g, fun _ => hg, ?_⟩
    have h0 : cycX (absG L N) a = false := by
      cases h : cycX (absG L N) a with
      | false => rfl
      | true => exact absurd ((cycX_iff hf hnd N a).1 h) hc
    obtain ⟨D, hD⟩ := sm_of (absG L N)
    have he := evalX_evalR hD g ((absG L N).rules.length + 1) ⟨absG L N, []⟩ a hg (fun p hp hb => by
      obtain ⟨r, hr, rfl⟩ := List.mem_map.1 hp
      have := hm.nb r hr
      simp only at hb
      rw [this] at hb; cases hb) (by have := nb_le (absG L N).rules; simp only; omega) hm.di
    unfold getR
    rw [if_neg hc]
    simp only at he
    rw [he]
    unfold getX
    unfold cycX at h0
    rw [h0]
    simp
end Go.Proofs.Ytbikldmhfaecpaa
