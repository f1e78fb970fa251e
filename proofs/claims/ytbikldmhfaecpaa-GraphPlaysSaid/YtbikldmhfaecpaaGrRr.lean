/-
  Layer 48 (graph), plain: Get on both sides.
-/
import Derived.Test.YtbikldmhfaecpaaGrRq
namespace Go.Proofs.Ytbikldmhfaecpaa
set_option linter.unusedVariables false
set_option linter.unusedSimpArgs false

theorem callX_bl (S : GS) (n : Nm) (inn : List Nm) : bl (callX S n inn).1.rules = bl S.rules := by
  unfold callX
  split
  · rfl
  · split
    · rfl
    · exact bl_same _ _ (fun r => { r with called := true, inn := inn, val := (applyV r.f inn).1, e := (applyV r.f inn).2 }) (fun r => ⟨rfl, rfl⟩)
theorem needsR_bl {g : GS → Nm → GS × Res} (hg : ∀ S n, bl (g S n).1.rules = bl S.rules) : ∀ (l : List Nm) (S : GS) (acc : List Nm), bl (needsR g S acc l).1.rules = bl S.rules
  | [], S, acc => rfl
  | n :: l, S, acc => by
    unfold needsR
    split
    · rw [needsR_bl hg l, hg]
    · exact hg S n
theorem finR_bl (P : GS × (Nat ⊕ List Nm)) (n : Nm) : bl (finR P n).1.rules = bl P.1.rules := by
  have h : bl (freshX P.1 n).rules = bl P.1.rules := bl_same _ _ (fun r => { r with stale := false }) (fun r => ⟨rfl, rfl⟩)
  unfold finR
  split
  · exact h
  · rw [callX_bl]; exact h
theorem evalR_bl : ∀ (g : Nat) (S : GS) (n : Nm), bl (evalR g S n).1.rules = bl S.rules
  | 0, S, n => rfl
  | g + 1, S, n => by
    unfold evalR
    split
    · rfl
    · split
      · rfl
      · rw [finR_bl, needsR_bl (evalR_bl g)]
theorem needs_match {V : VF} {R : RF} {D : Nm → Res} {g : GS → Nm → GS × Res} {h : ES → Nm → ES × Res} (I : ES → Prop) : ∀ (l : List Nm) (E : ES) (acc : List Nm), I E → DI V R D E →
    (∀ E m, m ∈ l → I E → DI V R D E → g E.s m = ((h E m).1.s, (h E m).2) ∧ I (h E m).1 ∧ DI V R D (h E m).1) → needsR g E.s acc l = ((needsX h E acc l).1.s, (needsX h E acc l).2)
  | [], E, acc, _, _, _ => rfl
  | m :: l, E, acc, hI, hE, e => by
    obtain ⟨e1, e2, e3⟩ := e E m List.mem_cons_self hI hE
    unfold needsR needsX
    rw [e1]
    simp only
    by_cases h0 : (h E m).2.2 = 0
    · rw [if_pos h0, if_pos h0]
      exact needs_match I l _ _ e2 e3 (fun E' q hq => e E' q (List.mem_cons_of_mem _ hq))
    · rw [if_neg h0, if_neg h0]
/-- the program's evaluation makes what the one without memory makes -/
theorem evalX_evalR {V : VF} {R : RF} {D : Nm → Res} (hD : Sm V R D) : ∀ (g f : Nat) (E : ES) (n : Nm), OkD R g n → (∀ p ∈ bl E.s.rules, p.2 = true → ¬ OkD R g p.1) → nb E.s.rules < f → DI V R D E → evalR g E.s n = ((evalX f E n).1.s, (evalX f E n).2) := by
  intro g
  induction g with
  | zero => intro f E n h; exact absurd h id
  | succ g ih =>
    intro f E n hok hbz hf hE
    by_cases hg : OkD R g n
    · rw [evalR_up g E.s n hE.r hg]
      exact ih f E n hg (fun p hp hb h => hbz p hp hb h.up) hf hE
    · cases f with
      | zero => omega
      | succ f =>
        cases hk : lookK n E.known with
        | some a =>
          have hm := lookK_mem hk
          have hq : QE V R E n := .inr (.inr (List.mem_map_of_mem (f := (·.1)) hm))
          rw [calm_noop hD hE (g + 1) n hok hq]
          unfold evalX
          cases hv : getV E.s.vals n with
          | some v => simp only; rw [hD.val n v (by rw [← hE.v n]; exact hv)]
          | none =>
            cases hr : findR E.s.rules n with
            | none => simp only; rw [hD.non n (by rw [← hE.v n]; exact hv) (by rw [← hE.r n]; unfold rf; rw [hr]; rfl)]
            | some r =>
              have hka : a = D n := (hE.k _ hm).1
              simp only [hk]; rw [hka]
        | none =>
          rw [evalR]
          unfold evalX
          cases hv : getV E.s.vals n with
          | some v => rfl
          | none =>
            cases hr : findR E.s.rules n with
            | none => rfl
            | some r =>
              have hR := rf_some hE.r hr
              have hb : r.busy = false := by
                cases hb : r.busy with
                | false => rfl
                | true => exact absurd hok (hbz _ (bl_mem hr) hb)
              simp only [hk, hb, Bool.false_eq_true, if_false]
              obtain ⟨i1, i2⟩ := hE.mod n (fun r => { r with busy := true, stale := false }) (begunX E.s n) rfl rfl (fun r => ⟨rfl, rfl, rfl⟩) (fun q hq => ⟨fun hc => hE.w n q hq hc, id, fun _ => rfl⟩) (Nat.le_refl _)
              have hbl1 : bl (begunX E.s n).rules = (bl E.s.rules).map fun p => if p.1 = n then (p.1, true) else p := bl_modR _ _ _ _ (fun r => ⟨rfl, rfl⟩)
              have hnb1 : nb (begunX E.s n).rules + 1 ≤ nb E.s.rules := nb_begun hr hb (fun r => { r with busy := true, stale := false }) (fun _ => rfl)
              have hbz1 : ∀ p ∈ bl (begunX E.s n).rules, p.2 = true → ¬ OkD R g p.1 := fun p hp hb h => by
                rw [hbl1] at hp
                obtain ⟨q, hq, rfl⟩ := List.mem_map.1 hp
                split at h
                · rename_i e; rw [e] at h; exact hg h
                · rename_i e; rw [if_neg e] at hb; exact hbz q hq hb h.up
              have hm := needs_match (V := V) (R := R) (D := D) (g := evalR g) (h := evalX f) (fun E' => bl E'.s.rules = bl (begunX E.s n).rules) r.needs { E with s := begunX E.s n } [] rfl i1 (fun E' m hm hI hE' => by
                have hb' : ∀ p ∈ bl E'.s.rules, p.2 = true → ¬ OkD R g p.1 := by rw [hI]; exact hbz1
                have hn' : nb E'.s.rules < f := by rw [nb_bl hI]; omega
                have hd := evalX_den hD g f E' m (hok _ _ hR m hm) hb' hn' hE'
                exact ⟨ih f E' m (hok _ _ hR m hm) hb' hn' hE', hd.2.2.2.1.trans hI, hd.2.1⟩)
              have hF1 : KeepF (fun r => { r with busy := true, stale := false }) := fun r => ⟨rfl, rfl, rfl⟩
              have hc := comm_needs (n := n) (f := fun r => { r with busy := true, stale := false }) (evalR_rf g) r.needs E.s [] hE.r (fun S m hm hS => evalR_comm hF1 g S m hS (hok _ _ hR m hm) hg)
              have hmod : begunX E.s n = modS E.s n (fun r => { r with busy := true, stale := false }) := rfl
              simp only at hm
              rw [hmod] at hm
              rw [hc] at hm
              unfold applyX
              rw [hmod]
              generalize needsX (evalX f) { E with s := modS E.s n (fun r => { r with busy := true, stale := false }) } [] r.needs = X at *
              have hbl2 := needsR_bl (evalR_bl g) r.needs E.s []
              have hrf2 := needsR_rf (evalR_rf g) r.needs E.s [] n
              generalize needsR (evalR g) E.s [] r.needs = Y at *
              obtain ⟨E2, res⟩ := X
              obtain ⟨S2, res'⟩ := Y
              simp only [Prod.mk.injEq] at hm
              obtain ⟨hs, rfl⟩ := hm
              simp only at hbl2 hrf2
              have hnb : ∀ q ∈ S2.rules, q.name = n → q.busy = false := fun q hq hqn => by
                have h1 : (q.name, q.busy) ∈ bl S2.rules := List.mem_map_of_mem (f := fun r : RuleS => (r.name, r.busy)) hq
                rw [hbl2] at h1
                obtain ⟨q0, hq0, e⟩ := List.mem_map.1 h1
                simp only [Prod.mk.injEq] at e
                have := findR_of hE.nm hq0
                rw [e.1, hqn, hr] at this
                injection this with this
                rw [← e.2, ← this]; exact hb
              have hend : endedX (modS S2 n (fun r => { r with busy := true, stale := false })) n = freshX S2 n := by
                unfold endedX modS freshX
                simp only
                rw [modR_modR _ _ (fun r : RuleS => { r with busy := true, stale := false }) (fun r : RuleS => { r with busy := false }) (fun _ => rfl)]
                congr 1
                unfold modR
                apply List.map_congr_left
                intro q hq
                by_cases hqn : q.name = n
                · rw [if_pos hqn, if_pos hqn]; simp only [hnb q hq hqn]
                · rw [if_neg hqn, if_neg hqn]
              unfold finR
              cases res' with
              | inl e => simp only; rw [← hs, hend]
              | inr inn =>
                simp only
                rw [← hs]
                obtain ⟨r2, hr2⟩ : ∃ r2, findR S2.rules n = some r2 := by
                  unfold rf at hrf2
                  rw [hr] at hrf2
                  cases h : findR S2.rules n with
                  | none => rw [h] at hrf2; cases hrf2
                  | some r2 => exact ⟨r2, rfl⟩
                have hf1 : findR (modS S2 n (fun r => { r with busy := true, stale := false })).rules n = some { r2 with busy := true, stale := false } := by
                  unfold modS; simp only
                  rw [findR_modR _ _ _ (fun r : RuleS => { r with busy := true, stale := false }) (fun _ => rfl), hr2]; simp
                have hf2 : findR (freshX S2 n).rules n = some { r2 with stale := false } := by
                  unfold freshX; simp only
                  rw [findR_modR _ _ _ (fun r : RuleS => { r with stale := false }) (fun _ => rfl), hr2]; simp
                unfold callX
                rw [hf1, hf2]
                simp only
                by_cases hc : r2.called = true ∧ inn = r2.inn
                · rw [if_pos hc, if_pos hc]; simp only; rw [hend]
                · rw [if_neg hc, if_neg hc]
                  simp only
                  congr 1
                  unfold endedX modS freshX
                  simp only
                  rw [modR_modR _ _ (fun r : RuleS => { r with busy := true, stale := false }) (fun r : RuleS => { r with called := true, inn := inn, val := (applyV r.f inn).1, e := (applyV r.f inn).2 }) (fun _ => rfl),
                    modR_modR _ _ (fun r : RuleS => { r with stale := false }) (fun r : RuleS => { r with called := true, inn := inn, val := (applyV r.f inn).1, e := (applyV r.f inn).2 }) (fun _ => rfl),
                    modR_modR _ _ (fun r : RuleS => { r with busy := true, stale := false, called := true, inn := inn, val := (applyV r.f inn).1, e := (applyV r.f inn).2 }) (fun r : RuleS => { r with busy := false }) (fun _ => rfl)]
                  congr 1
                  unfold modR
                  apply List.map_congr_left
                  intro q hq
                  by_cases hqn : q.name = n
                  · rw [if_pos hqn, if_pos hqn]; simp only [hnb q hq hqn]
                  · rw [if_neg hqn, if_neg hqn]
end Go.Proofs.Ytbikldmhfaecpaa
