/-
  Layer 48 (graph), plain: an evaluation without memory makes what the program's makes.
-/
import Derived.Test.YtbikldmhfaecpaaGrRp
namespace Go.Proofs.Ytbikldmhfaecpaa
set_option linter.unusedVariables false
set_option linter.unusedSimpArgs false

/-- rules named n turned -/
def modS (S : GS) (n : Nm) (f : RuleS → RuleS) : GS := { S with rules := modR n f S.rules }
def KeepF (f : RuleS → RuleS) : Prop := ∀ r, (f r).name = r.name ∧ (f r).needs = r.needs ∧ (f r).f = r.f
theorem modS_rf {S : GS} {n : Nm} {f : RuleS → RuleS} (hf : KeepF f) (m : Nm) : rf (modS S n f).rules m = rf S.rules m := by
  unfold modS rf
  simp only
  rw [findR_modR _ _ _ _ (fun r => (hf r).1), Option.map_map]
  congr 1
  funext r
  simp only [Function.comp]
  split
  · rw [(hf r).2.1, (hf r).2.2]
  · rfl
theorem modR_comm {rs : List RuleS} {n m : Nm} {f g : RuleS → RuleS} (h : n ≠ m) (hf : ∀ r, (f r).name = r.name) (hg : ∀ r, (g r).name = r.name) : modR n f (modR m g rs) = modR m g (modR n f rs) := by
  unfold modR
  rw [List.map_map, List.map_map]
  apply List.map_congr_left
  intro r _
  simp only [Function.comp]
  by_cases h1 : r.name = n
  · have h2 : ¬ r.name = m := fun e => h (h1.symm.trans e)
    simp [h1, h, hf]
  · by_cases h2 : r.name = m
    · have h3 : ¬ m = n := fun e => h e.symm
      simp [h2, h3, hg]
    · simp [h1, h2]
theorem callX_rf (S : GS) (n : Nm) (inn : List Nm) (m : Nm) : rf (callX S n inn).1.rules m = rf S.rules m := by
  unfold callX
  split
  · rfl
  · split
    · rfl
    · exact modS_rf (S := S) (n := n) (f := fun r => { r with called := true, inn := inn, val := (applyV r.f inn).1, e := (applyV r.f inn).2 }) (fun r => ⟨rfl, rfl, rfl⟩) m
theorem needsR_rf {g : GS → Nm → GS × Res} (hg : ∀ S n m, rf (g S n).1.rules m = rf S.rules m) : ∀ (l : List Nm) (S : GS) (acc : List Nm) (m : Nm), rf (needsR g S acc l).1.rules m = rf S.rules m
  | [], S, acc, m => rfl
  | n :: l, S, acc, m => by
    unfold needsR
    split
    · rw [needsR_rf hg l, hg]
    · exact hg S n m
theorem finR_rf (P : GS × (Nat ⊕ List Nm)) (n m : Nm) : rf (finR P n).1.rules m = rf P.1.rules m := by
  unfold finR
  split
  · exact modS_rf (S := P.1) (n := n) (f := fun r => { r with stale := false }) (fun r => ⟨rfl, rfl, rfl⟩) m
  · rw [callX_rf]; exact modS_rf (S := P.1) (n := n) (f := fun r => { r with stale := false }) (fun r => ⟨rfl, rfl, rfl⟩) m
theorem evalR_rf : ∀ (g : Nat) (S : GS) (n m : Nm), rf (evalR g S n).1.rules m = rf S.rules m
  | 0, S, n, m => rfl
  | g + 1, S, n, m => by
    unfold evalR
    split
    · rfl
    · split
      · rfl
      · rw [finR_rf, needsR_rf (evalR_rf g)]
theorem needsR_congr {g h : GS → Nm → GS × Res} {R : RF} (hg : ∀ S n m, rf (g S n).1.rules m = rf S.rules m) : ∀ (l : List Nm) (S : GS) (acc : List Nm), (∀ m, rf S.rules m = R m) → (∀ S n, n ∈ l → (∀ m, rf S.rules m = R m) → g S n = h S n) → needsR g S acc l = needsR h S acc l
  | [], S, acc, _, _ => rfl
  | n :: l, S, acc, hS, e => by
    unfold needsR
    rw [← e S n List.mem_cons_self hS]
    split
    · exact needsR_congr hg l _ _ (fun m => (hg S n m).trans (hS m)) (fun S n hn => e S n (List.mem_cons_of_mem _ hn))
    · rfl
theorem evalR_up {R : RF} : ∀ (g : Nat) (S : GS) (n : Nm), (∀ m, rf S.rules m = R m) → OkD R g n → evalR (g + 1) S n = evalR g S n
  | 0, S, n, _, h => absurd h id
  | g + 1, S, n, hS, h => by
    rw [evalR, evalR]
    cases getV S.vals n with
    | some v => rfl
    | none =>
      cases hr : findR S.rules n with
      | none => rfl
      | some r =>
        simp only
        have hR := rf_some hS hr
        rw [needsR_congr (R := R) (h := evalR g) (evalR_rf (g + 1)) r.needs S [] hS (fun T m hm hT => evalR_up g T m hT (h _ _ hR m hm))]
/-- what is done to a rule that is not reached can be done before or after -/
theorem comm_needs {g : GS → Nm → GS × Res} {n : Nm} {f : RuleS → RuleS} {R : RF} (hg : ∀ S n m, rf (g S n).1.rules m = rf S.rules m) : ∀ (l : List Nm) (S : GS) (acc : List Nm), (∀ m, rf S.rules m = R m) →
    (∀ S m, m ∈ l → (∀ q, rf S.rules q = R q) → g (modS S n f) m = (modS (g S m).1 n f, (g S m).2)) → needsR g (modS S n f) acc l = (modS (needsR g S acc l).1 n f, (needsR g S acc l).2)
  | [], S, acc, _, _ => rfl
  | m :: l, S, acc, hS, e => by
    have e1 := e S m List.mem_cons_self hS
    unfold needsR
    rw [e1]
    simp only
    by_cases h0 : (g S m).2.2 = 0
    · rw [if_pos h0, if_pos h0]
      exact comm_needs hg l _ _ (fun q => (hg S m q).trans (hS q)) (fun S m hm => e S m (List.mem_cons_of_mem _ hm))
    · rw [if_neg h0, if_neg h0]
theorem freshX_comm {S : GS} {n m : Nm} {f : RuleS → RuleS} (h : n ≠ m) (hf : KeepF f) : freshX (modS S n f) m = modS (freshX S m) n f := by
  unfold freshX modS
  simp only
  rw [modR_comm (f := fun r : RuleS => { r with stale := false }) (g := f) (fun e => h e.symm) (fun _ => rfl) (fun r => (hf r).1)]
theorem callX_comm {S : GS} {n m : Nm} {f : RuleS → RuleS} {inn : List Nm} (h : n ≠ m) (hf : KeepF f) : callX (modS S n f) m inn = (modS (callX S m inn).1 n f, (callX S m inn).2) := by
  have hfind : findR (modS S n f).rules m = findR S.rules m := by
    unfold modS
    simp only
    rw [findR_modR _ _ _ _ (fun r => (hf r).1)]
    cases findR S.rules m with
    | none => rfl
    | some r => simp; exact fun e => absurd e.symm h
  unfold callX
  rw [hfind]
  cases findR S.rules m with
  | none => rfl
  | some r =>
    simp only
    split
    · rfl
    · unfold modS
      simp only
      rw [modR_comm (f := fun r : RuleS => { r with called := true, inn := inn, val := (applyV r.f inn).1, e := (applyV r.f inn).2 }) (g := f) (fun e => h e.symm) (fun _ => rfl) (fun r => (hf r).1)]
theorem evalR_comm {R : RF} {n : Nm} {f : RuleS → RuleS} (hf : KeepF f) : ∀ (g : Nat) (S : GS) (m : Nm), (∀ q, rf S.rules q = R q) → OkD R g m → ¬ OkD R g n → evalR g (modS S n f) m = (modS (evalR g S m).1 n f, (evalR g S m).2)
  | 0, S, m, _, h, _ => absurd h id
  | g + 1, S, m, hS, h, hn => by
    have hne : n ≠ m := fun e => hn (by rw [e]; exact h)
    rw [evalR, evalR]
    show (match getV S.vals m with | some v => _ | none => _) = _
    cases hv : getV S.vals m with
    | some v => rfl
    | none =>
      simp only
      have hfind : findR (modS S n f).rules m = findR S.rules m := by
        unfold modS
        simp only
        rw [findR_modR _ _ _ _ (fun r => (hf r).1)]
        cases findR S.rules m with
        | none => rfl
        | some r => simp; exact fun e => absurd e.symm hne
      rw [hfind]
      cases hr : findR S.rules m with
      | none => rfl
      | some r =>
        simp only
        have hR := rf_some hS hr
        rw [comm_needs (evalR_rf g) r.needs S [] hS (fun T q hq hT => evalR_comm hf g T q hT (h _ _ hR q hq) (fun h2 => hn h2.up))]
        unfold finR
        simp only
        cases (needsR (evalR g) S [] r.needs).2 with
        | inl e => simp only; rw [freshX_comm hne hf]
        | inr inn => simp only; rw [freshX_comm hne hf, callX_comm hne hf]
/-- what was evaluated is left as it is -/
theorem calm_needs {D : Nm → Res} {Q : Nm → Prop} {g : GS → Nm → GS × Res} {S : GS} : ∀ (l acc : List Nm), pre D Q l → (∀ m ∈ l, Q m → g S m = (S, D m)) → needsR g S acc l = (S, needsP D acc l)
  | [], acc, _, _ => rfl
  | m :: l, acc, ⟨h1, h2⟩, e => by
    unfold needsR needsP
    rw [e m List.mem_cons_self h1]
    simp only
    by_cases h0 : (D m).2 = 0
    · rw [if_pos h0, if_pos h0]
      exact calm_needs l _ (h2 h0) (fun q hq => e q (List.mem_cons_of_mem _ hq))
    · rw [if_neg h0, if_neg h0]
theorem calm_noop {V : VF} {R : RF} {D : Nm → Res} (hD : Sm V R D) {E : ES} (hE : DI V R D E) : ∀ (g : Nat) (n : Nm), OkD R g n → QE V R E n → evalR g E.s n = (E.s, D n)
  | 0, n, h, _ => absurd h id
  | g + 1, n, h, hq => by
    rw [evalR]
    cases hv : getV E.s.vals n with
    | some v =>
      have hV : V n = some v := by rw [← hE.v n]; exact hv
      simp only
      rw [hD.val n v hV]
    | none =>
      have hV : V n = none := by rw [← hE.v n]; exact hv
      cases hr : findR E.s.rules n with
      | none =>
        have hR : R n = none := by rw [← hE.r n]; unfold rf; rw [hr]; rfl
        simp only
        rw [hD.non n hV hR]
      | some r =>
        have hR := rf_some hE.r hr
        rcases hq with hq | hq | hq
        · exact absurd hV hq
        · rw [hq] at hR; cases hR
        · obtain ⟨p, hp, rfl⟩ := List.mem_map.1 hq
          obtain ⟨_, r', k1, k2, k3, k4⟩ := hE.k p hp
          rw [hr] at k1; injection k1 with k1; subst k1
          simp only
          rw [calm_needs (D := D) (Q := QE V R E) r.needs [] k2 (fun m hm hq => calm_noop hD hE g m (h _ _ hR m hm) hq)]
          have hDn := hD.rule (g + 1) p.1 _ _ h hV hR
          have hfx : freshX E.s p.1 = E.s := by
            unfold freshX
            rw [modR_id _ _ _ (fun q hq hn => by
              have := findR_of hE.nm hq
              rw [hn, hr] at this
              injection this with this
              rw [← this]
              cases r; simp_all)]
          unfold finR
          cases hres : needsP D [] r.needs with
          | inl e => simp only; rw [hfx, hDn, hres]; rfl
          | inr inn =>
            simp only
            obtain ⟨f1, f2⟩ := k3 inn hres
            rw [hfx]
            unfold callX
            rw [hr]
            simp only
            rw [if_pos ⟨f1, f2.symm⟩, hE.w p.1 r hr f1, f2, hDn, hres]
            rfl
end Go.Proofs.Ytbikldmhfaecpaa
