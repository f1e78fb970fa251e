/-
  Layer 48 (graph), plain: what a name is worth; an evaluation finds it, and leaves what need not be called again.
-/
import Derived.Test.YtbikldmhfaecpaaGrQ
namespace Go.Proofs.Ytbikldmhfaecpaa
set_option linter.unusedVariables false
set_option linter.unusedSimpArgs false

abbrev VF := Nm → Option Nm
abbrev RF := Nm → Option (List Nm × Nat)
def rf (rs : List RuleS) : RF := fun n => (findR rs n).map fun r => (r.needs, r.f)
def needsP (g : Nm → Res) : List Nm → List Nm → Nat ⊕ List Nm
  | acc, [] => .inr acc
  | acc, n :: r => if (g n).2 = 0 then needsP g (acc ++ [(g n).1]) r else .inl (g n).2
def ansP (f : Nat) : Nat ⊕ List Nm → Res
  | .inl e => ([], e)
  | .inr inn => applyV f inn
/-- a name leads to no cycle within so many steps -/
def OkD (R : RF) : Nat → Nm → Prop
  | 0, _ => False
  | g + 1, n => ∀ l f, R n = some (l, f) → ∀ m ∈ l, OkD R g m
theorem OkD.up {R : RF} : ∀ {g : Nat} {n : Nm}, OkD R g n → OkD R (g + 1) n
  | 0, n, h => absurd h id
  | g + 1, n, h => fun l f hr m hm => OkD.up (h l f hr m hm)
theorem OkD.le {R : RF} {g h : Nat} {n : Nm} (k : OkD R g n) (hl : g ≤ h) : OkD R h n := by
  induction hl with
  | refl => exact k
  | step _ ih => exact ih.up
/-- what names are worth -/
structure Sm (V : VF) (R : RF) (D : Nm → Res) : Prop where
  val : ∀ n v, V n = some v → D n = (v, 0)
  non : ∀ n, V n = none → R n = none → D n = ([], 13)
  rule : ∀ g n l f, OkD R g n → V n = none → R n = some (l, f) → D n = ansP f (needsP D [] l)
def den (V : VF) (R : RF) : Nat → Nm → Res
  | 0, _ => ([], 10)
  | g + 1, n => match V n with
    | some v => (v, 0)
    | none => match R n with
      | none => ([], 13)
      | some (l, f) => ansP f (needsP (den V R g) [] l)
theorem needsP_congr {g h : Nm → Res} : ∀ (l acc : List Nm), (∀ m ∈ l, g m = h m) → needsP g acc l = needsP h acc l
  | [], acc, _ => rfl
  | n :: l, acc, e => by
    unfold needsP
    rw [e n List.mem_cons_self, needsP_congr l _ (fun m hm => e m (List.mem_cons_of_mem _ hm))]
theorem den_up {V : VF} {R : RF} : ∀ {g : Nat} {n : Nm}, OkD R g n → den V R (g + 1) n = den V R g n
  | 0, n, h => absurd h id
  | g + 1, n, h => by
    rw [den, den]
    cases V n with
    | some v => rfl
    | none =>
      cases hr : R n with
      | none => rfl
      | some p =>
        obtain ⟨l, f⟩ := p
        simp only
        rw [needsP_congr l [] (fun m hm => den_up (h l f hr m hm))]
theorem den_le {V : VF} {R : RF} {g h : Nat} {n : Nm} (k : OkD R g n) (hl : g ≤ h) : den V R h n = den V R g n := by
  induction hl with
  | refl => rfl
  | step hl ih => rw [den_up (k.le hl), ih]
theorem bound_ok (R : RF) : ∀ N : List Nm, ∃ F, ∀ n ∈ N, (∃ g, OkD R g n) → OkD R F n
  | [] => ⟨0, fun n h => absurd h (by simp)⟩
  | a :: N => by
    obtain ⟨F, hF⟩ := bound_ok R N
    by_cases ha : ∃ g, OkD R g a
    · obtain ⟨g, hg⟩ := ha
      refine ⟨max F g, fun n hn h => ?_⟩
      rcases List.mem_cons.1 hn with rfl | hn
      · exact hg.le (Nat.le_max_right _ _)
      · exact (hF n hn h).le (Nat.le_max_left _ _)
    · refine ⟨F, fun n hn h => ?_⟩
      rcases List.mem_cons.1 hn with rfl | hn
      · exact absurd h ha
      · exact hF n hn h
/-- there is what names are worth -/
theorem sm_exists (V : VF) (R : RF) (N : List Nm) (hN : ∀ n, R n ≠ none → n ∈ N) : ∃ D, Sm V R D := by
  obtain ⟨F, hF⟩ := bound_ok R N
  have hF1 : ∀ n, (∃ g, OkD R g n) → OkD R (F + 1) n := fun n h => by
    by_cases hn : R n = none
    · intro l f hr; rw [hn] at hr; cases hr
    · exact (hF n (hN n hn) h).up
  refine ⟨den V R (F + 1), fun n v hv => ?_, fun n hv hr => ?_, fun g n l f hg hv hr => ?_⟩
  · rw [den, hv]
  · rw [den, hv, hr]
  · rw [den, hv, hr]
    simp only
    rw [needsP_congr l [] (fun m hm => ?_)]
    have h1 := hF1 n ⟨g, hg⟩ l f hr m hm
    exact (den_up h1).symm
/-- what a name's first needs are in, as long as they are no errors -/
def pre (D : Nm → Res) (Q : Nm → Prop) : List Nm → Prop
  | [] => True
  | m :: l => Q m ∧ ((D m).2 = 0 → pre D Q l)
theorem pre.mono {D : Nm → Res} {Q Q' : Nm → Prop} (h : ∀ m, Q m → Q' m) : ∀ {l : List Nm}, pre D Q l → pre D Q' l
  | [], _ => trivial
  | m :: l, ⟨h1, h2⟩ => ⟨h m h1, fun e => (h2 e).mono h⟩
/-- a rule that need not be called -/
def freshN (D : Nm → Res) (r : RuleS) : Prop := ∀ inn, needsP D [] r.needs = .inr inn → r.called = true ∧ r.inn = inn
/-- names that are evaluated without a call -/
def Clo (V : VF) (D : Nm → Res) (Q : Nm → Prop) (S : GS) : Prop := ∀ m r, Q m → V m = none → findR S.rules m = some r → pre D Q r.needs ∧ freshN D r
def QE (V : VF) (R : RF) (E : ES) (m : Nm) : Prop := V m ≠ none ∨ R m = none ∨ m ∈ E.known.map (·.1)
structure DI (V : VF) (R : RF) (D : Nm → Res) (E : ES) : Prop where
  v : ∀ m, getV E.s.vals m = V m
  r : ∀ m, rf E.s.rules m = R m
  nm : (E.s.rules.map (·.name)).Nodup
  w : ∀ m r, findR E.s.rules m = some r → r.called = true → (r.val, r.e) = applyV r.f r.inn
  k : ∀ p ∈ E.known, p.2 = D p.1 ∧ ∃ r, findR E.s.rules p.1 = some r ∧ pre D (QE V R E) r.needs ∧ freshN D r ∧ r.stale = false
structure LE (D : Nm → Res) (E E' : ES) : Prop where
  kn : ∀ m ∈ E.known.map (·.1), m ∈ E'.known.map (·.1)
  rl : ∀ m r, findR E.s.rules m = some r → ∃ r', findR E'.s.rules m = some r' ∧ r'.needs = r.needs ∧ r'.f = r.f ∧ (freshN D r → freshN D r') ∧ (r.stale = false → r'.stale = false)
  runs : E.s.runs ≤ E'.s.runs
theorem LE.refl (D : Nm → Res) (E : ES) : LE D E E := ⟨fun _ h => h, fun m r h => ⟨r, h, rfl, rfl, id, id⟩, Nat.le_refl _⟩
theorem LE.trans {D : Nm → Res} {E E' E'' : ES} (h : LE D E E') (k : LE D E' E'') : LE D E E'' :=
  ⟨fun m hm => k.kn m (h.kn m hm), fun m r hr => by
    obtain ⟨r', a1, a2, a3, a4, a5⟩ := h.rl m r hr
    obtain ⟨r'', b1, b2, b3, b4, b5⟩ := k.rl m r' a1
    exact ⟨r'', b1, b2.trans a2, b3.trans a3, fun x => b4 (a4 x), fun x => b5 (a5 x)⟩, Nat.le_trans h.runs k.runs⟩
theorem LE.q {V : VF} {R : RF} {D : Nm → Res} {E E' : ES} (h : LE D E E') {m : Nm} (q : QE V R E m) : QE V R E' m := by
  rcases q with q | q | q
  · exact .inl q
  · exact .inr (.inl q)
  · exact .inr (.inr (h.kn m q))
theorem LE.clo {V : VF} {R : RF} {D : Nm → Res} {E E' : ES} {Q : Nm → Prop} (h : LE D E E') (hE : DI V R D E) (hE' : DI V R D E') (c : Clo V D Q E.s) : Clo V D Q E'.s := by
  intro m r' hq hv hr'
  have e := hE'.r m
  rw [← hE.r m] at e
  unfold rf at e
  rw [hr'] at e
  cases hf : findR E.s.rules m with
  | none => rw [hf] at e; cases e
  | some r =>
    obtain ⟨r2, a1, a2, a3, a4, a5⟩ := h.rl m r hf
    rw [hr'] at a1
    injection a1 with a1; subst a1
    obtain ⟨c1, c2⟩ := c m r hq hv hf
    exact ⟨by rw [a2]; exact c1, a4 c2⟩
def bl (rs : List RuleS) : List (Nm × Bool) := rs.map fun r => (r.name, r.busy)
theorem nb_bl {rs rs' : List RuleS} (h : bl rs = bl rs') : nb rs = nb rs' := by
  have e : ∀ rs, nb rs = ((bl rs).filter fun p => !p.2).length := fun rs => by
    unfold nb bl; rw [List.filter_map, List.length_map]; rfl
  rw [e, e, h]
theorem bl_modR (rs : List RuleS) (n : Nm) (g : RuleS → RuleS) (b : Bool) (hg : ∀ r, (g r).name = r.name ∧ (g r).busy = b) : bl (modR n g rs) = (bl rs).map fun p => if p.1 = n then (p.1, b) else p := by
  unfold bl modR
  rw [List.map_map, List.map_map]
  apply List.map_congr_left
  intro r _
  simp only [Function.comp]
  by_cases h : r.name = n
  · rw [if_pos h, if_pos h, (hg r).1, (hg r).2]
  · rw [if_neg h, if_neg h]
theorem bl_same (rs : List RuleS) (n : Nm) (g : RuleS → RuleS) (hg : ∀ r, (g r).name = r.name ∧ (g r).busy = r.busy) : bl (modR n g rs) = bl rs := by
  unfold bl modR
  rw [List.map_map]
  apply List.map_congr_left
  intro r _
  simp only [Function.comp]
  split
  · rw [(hg r).1, (hg r).2]
  · rfl
/-- what the needs of a rule leave -/
theorem needs_den {V : VF} {R : RF} {D : Nm → Res} (g : ES → Nm → ES × Res) (I : ES → Prop) :
    ∀ (l : List Nm) (E : ES) (acc : List Nm),
      (∀ E n, n ∈ l → I E → DI V R D E → (g E n).2 = D n ∧ DI V R D (g E n).1 ∧ LE D E (g E n).1 ∧ I (g E n).1 ∧ QE V R (g E n).1 n ∧ ∀ Q, Clo V D Q E.s → Q n → (g E n).1.s.runs = E.s.runs) →
      I E → DI V R D E →
      (needsX g E acc l).2 = needsP D acc l ∧ DI V R D (needsX g E acc l).1 ∧ LE D E (needsX g E acc l).1 ∧ I (needsX g E acc l).1 ∧ pre D (QE V R (needsX g E acc l).1) l ∧ ∀ Q, Clo V D Q E.s → pre D Q l → (needsX g E acc l).1.s.runs = E.s.runs := by
  intro l
  induction l with
  | nil => intro E acc hg hI hE; exact ⟨rfl, hE, LE.refl D E, hI, trivial, fun _ _ _ => rfl⟩
  | cons n l ih =>
    intro E acc hg hI hE
    obtain ⟨a1, a2, a3, a4, a5, a6⟩ := hg E n List.mem_cons_self hI hE
    unfold needsX needsP
    rw [a1]
    by_cases h0 : (D n).2 = 0
    · rw [if_pos h0, if_pos h0]
      obtain ⟨b1, b2, b3, b4, b5, b6⟩ := ih (g E n).1 (acc ++ [(D n).1]) (fun E' m hm => hg E' m (List.mem_cons_of_mem _ hm)) a4 a2
      exact ⟨b1, b2, a3.trans b3, b4, ⟨b3.q a5, fun _ => b5⟩, fun Q c p => by rw [b6 Q (a3.clo hE a2 c) (p.2 h0)]; exact a6 Q c p.1⟩
    · rw [if_neg h0, if_neg h0]
      exact ⟨rfl, a2, a3, a4, ⟨a5, fun e => absurd e h0⟩, fun Q c p => a6 Q c p.1⟩
/-- a change of rules that keeps what is known -/
theorem DI.mod {V : VF} {R : RF} {D : Nm → Res} {E : ES} (h : DI V R D E) (n : Nm) (g : RuleS → RuleS) (s : GS) (hv : s.vals = E.s.vals) (hs : s.rules = modR n g E.s.rules)
    (hg : ∀ r, (g r).name = r.name ∧ (g r).needs = r.needs ∧ (g r).f = r.f)
    (hr : ∀ r, findR E.s.rules n = some r → ((g r).called = true → ((g r).val, (g r).e) = applyV r.f (g r).inn) ∧ (freshN D r → freshN D (g r)) ∧ (r.stale = false → (g r).stale = false)) (hru : E.s.runs ≤ s.runs) :
    DI V R D { E with s := s } ∧ LE D E { E with s := s } := by
  have hf : ∀ m, findR s.rules m = (findR E.s.rules m).map fun r => if m = n then g r else r := fun m => by rw [hs]; exact findR_modR _ _ _ _ (fun r => (hg r).1)
  have hle : LE D E { E with s := s } := ⟨fun m hm => hm, fun m r hm => by
    refine ⟨_, by rw [hf, hm]; rfl, ?_⟩
    simp only
    split
    · rename_i e
      subst e
      exact ⟨(hg r).2.1, (hg r).2.2, (hr r hm).2.1, (hr r hm).2.2⟩
    · exact ⟨rfl, rfl, id, id⟩, hru⟩
  refine ⟨⟨fun m => by rw [← h.v m]; show getV s.vals m = _; rw [hv], fun m => ?_, ?_, fun m r hm hc => ?_, fun p hp => ?_⟩, hle⟩
  · rw [← h.r m]
    unfold rf
    show (findR s.rules m).map _ = _
    rw [hf, Option.map_map]
    congr 1
    funext r
    simp only [Function.comp]
    split
    · rw [(hg r).2.1, (hg r).2.2]
    · rfl
  · show (s.rules.map (·.name)).Nodup
    rw [hs, modR_names _ _ _ (fun r => (hg r).1)]; exact h.nm
  · have hm : findR s.rules m = some r := hm
    rw [hf] at hm
    cases hq : findR E.s.rules m with
    | none => rw [hq] at hm; cases hm
    | some q =>
      rw [hq] at hm
      simp only [Option.map_some, Option.some.injEq] at hm
      subst hm
      split at hc
      · rename_i e
        subst e
        rw [if_pos rfl, (hg q).2.2]
        exact (hr q hq).1 hc
      · rename_i e
        rw [if_neg e]
        exact h.w m q hq hc
  · obtain ⟨k1, r, k2, k3, k4, k5⟩ := h.k p hp
    obtain ⟨r', a1, a2, a3, a4, a5⟩ := hle.rl p.1 r k2
    exact ⟨k1, r', a1, by rw [a2]; exact k3, a4 k4, a5 k5⟩
theorem rf_some {R : RF} {rs : List RuleS} {n : Nm} {r : RuleS} (h : ∀ m, rf rs m = R m) (hr : findR rs n = some r) : R n = some (r.needs, r.f) := by
  rw [← h n]; unfold rf; rw [hr]; rfl
theorem bl_mem {rs : List RuleS} {n : Nm} {r : RuleS} (hr : findR rs n = some r) : (n, r.busy) ∈ bl rs := by
  have h := findR_mem hr
  have := List.mem_map_of_mem (f := fun r : RuleS => (r.name, r.busy)) h.1
  rwa [h.2] at this
/-- an evaluation finds what a name is worth -/
theorem evalX_den {V : VF} {R : RF} {D : Nm → Res} (hD : Sm V R D) : ∀ (g f : Nat) (E : ES) (n : Nm), OkD R g n → (∀ p ∈ bl E.s.rules, p.2 = true → ¬ OkD R g p.1) → nb E.s.rules < f → DI V R D E →
    (evalX f E n).2 = D n ∧ DI V R D (evalX f E n).1 ∧ LE D E (evalX f E n).1 ∧ bl (evalX f E n).1.s.rules = bl E.s.rules ∧ QE V R (evalX f E n).1 n ∧ ∀ Q, Clo V D Q E.s → Q n → (evalX f E n).1.s.runs = E.s.runs := by
  intro g
  induction g with
  | zero => intro f E n h; exact absurd h id
  | succ g ih =>
    intro f E n hok hbz hf hE
    by_cases hg : OkD R g n
    · exact ih f E n hg (fun p hp hb h => hbz p hp hb h.up) hf hE
    · cases f with
      | zero => omega
      | succ f =>
        unfold evalX
        cases hv : getV E.s.vals n with
        | some v =>
          have hV : V n = some v := by rw [← hE.v n]; exact hv
          exact ⟨(hD.val n v hV).symm, hE, LE.refl D E, rfl, .inl (by rw [hV]; simp), fun _ _ _ => rfl⟩
        | none =>
          have hV : V n = none := by rw [← hE.v n]; exact hv
          cases hr : findR E.s.rules n with
          | none =>
            have hR : R n = none := by rw [← hE.r n]; unfold rf; rw [hr]; rfl
            exact ⟨(hD.non n hV hR).symm, hE, LE.refl D E, rfl, .inr (.inl hR), fun _ _ _ => rfl⟩
          | some r =>
            have hR := rf_some hE.r hr
            cases hk : lookK n E.known with
            | some a =>
              have hm := lookK_mem hk
              exact ⟨(hE.k _ hm).1, hE, LE.refl D E, rfl, .inr (.inr (List.mem_map_of_mem (f := (·.1)) hm)), fun _ _ _ => rfl⟩
            | none =>
              have hb : r.busy = false := by
                cases hb : r.busy with
                | false => rfl
                | true => exact absurd hok (hbz _ (bl_mem hr) hb)
              simp only [hb, Bool.false_eq_true, if_false]
              obtain ⟨i1, i2⟩ := hE.mod n (fun r => { r with busy := true, stale := false }) (begunX E.s n) rfl rfl (fun r => ⟨rfl, rfl, rfl⟩) (fun q hq => ⟨fun hc => hE.w n q hq hc, id, fun _ => rfl⟩) (Nat.le_refl _)
              have hbl1 : bl (begunX E.s n).rules = (bl E.s.rules).map fun p => if p.1 = n then (p.1, true) else p := bl_modR _ _ _ _ (fun r => ⟨rfl, rfl⟩)
              have hfr1 : findR (begunX E.s n).rules n = some { r with busy := true, stale := false } := by
                simp only [begunX]; rw [findR_beg, hr]; simp
              have hnb1 : nb (begunX E.s n).rules + 1 ≤ nb E.s.rules := nb_begun hr hb (fun r => { r with busy := true, stale := false }) (fun _ => rfl)
              generalize hS1 : begunX E.s n = S1 at *
              have hbz1 : ∀ p ∈ bl S1.rules, p.2 = true → ¬ OkD R g p.1 := fun p hp hb h => by
                rw [hbl1] at hp
                obtain ⟨q, hq, rfl⟩ := List.mem_map.1 hp
                split at h
                · rename_i e; rw [e] at h; exact hg h
                · rename_i e; rw [if_neg e] at hb; exact hbz q hq hb h.up
              have N := needs_den (V := V) (R := R) (D := D) (evalX f) (fun E' => bl E'.s.rules = bl S1.rules) r.needs { E with s := S1 } [] (fun E' m hm hI hE' => by
                obtain ⟨a1, a2, a3, a4, a5, a6⟩ := ih f E' m (hok _ _ hR m hm) (by rw [hI]; exact hbz1) (by rw [nb_bl hI]; omega) hE'
                exact ⟨a1, a2, a3, a4.trans hI, a5, a6⟩) rfl i1
              have hDn := hD.rule (g + 1) n _ _ hok hV hR
              unfold applyX
              generalize needsX (evalX f) { E with s := S1 } [] r.needs = X at *
              obtain ⟨E2, res⟩ := X
              obtain ⟨n1, n2, n3, n4, n5, n6⟩ := N
              simp only at n1 n2 n3 n4 n5 n6
              subst n1
              obtain ⟨r2, f1, f2, f3, f4, f5⟩ := n3.rl n _ hfr1
              simp only at f2 f3 f4 f5
              -- the end: what apply returns, by its state
              have fin : ∀ (S3 : GS) (ans : Res), DI V R D { E2 with s := S3 } → LE D E2 { E2 with s := S3 } → bl S3.rules = bl E2.s.rules → (∃ r3, findR S3.rules n = some r3 ∧ freshN D r3 ∧ r3.needs = r.needs ∧ r3.stale = false) → ans = D n →
                  (∀ Q, Clo V D Q E2.s → Q n → S3.runs = E2.s.runs) →
                  ans = D n ∧ DI V R D { s := endedX S3 n, known := E2.known ++ [(n, ans)] } ∧ LE D E { s := endedX S3 n, known := E2.known ++ [(n, ans)] } ∧ bl (endedX S3 n).rules = bl E.s.rules ∧ QE V R { s := endedX S3 n, known := E2.known ++ [(n, ans)] } n ∧ ∀ Q, Clo V D Q E.s → Q n → (endedX S3 n).runs = E.s.runs := by
                intro S3 ans d3 l3 b3 hr3 ha hq3
                obtain ⟨r3, g1, g2, g3, g4⟩ := hr3
                obtain ⟨j1, j2⟩ := d3.mod n (fun r => { r with busy := false }) (endedX S3 n) rfl rfl (fun r => ⟨rfl, rfl, rfl⟩) (fun q hq => ⟨fun hc => d3.w n q hq hc, id, id⟩) (Nat.le_refl _)
                have hkn : ∀ m, QE V R { E2 with s := endedX S3 n } m → QE V R { s := endedX S3 n, known := E2.known ++ [(n, ans)] } m := fun m q => by
                  rcases q with q | q | q
                  · exact .inl q
                  · exact .inr (.inl q)
                  · exact .inr (.inr (by simp only [List.map_append]; exact List.mem_append_left _ q))
                have hle : LE D E { E2 with s := endedX S3 n } := (i2.trans (n3.trans (l3.trans j2)))
                refine ⟨ha, ⟨j1.v, j1.r, j1.nm, j1.w, fun p hp => ?_⟩, ⟨fun m hm => by simp only [List.map_append]; exact List.mem_append_left _ (hle.kn m hm), hle.rl, hle.runs⟩, ?_, .inr (.inr (by simp)), fun Q c q => ?_⟩
                · rcases List.mem_append.1 hp with hp | hp
                  · obtain ⟨k1, q, k2, k3, k4, k5⟩ := j1.k p hp
                    exact ⟨k1, q, k2, k3.mono hkn, k4, k5⟩
                  · rw [List.mem_singleton] at hp; subst hp
                    obtain ⟨r4, h1, h2, h3, h4, h5⟩ := j2.rl n r3 g1
                    refine ⟨ha, r4, h1, ?_, h4 g2, h5 g4⟩
                    rw [h2, g3]
                    exact n5.mono fun m q => hkn m ((l3.trans j2).q q)
                · rw [show (endedX S3 n).rules = modR n (fun r => { r with busy := false }) S3.rules from rfl, bl_modR _ _ (fun r => { r with busy := false }) false (fun r => ⟨rfl, rfl⟩), b3, n4, hbl1, List.map_map]
                  conv => rhs; rw [← List.map_id (bl E.s.rules)]
                  apply List.map_congr_left
                  intro p hp
                  simp only [Function.comp, id]
                  by_cases e : p.1 = n
                  · simp only [e, if_true]
                    unfold bl at hp
                    obtain ⟨q, hq, rfl⟩ := List.mem_map.1 hp
                    have := findR_of hE.nm hq
                    simp only at e
                    rw [e, hr] at this
                    injection this with this
                    rw [← this, hb, ← e, ← this]
                  · simp only [e, if_false]
                · have c1 := (i2.clo hE i1 c)
                  obtain ⟨p1, p2⟩ := c n r q hV hr
                  have c2 := n3.clo i1 n2 c1
                  have x1 := n6 Q c1 p1
                  have x2 := hq3 Q c2 q
                  show S3.runs = _
                  rw [x2, x1, ← hS1]; rfl
              cases hres : needsP D [] r.needs with
              | inl e =>
                simp only
                rw [hres] at hDn
                exact fin E2.s ([], e) n2 (LE.refl D E2) rfl ⟨r2, f1, (fun inn hi => by rw [f2, hres] at hi; cases hi), f2, f5 trivial⟩ hDn.symm (fun _ _ _ => rfl)
              | inr inn =>
                simp only
                rw [hres] at hDn
                unfold callX
                rw [f1]
                simp only
                by_cases hc : r2.called = true ∧ inn = r2.inn
                · rw [if_pos hc]
                  exact fin E2.s (r2.val, r2.e) n2 (LE.refl D E2) rfl ⟨r2, f1, (fun inn' hi => by rw [f2, hres] at hi; injection hi with hi; exact ⟨hc.1, by rw [← hi, hc.2]⟩), f2, f5 trivial⟩ (by rw [n2.w n r2 f1 hc.1, ← hc.2, f3]; exact hDn.symm) (fun _ _ _ => rfl)
                · rw [if_neg hc]
                  obtain ⟨j1, j2⟩ := n2.mod n (fun r => { r with called := true, inn := inn, val := (applyV r.f inn).1, e := (applyV r.f inn).2 }) { E2.s with runs := E2.s.runs + 1, rules := modR n (fun r => { r with called := true, inn := inn, val := (applyV r.f inn).1, e := (applyV r.f inn).2 }) E2.s.rules } rfl rfl (fun r => ⟨rfl, rfl, rfl⟩) (fun q hq => by
                    rw [f1] at hq; injection hq with hq; subst hq
                    exact ⟨fun _ => rfl, fun _ inn' hi => by rw [f2, hres] at hi; injection hi with hi; exact ⟨rfl, hi⟩, id⟩) (Nat.le_succ _)
                  have hf3 : findR (modR n (fun r => { r with called := true, inn := inn, val := (applyV r.f inn).1, e := (applyV r.f inn).2 }) E2.s.rules) n = some { r2 with called := true, inn := inn, val := (applyV r2.f inn).1, e := (applyV r2.f inn).2 } := by
                    rw [findR_modR _ _ _ (fun r => { r with called := true, inn := inn, val := (applyV r.f inn).1, e := (applyV r.f inn).2 }) (fun _ => rfl), f1]; simp
                  refine fin _ (applyV r2.f inn) j1 j2 (bl_same _ _ (fun r => { r with called := true, inn := inn, val := (applyV r.f inn).1, e := (applyV r.f inn).2 }) (fun r => ⟨rfl, rfl⟩)) ⟨_, hf3, (fun inn' hi => by rw [f2, hres] at hi; injection hi with hi; exact ⟨rfl, hi⟩), f2, f5 trivial⟩ (by rw [f3]; exact hDn.symm) (fun Q c q => ?_)
                  obtain ⟨p1, p2⟩ := c n r2 q hV f1
                  obtain ⟨x1, x2⟩ := p2 inn (by rw [f2, hres])
                  exact absurd ⟨x1, x2.symm⟩ hc
end Go.Proofs.Ytbikldmhfaecpaa
