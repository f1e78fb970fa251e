/-
  Layer 48 (graph), the reference, plain: the graph that vertices are; an evaluation without memory.
-/
import Derived.Test.YtbikldmhfaecpaaGrRi
import Derived.Test.YtbikldmhfaecpaaGrDc
namespace Go.Proofs.Ytbikldmhfaecpaa
set_option linter.unusedVariables false
set_option linter.unusedSimpArgs false

def fN (F : Int) : Nat := (foI F).getD 0
def toR (v : VM) : RuleS := ⟨v.nm, v.nd, fN v.F, v.called, v.inn, v.out, v.e, !v.fresh, false⟩
def absV (L : List VM) : List (Nm × Nm) := (L.filter fun v => !v.rule).map fun v => (v.nm, v.vl)
def absR (L : List VM) : List RuleS := (L.filter fun v => v.rule).map toR
def absG (L : List VM) (N : Nat) : GS := ⟨absV L, absR L, N, 0⟩
def needsR (g : GS → Nm → GS × Res) : GS → List Nm → List Nm → GS × (Nat ⊕ List Nm)
  | S, acc, [] => (S, .inr acc)
  | S, acc, n :: r => if (g S n).2.2 = 0 then needsR g (g S n).1 (acc ++ [(g S n).2.1]) r else ((g S n).1, .inl (g S n).2.2)
def freshX (S : GS) (n : Nm) : GS := { S with rules := modR n (fun r => { r with stale := false }) S.rules }
def finR (P : GS × (Nat ⊕ List Nm)) (n : Nm) : GS × Res := match P.2 with
  | .inl e => (freshX P.1 n, ([], e))
  | .inr inn => callX (freshX P.1 n) n inn
def evalR : Nat → GS → Nm → GS × Res
  | 0, S, n => (S, ([], 10))
  | g + 1, S, n => match getV S.vals n with
    | some v => (S, (v, 0))
    | none => match findR S.rules n with
      | none => (S, ([], 13))
      | some r => finR (needsR (evalR g) S [] r.needs) n
theorem callX_runs (S : GS) (n : Nm) (inn : List Nm) : S.runs ≤ (callX S n inn).1.runs := by
  unfold callX
  split
  · exact Nat.le_refl _
  · split
    · exact Nat.le_refl _
    · exact Nat.le_succ _
theorem needsR_runs {g : GS → Nm → GS × Res} (hg : ∀ S n, S.runs ≤ (g S n).1.runs) : ∀ (l : List Nm) (S : GS) (acc : List Nm), S.runs ≤ (needsR g S acc l).1.runs
  | [], S, acc => Nat.le_refl _
  | n :: l, S, acc => by
    unfold needsR
    split
    · exact Nat.le_trans (hg S n) (needsR_runs hg l _ _)
    · exact hg S n
theorem finR_runs (P : GS × (Nat ⊕ List Nm)) (n : Nm) : P.1.runs ≤ (finR P n).1.runs := by
  unfold finR
  split
  · exact Nat.le_refl _
  · exact callX_runs (freshX P.1 n) n _
theorem evalR_runs : ∀ (g : Nat) (S : GS) (n : Nm), S.runs ≤ (evalR g S n).1.runs
  | 0, S, n => Nat.le_refl _
  | g + 1, S, n => by
    unfold evalR
    split
    · exact Nat.le_refl _
    · split
      · exact Nat.le_refl _
      · exact Nat.le_trans (needsR_runs (evalR_runs g) _ _ _) (finR_runs _ _)
structure GoodL (L : List VM) : Prop where
  len : L.length ≤ 1024
  nd : ∀ v ∈ L, v.nd.length ≤ 10000
  nm : (L.map (·.nm)).Nodup
  F : ∀ v ∈ L, v.rule = true → 0 ≤ v.F
  vl : ∀ v ∈ L, v.vl.length ≤ 1000
  out : ∀ v ∈ L, v.out.length ≤ 1000
  inn : ∀ v ∈ L, v.inn.length ≤ 10000
/-- what an evaluation keeps of vertices -/
def Sh (L L' : List VM) : Prop := L'.length = L.length ∧ ∀ (i : Nat) (v : VM), L[i]? = some v → ∃ v' : VM, L'[i]? = some v' ∧ v'.nm = v.nm ∧ v'.rule = v.rule ∧ v'.nd = v.nd ∧ v'.F = v.F ∧ v'.vl = v.vl
theorem Sh.refl (L : List VM) : Sh L L := ⟨rfl, fun i v h => ⟨v, h, rfl, rfl, rfl, rfl, rfl⟩⟩
theorem Sh.trans {L L' L'' : List VM} (h : Sh L L') (k : Sh L' L'') : Sh L L'' := ⟨k.1.trans h.1, fun i v hv => by
  obtain ⟨v', a1, a2, a3, a4, a5, a6⟩ := h.2 i v hv
  obtain ⟨v'', b1, b2, b3, b4, b5, b6⟩ := k.2 i v' a1
  exact ⟨v'', b1, b2.trans a2, b3.trans a3, b4.trans a4, b5.trans a5, b6.trans a6⟩⟩
theorem Sh.set {L : List VM} {i : Nat} {v v' : VM} (h : L[i]? = some v) (e : v'.nm = v.nm ∧ v'.rule = v.rule ∧ v'.nd = v.nd ∧ v'.F = v.F ∧ v'.vl = v.vl) : Sh L (L.set i v') := ⟨List.length_set, fun j u hu => by
  by_cases hij : i = j
  · subst hij
    rw [h] at hu; injection hu with hu; subst hu
    exact ⟨v', by rw [List.getElem?_set_self (List.getElem?_eq_some_iff.1 h).1], e⟩
  · exact ⟨u, by rw [List.getElem?_set_ne hij]; exact hu, rfl, rfl, rfl, rfl, rfl⟩⟩
theorem Sh.back {L L' : List VM} (h : Sh L L') {i : Nat} {v' : VM} (hv : L'[i]? = some v') : ∃ v, L[i]? = some v ∧ v'.nm = v.nm ∧ v'.rule = v.rule ∧ v'.nd = v.nd ∧ v'.F = v.F ∧ v'.vl = v.vl := by
  have hi : i < L.length := by rw [← h.1]; exact (List.getElem?_eq_some_iff.1 hv).1
  obtain ⟨u, a1, a2⟩ := h.2 i L[i] (List.getElem?_eq_getElem hi)
  rw [hv] at a1; injection a1 with a1; subst a1
  exact ⟨L[i], List.getElem?_eq_getElem hi, a2⟩
theorem Sh.map {β : Type} (f : VM → β) (hf : ∀ v v' : VM, v'.nm = v.nm → v'.rule = v.rule → v'.nd = v.nd → v'.F = v.F → v'.vl = v.vl → f v' = f v) {L L' : List VM} (h : Sh L L') : L'.map f = L.map f := by
  apply List.ext_getElem?
  intro i
  rw [List.getElem?_map, List.getElem?_map]
  cases hv : L[i]? with
  | none =>
    have : L'[i]? = none := by rw [List.getElem?_eq_none_iff, h.1]; exact List.getElem?_eq_none_iff.1 hv
    rw [this]
  | some v =>
    obtain ⟨v', a1, a2, a3, a4, a5, a6⟩ := h.2 i v hv
    rw [a1]
    simp [hf v v' a2 a3 a4 a5 a6]
theorem find_map_eq {L : List VM} {n : Nm} {i : Nat} {v : VM} (hnd : (L.map (·.nm)).Nodup) (hv : L[i]? = some v) (hn : v.nm = n) : findI L n = some i := by
  obtain ⟨hi, e⟩ := List.getElem?_eq_some_iff.1 hv
  refine findI_is hv hn (fun v' hm hn' => ?_)
  obtain ⟨j, hj, e2⟩ := List.mem_take_iff_getElem.1 hm
  rw [List.nodup_iff_pairwise_ne, List.pairwise_map, List.pairwise_iff_getElem] at hnd
  have := hnd j i (by omega) hi (by omega)
  rw [e2, e] at this
  exact this (by rw [hn', hn])
/-- what a vertex is in the graph -/
theorem abs_none {L : List VM} {n : Nm} (h : findI L n = none) : getV (absV L) n = none ∧ findR (absR L) n = none := by
  rw [findI_none] at h
  constructor
  · unfold absV
    induction L with
    | nil => rfl
    | cons a r ih =>
      have ih := ih (fun v hv => h v (List.mem_cons_of_mem _ hv))
      have ha := h a List.mem_cons_self
      rw [List.filter_cons]
      split
      · rw [List.map_cons, getV, if_neg (fun e => ha e.symm)]; exact ih
      · exact ih
  · unfold absR
    induction L with
    | nil => rfl
    | cons a r ih =>
      have ih := ih (fun v hv => h v (List.mem_cons_of_mem _ hv))
      have ha := h a List.mem_cons_self
      rw [List.filter_cons]
      split
      · rw [List.map_cons, findR, if_neg (fun e => ha e.symm)]; exact ih
      · exact ih
theorem abs_some {L : List VM} {n : Nm} {v : VM} : ∀ {i : Nat}, (L.map (·.nm)).Nodup → L[i]? = some v → v.nm = n → (v.rule = false → getV (absV L) n = some v.vl ∧ findR (absR L) n = none) ∧ (v.rule = true → getV (absV L) n = none ∧ findR (absR L) n = some (toR v)) := by
  induction L with
  | nil => intro i _ h; simp at h
  | cons a r ih =>
    intro i hnd hv hn
    rw [List.map_cons, List.nodup_cons] at hnd
    cases i with
    | zero =>
      have e : a = v := by simpa using hv
      subst e
      have hno : ∀ u ∈ r, u.nm ≠ n := fun u hu e => hnd.1 (List.mem_map.2 ⟨u, hu, by rw [e, hn]⟩)
      have hnone := abs_none (findI_none.2 hno)
      unfold absV absR at *
      constructor
      · intro hr
        rw [List.filter_cons, List.filter_cons]
        simp only [hr, Bool.not_false, if_true, Bool.false_eq_true, if_false]
        exact ⟨by rw [List.map_cons, getV, if_pos hn.symm], hnone.2⟩
      · intro hr
        rw [List.filter_cons, List.filter_cons]
        simp only [hr, Bool.not_true, if_true, Bool.false_eq_true, if_false]
        exact ⟨hnone.1, by rw [List.map_cons, findR, if_pos (show n = (toR a).name from hn.symm)]⟩
    | succ i =>
      have hv' : r[i]? = some v := by simpa using hv
      have ih := ih hnd.2 hv' hn
      have hne : n ≠ a.nm := fun e => hnd.1 (List.mem_map.2 ⟨v, List.mem_of_getElem? hv', by rw [hn, e]⟩)
      unfold absV absR at *
      rw [List.filter_cons, List.filter_cons]
      cases ha : a.rule with
      | true =>
        simp only [Bool.not_true, if_true, Bool.false_eq_true, if_false, List.map_cons, findR]
        rw [if_neg (show ¬ n = (toR a).name from hne)]
        exact ih
      | false =>
        simp only [Bool.not_false, if_true, Bool.false_eq_true, if_false, List.map_cons, getV]
        rw [if_neg hne]
        exact ih
/-- a rule's vertex made another -/
theorem abs_set {L : List VM} {v v' : VM} : ∀ {i : Nat}, (L.map (·.nm)).Nodup → L[i]? = some v → v.rule = true → v'.rule = true → v'.nm = v.nm → absV (L.set i v') = absV L ∧ absR (L.set i v') = modR v.nm (fun _ => toR v') (absR L) := by
  induction L with
  | nil => intro i _ h; simp at h
  | cons a r ih =>
    intro i hnd hv h1 h2 h3
    rw [List.map_cons, List.nodup_cons] at hnd
    cases i with
    | zero =>
      have e : a = v := by simpa using hv
      subst e
      rw [List.set_cons_zero]
      unfold absV absR
      rw [List.filter_cons, List.filter_cons, List.filter_cons, List.filter_cons]
      simp only [h1, h2, Bool.not_true, if_true, Bool.false_eq_true, if_false, List.map_cons]
      refine ⟨trivial, ?_⟩
      rw [modR_cons, if_pos (show (toR a).name = a.nm from rfl)]
      congr 1
      symm
      refine modR_id _ _ _ (fun q hq hn => ?_)
      obtain ⟨u, hu, rfl⟩ := List.mem_map.1 hq
      exact absurd (List.mem_map.2 ⟨u, (List.mem_filter.1 hu).1, hn⟩) hnd.1
    | succ i =>
      have hv' : r[i]? = some v := by simpa using hv
      have ih := ih hnd.2 hv' h1 h2 h3
      have hne : a.nm ≠ v.nm := fun e => hnd.1 (List.mem_map.2 ⟨v, List.mem_of_getElem? hv', e.symm⟩)
      rw [List.set_cons_succ]
      unfold absV absR at *
      rw [List.filter_cons, List.filter_cons, List.filter_cons, List.filter_cons]
      cases ha : a.rule with
      | true =>
        simp only [Bool.not_true, if_true, Bool.false_eq_true, if_false, List.map_cons]
        rw [modR_cons, if_neg (show ¬ (toR a).name = v.nm from hne), ih.2]
        exact ⟨ih.1, rfl⟩
      | false =>
        simp only [Bool.not_false, if_true, Bool.false_eq_true, if_false, List.map_cons]
        rw [ih.1]
        exact ⟨rfl, ih.2⟩
theorem modR_const {rs : List RuleS} {n : Nm} {r : RuleS} {g : RuleS → RuleS} (hnd : (rs.map (·.name)).Nodup) (hr : findR rs n = some r) : modR n (fun _ => g r) rs = modR n g rs := by
  unfold modR
  apply List.map_congr_left
  intro q hq
  by_cases hn : q.name = n
  · have := findR_of hnd hq
    rw [hn, hr] at this
    injection this with this
    rw [if_pos hn, if_pos hn, this]
  · rw [if_neg hn, if_neg hn]
theorem absR_names {L : List VM} (h : (L.map (·.nm)).Nodup) : ((absR L).map (·.name)).Nodup := by
  unfold absR
  rw [List.map_map]
  have e : (List.filter (fun v => v.rule) L).map ((fun r : RuleS => r.name) ∘ toR) = (List.filter (fun v => v.rule) L).map (·.nm) := rfl
  rw [e]
  exact h.sublist (List.Sublist.map _ List.filter_sublist)
end Go.Proofs.Ytbikldmhfaecpaa
