/-
  Layer 48 (graph): the entries of a map, one after the other; names sorted (plain).
-/
import Derived.Test.YtbikldmhfaecpaaGrI
import Derived.Maps.RangeRun
namespace Go.Proofs.Ytbikldmhfaecpaa
open Go.RowKit
set_option linter.unusedVariables false
set_option linter.unusedSimpArgs false

theorem filter_perm (l : List MapEntry) (hn : (l.map (·.born)).Nodup) (e : MapEntry) (he : e ∈ l) : (e :: l.filter (fun x => !(x.born == e.born))).Perm l := by
  induction l with
  | nil => cases he
  | cons a r ih =>
    rw [List.map_cons, List.nodup_cons] at hn
    rcases List.mem_cons.1 he with rfl | he
    · have h2 : r.filter (fun x => !(x.born == e.born)) = r := by
        rw [List.filter_eq_self]
        intro x hx
        have : x.born ≠ e.born := fun h => hn.1 (h ▸ List.mem_map_of_mem (f := (·.born)) hx)
        simpa using this
      rw [List.filter_cons]; simp [h2]
    · have hne : a.born ≠ e.born := fun h => hn.1 (h ▸ List.mem_map_of_mem (f := (·.born)) he)
      rw [List.filter_cons, if_pos (by simpa using hne)]
      exact (List.Perm.swap a e _).trans ((ih hn.2 he).cons a)
theorem left_next {es : Array MapEntry} {seen : Array Nat} (e : MapEntry) : (leftOf es (seen.push e.born)).toList = (leftOf es seen).toList.filter (fun x => !(x.born == e.born)) := by
  unfold leftOf
  rw [Array.toList_filter, Array.toList_filter, List.filter_filter]
  congr 1
  funext x
  rw [contains_push]
  cases seen.contains x.born <;> simp [Bool.and_comm]
theorem left_perm {es : Array MapEntry} {seen : Array Nat} {vis : List MapEntry} (hb : (es.toList.map (·.born)).Nodup) (hp : (vis ++ (leftOf es seen).toList).Perm es.toList) {e : MapEntry} (he : e ∈ (leftOf es seen).toList) :
    (vis ++ [e] ++ (leftOf es (seen.push e.born)).toList).Perm es.toList := by
  have hl : ((leftOf es seen).toList.map (·.born)).Nodup := by
    unfold leftOf
    rw [Array.toList_filter]
    exact hb.sublist (List.Sublist.map _ List.filter_sublist)
  refine List.Perm.trans ?_ hp
  rw [List.append_assoc]
  refine List.Perm.append_left vis ?_
  rw [left_next]
  exact filter_perm _ hl e he
theorem left_all (es : Array MapEntry) : (leftOf es #[]).toList = es.toList := by
  unfold leftOf; rw [Array.toList_filter, List.filter_eq_self]; intro x _; simp
theorem left_none {es : Array MapEntry} {seen : Array Nat} {vis : List MapEntry} (h : (leftOf es seen).size = 0) (hp : (vis ++ (leftOf es seen).toList).Perm es.toList) : vis.Perm es.toList := by
  have : (leftOf es seen).toList = [] := by
    apply List.eq_nil_of_length_eq_zero; simpa using h
  rwa [this, List.append_nil] at hp
/-- the name of an entry -/
def nameE (e : MapEntry) : Nm := match e.key with | .string s => s.toList | _ => []
def staleE (rs : List RuleS) (e : MapEntry) : Bool := match findR rs (nameE e) with | some r => r.stale | none => false
theorem nameE_key {e : MapEntry} {k : Nm} (h : e.key = .string (B k)) : nameE e = k := by
  unfold nameE; rw [h]; simp [B, ByteArray.toList_eq]
theorem entry_rule {pt : Nm → PtI} {rs : List RuleS} {l : List MapEntry} (h : l.map (fun e => (e.key, e.val)) = (rkv pt rs).map (fun p => (Value.string (B p.1), p.2))) {e : MapEntry} (he : e ∈ l) : ∃ r ∈ rs, e.key = .string (B r.name) ∧ e.val = .pointer (some ⟨(pt r.name).p, 0, none⟩) := by
  have := List.mem_map_of_mem (f := fun e : MapEntry => (e.key, e.val)) he
  rw [h] at this
  obtain ⟨p, hp, e2⟩ := List.mem_map.1 this
  unfold rkv at hp
  obtain ⟨r, hr, rfl⟩ := List.mem_map.1 hp
  injection e2 with e3 e4
  exact ⟨r, hr, e3.symm, e4.symm⟩
theorem stale_names {pt : Nm → PtI} {rs all : List RuleS} {l : List MapEntry} (hsub : ∀ r ∈ rs, findR all r.name = some r) (h : l.map (fun e => (e.key, e.val)) = (rkv pt rs).map (fun p => (Value.string (B p.1), p.2))) : (l.filter (staleE all)).map nameE = (rs.filter (·.stale)).map (·.name) := by
  induction rs generalizing l with
  | nil => cases l with
    | nil => rfl
    | cons a r => simp [rkv] at h
  | cons r q ih =>
    cases l with
    | nil => simp [rkv] at h
    | cons a l =>
      simp only [rkv, List.map_cons, List.cons.injEq, Prod.mk.injEq] at h
      obtain ⟨⟨h1, h2⟩, h3⟩ := h
      have hn := nameE_key h1
      have hs : staleE all a = r.stale := by unfold staleE; rw [hn, hsub r List.mem_cons_self]
      have := ih (fun r hr => hsub r (List.mem_cons_of_mem _ hr)) h3
      rw [List.filter_cons, List.filter_cons, hs]
      cases r.stale with
      | true => simp [hn, this]
      | false => simpa using this
/-- sorted names do not hang on the order -/
theorem sort_perm {l m : List Nm} (h : l.Perm m) : (l.mergeSort fun x y => decide (x ≤ y)) = m.mergeSort fun x y => decide (x ≤ y) := by
  have tr : ∀ a b c : Nm, decide (a ≤ b) = true → decide (b ≤ c) = true → decide (a ≤ c) = true := fun a b c h1 h2 => by
    rw [decide_eq_true_eq] at h1 h2 ⊢; exact List.le_trans h1 h2
  have tot : ∀ a b : Nm, (decide (a ≤ b) || decide (b ≤ a)) = true := fun a b => by
    rw [Bool.or_eq_true, decide_eq_true_eq, decide_eq_true_eq]; exact List.le_total a b
  exact List.Perm.eq_of_pairwise (le := fun a b => decide (a ≤ b) = true) (fun a b _ _ h1 h2 => by rw [decide_eq_true_eq] at h1 h2; exact List.le_antisymm h1 h2) (List.pairwise_mergeSort tr tot l) (List.pairwise_mergeSort tr tot m) ((List.mergeSort_perm l _).trans (h.trans (List.mergeSort_perm m _).symm))
end Go.Proofs.Ytbikldmhfaecpaa
