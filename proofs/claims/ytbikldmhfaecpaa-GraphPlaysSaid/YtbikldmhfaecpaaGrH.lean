/-
  Layer 48 (graph): a rule that is laid into a graph in memory.
-/
import Derived.Test.YtbikldmhfaecpaaGrS
namespace Go.Proofs.Ytbikldmhfaecpaa
open Go.RowKit
set_option linter.unusedVariables false
set_option linter.unusedSimpArgs false
attribute [local go_sem] B_data B_size

theorem step_appS {ops : Array Oper} {o : Oper} {a : Act} {K : Act → World → Prop} {Q : Exit → Act → World → Prop} {E : Prop} (hgd : o.guard = none) (s x : Operand)
    (ho : o.op = .call { callee := .builtin .append, args := #[s, x], argTypes := #[29, 29] }) (wr : World) (u : Nm) (v : Value) (n : Nat) (xs : List Value) (hown : wr.ownsRow 0 9 1 v n xs)
    (hs : a.eval s = v) (hx : a.eval x = .slice (some ⟨wr.heap.size, 0, none⟩) 1 1) (hn : n + 1 ≤ 1099511627776)
    (h : ∀ g cap w', w'.ownsRow 0 9 1 (.slice (some ⟨g, 0, none⟩) (n + 1) cap) (n + 1) (xs ++ [.string (B u)]) → wr.grownBy w' v.ownBlock → (v.ownBlock = some g ∨ wr.heap.size < g) → g < w'.heap.size → K (a.put o.dst (.slice (some ⟨g, 0, none⟩) (n + 1) cap)) w') :
    if Region.wanted o (yielded ops a.tmps) = true then Oper.wp Try.prog o a (wr.alloc (.cells #[.string (B u)] 9)) K Q else E := by
  obtain ⟨i0, hi, hz0, hz1, hz2⟩ := info_parts Try.info9
  refine step_append_lies _ hgd s x 29 ho 0 9 i0 (.string ⟨#[]⟩) 1 16 Try.underlying29 hi hz0 hz1 hz2 rfl (by omega) v n xs hs (hown.alloc _) ⟨wr.heap.size, 0, none⟩ 1 1 [.string (B u)] hx rfl ?_ (by simp; rfl) (by omega) (by simp only [maxLen]; omega) ?_ (Nat.zero_le _) (wr.heap.size + 1) (by simp) ?_
  · intro j q hj
    have hlt : j < 1 := (List.getElem?_eq_some_iff.1 hj).1
    obtain rfl : j = 0 := by omega
    rw [addr_lit, cell_of_row (wr.alloc (.cells #[.string (B u)] 9)) wr.heap.size _ #[.string (B u)] 9 (0, 0) (heap_alloc_new wr _)]
    simpa using hj
  · omega
  · intro g cap w' h1 h2 h3 h4
    exact h g cap w' h1 (grown_trans (World.grownBy_alloc wr _ _) h2) (by rcases h3 with h3 | h3; exact .inl h3; exact .inr (by omega)) h4
section
variable {own : Own} {id gb b1 : Nat} {vm rm um : Option Nat} {pt : Nm → PtI} {S : GS} {U : Nm → List Nm} {w w' : World}
/-- the maps of rules and users are made -/
theorem GW.rnew (h : GW own id gb vm none none pt S U w) (hh : w'.heap[gb]? = some (.cells #[.map vm, .map (some w.heap.size), .map (some (w.heap.size + 1)), .int .i64 (S.runs : Int), .int .i64 (S.changes : Int)] 49 (0, 0)))
    (h1 : w'.heap[w.heap.size]? = some (.map #[] 0)) (h2 : w'.heap[w.heap.size + 1]? = some (.map #[] 0)) (hs : w'.heap.size = w.heap.size + 2) (hk : ∀ q, q < w.heap.size → q ≠ gb → w'.heap[q]? = w.heap[q]?) :
    GW (tagO (tagO own w.heap.size (id, .rules)) (w.heap.size + 1) (id, .users)) id gb vm (some w.heap.size) (some (w.heap.size + 1)) pt S U w' := by
  have n1 := h.fr w.heap.size (Nat.le_refl _)
  have n2 : tagO own w.heap.size (id, .rules) (w.heap.size + 1) = none := by unfold tagO; rw [if_neg (by omega)]; exact h.fr _ (Nat.le_succ _)
  have old : ∀ {b y}, own b = some y → tagO (tagO own w.heap.size (id, .rules)) (w.heap.size + 1) (id, .users) b = some y := fun e => tagO_old n2 (tagO_old n1 e)
  have k : ∀ q t, own q = some (id, t) → t ≠ .g → w'.heap[q]? = w.heap[q]? := fun q t e ht => hk q (h.mine_lt ⟨_, e⟩) fun e' => by subst e'; rw [h.gt] at e; injection e with e; injection e with _ e; exact ht e.symm
  have er := h.r0 rfl
  refine ⟨old h.gt, hh, h.v0, fun q e => ?_, fun e => (by cases e), fun q e => ?_, by simp, fun e => (by cases e), fun q e => ?_, fun r hr => ?_, h.nd, fun q hq => ?_⟩
  · exact ⟨old (h.v1 q e).1, (h.v1 q e).2.of_block (k q _ (h.v1 q e).1 (by simp))⟩
  · injection e with e; subst e
    rw [er]
    exact ⟨tagO_old n2 (by unfold tagO; rw [if_pos rfl]), #[], 0, h1, rfl, by simp [BornOk]⟩
  · injection e with e; subst e
    exact ⟨by unfold tagO; rw [if_pos rfl], [], ⟨#[], 0, h2, rfl, by simp [BornOk]⟩, fun n => .inl ⟨rfl, h.u0 rfl n⟩⟩
  · rw [er] at hr; cases hr
  · unfold tagO
    rw [if_neg (by omega), if_neg (by omega)]
    exact h.fr q (by omega)
end
theorem modP (pt : Nm → PtI) (n : Nm) (x : PtI) (m : Nm) : (fun q => if q = n then x else pt q) m = if m = n then x else pt m := rfl
theorem rkv_congr {pt pt' : Nm → PtI} {rs : List RuleS} (h : ∀ r ∈ rs, pt' r.name = pt r.name) : rkv pt' rs = rkv pt rs := by
  unfold rkv; apply List.map_congr_left; intro r hr; rw [h r hr]
theorem findR_snoc {rs : List RuleS} {n : Nm} {r : RuleS} (h : findR rs n = none) (hr : r.name = n) : findR (rs ++ [r]) n = some r := by
  induction rs with
  | nil => simp [findR, hr]
  | cons a q ih =>
    unfold findR at h
    split at h
    · cases h
    · rename_i hne
      rw [List.cons_append, findR, if_neg hne]; exact ih h
/-- a rule is laid -/
theorem GW.radd {own : Own} {id gb rb ub : Nat} {vm : Option Nat} {pt : Nm → PtI} {S : GS} {U : Nm → List Nm} {w w' : World} (h : GW own id gb vm (some rb) (some ub) pt S U w) {n : Nm} {r : RuleS} {p : Nat} {A : Option Addr} {c : Nat} (hn : findR S.rules n = none) (hrn : r.name = n)
    (hat : RAt own id ⟨p, A, c⟩ r w') (hm : SMap w' rb (putM n (.pointer (some ⟨p, 0, none⟩)) (rkv pt S.rules))) (hk : ∀ q, q ≠ rb → Mine own id q → own q ≠ some (id, .rule n) → own q ≠ some (id, .needs n) → w'.heap[q]? = w.heap[q]?) (hs : w.heap.size ≤ w'.heap.size) :
    GW own id gb vm (some rb) (some ub) (fun q => if q = n then ⟨p, A, c⟩ else pt q) { S with rules := S.rules ++ [r] } U w' := by
  have hb := (h.r1 rb rfl).1
  have k : ∀ q t, own q = some (id, t) → t ≠ .rules → t ≠ .rule n → t ≠ .needs n → w'.heap[q]? = w.heap[q]? := fun q t e h1 h2 h3 => hk q (fun e' => by subst e'; rw [hb] at e; injection e with e; injection e with _ e; exact h1 e.symm) ⟨_, e⟩ (fun e' => by rw [e] at e'; injection e' with e'; injection e' with _ e'; exact h2 e') (fun e' => by rw [e] at e'; injection e' with e'; injection e' with _ e'; exact h3 e')
  have hne : ∀ q ∈ S.rules, q.name ≠ n := findR_none hn
  refine ⟨h.gt, (k gb _ h.gt (by simp) (by simp) (by simp)).trans h.head, h.v0, fun q e => ?_, fun e => (by cases e), fun q e => ?_, h.ru, h.u0, fun q e => ?_, fun q hq => ?_, ?_, fun q hq => h.fr q (Nat.le_trans hs hq)⟩
  · exact ⟨(h.v1 q e).1, (h.v1 q e).2.of_block (k q _ (h.v1 q e).1 (by simp) (by simp) (by simp))⟩
  · injection e with e; subst e
    refine ⟨hb, ?_⟩
    rw [putM_new (by rw [lookL_rkv, hn]; rfl)] at hm
    have e2 : rkv (fun q => if q = n then ⟨p, A, c⟩ else pt q) (S.rules ++ [r]) = rkv pt S.rules ++ [(n, .pointer (some ⟨p, 0, none⟩))] := by
      have := rkv_congr (pt := pt) (pt' := fun q => if q = n then ⟨p, A, c⟩ else pt q) (rs := S.rules) (fun q hq => by simp [hne q hq])
      unfold rkv at this ⊢
      rw [List.map_append, this]; simp [hrn]
    show SMap w' rb (rkv (fun q => if q = n then ⟨p, A, c⟩ else pt q) (S.rules ++ [r]))
    rw [e2]; exact hm
  · obtain ⟨h1, kv, h2, h3⟩ := h.u1 q e
    refine ⟨h1, kv, h2.of_block (k q _ h1 (by simp) (by simp) (by simp)), fun m => ?_⟩
    rcases h3 m with h0 | ⟨v, g1, g2, g3⟩
    · exact .inl h0
    · exact .inr ⟨v, g1, own_keep g2 fun b hb => k b _ (g3 b hb) (by simp) (by simp) (by simp), g3⟩
  · rcases List.mem_append.1 hq with hq | hq
    · have e := hne q hq
      simp only [if_neg e]
      exact (h.rs q hq).keepT (fun b t e2 ht => k b t e2 (by rcases ht with rfl | rfl | rfl <;> simp) (by rcases ht with rfl | rfl | rfl <;> simp [e]) (by rcases ht with rfl | rfl | rfl <;> simp [e])) hs
    · rw [List.mem_singleton] at hq; subst hq
      simp only [hrn, if_true]
      exact hat
  · rw [List.map_append, List.nodup_append]
    refine ⟨h.nd, by simp, fun a ha b hb => ?_⟩
    simp at hb
    subst hb
    obtain ⟨q, hq, rfl⟩ := List.mem_map.1 ha
    rw [hrn]; exact hne q hq
/-- a user is added -/
theorem GW.uadd {own : Own} {id gb rb ub : Nat} {vm : Option Nat} {pt : Nm → PtI} {S : GS} {U : Nm → List Nm} {w w' : World} (h : GW own id gb vm (some rb) (some ub) pt S U w) {u n : Nm} {g cap : Nat} {kv : List (Nm × Value)} (hu : UAt own id U kv w)
    (hm : SMap w' ub (putM u (.slice (some ⟨g, 0, none⟩) ((U u).length + 1) cap) kv)) (ho : w'.ownsRow 0 9 1 (.slice (some ⟨g, 0, none⟩) ((U u).length + 1) cap) ((U u).length + 1) (strs (U u) ++ [.string (B n)]))
    (hg : own g = some (id, .user u)) (hk : ∀ q, q ≠ ub → q ≠ g → Mine own id q → w'.heap[q]? = w.heap[q]?) (hs : w.heap.size ≤ w'.heap.size) :
    GW own id gb vm (some rb) (some ub) pt S (fun m => if m = u then U m ++ [n] else U m) w' := by
  have hb := (h.u1 ub rfl).1
  have k : ∀ q t, own q = some (id, t) → t ≠ .users → t ≠ .user u → w'.heap[q]? = w.heap[q]? := fun q t e h1 h2 => hk q (fun e' => by subst e'; rw [hb] at e; injection e with e; injection e with _ e; exact h1 e.symm) (fun e' => by subst e'; rw [hg] at e; injection e with e; injection e with _ e; exact h2 e.symm) ⟨_, e⟩
  refine ⟨h.gt, (k gb _ h.gt (by simp) (by simp)).trans h.head, h.v0, fun q e => ?_, fun e => (by cases e), fun q e => ?_, h.ru, fun e => (by cases e), fun q e => ?_, fun r hr => ?_, h.nd, fun q hq => h.fr q (Nat.le_trans hs hq)⟩
  · exact ⟨(h.v1 q e).1, (h.v1 q e).2.of_block (k q _ (h.v1 q e).1 (by simp) (by simp))⟩
  · exact ⟨(h.r1 q e).1, (h.r1 q e).2.of_block (k q _ (h.r1 q e).1 (by simp) (by simp))⟩
  · injection e with e; subst e
    refine ⟨hb, _, hm, fun m => ?_⟩
    by_cases hmu : m = u
    · subst hmu
      refine .inr ⟨_, by rw [look_putM, if_pos rfl], ?_, fun b hb' => by injection hb' with hb'; rw [← hb']; exact hg⟩
      simp only [if_true, List.length_append, List.length_singleton]
      rw [strs_app]; exact ho
    · simp only [if_neg hmu]
      rcases hu m with ⟨h0, h1⟩ | ⟨v, g1, g2, g3⟩
      · exact .inl ⟨by rw [look_putM, if_neg hmu]; exact h0, h1⟩
      · exact .inr ⟨v, by rw [look_putM, if_neg hmu]; exact g1, own_keep g2 fun b hb' => k b _ (g3 b hb') (by simp) (by simp [hmu]), g3⟩
  · exact (h.rs r hr).keepT (fun b t e ht => k b t e (by rcases ht with rfl | rfl | rfl <;> simp) (by rcases ht with rfl | rfl | rfl <;> simp)) hs
end Go.Proofs.Ytbikldmhfaecpaa
