/-
  Layer 48 (graph): a graph in memory.
-/
import Derived.Test.YtbikldmhfaecpaaGrP
import Derived.Lib.Hide
namespace Go.Proofs.Ytbikldmhfaecpaa
open Go.RowKit
set_option linter.unusedVariables false
set_option linter.unusedSimpArgs false

/-- what a block holds -/
inductive Tag where
  | g | vals | rules | users
  | rule (n : Nm) | needs (n : Nm) | inn (n : Nm) | user (n : Nm)
abbrev Own := Nat → Option (Nat × Tag)
/-- the blocks of graph id -/
def Mine (own : Own) (id : Nat) (b : Nat) : Prop := ∃ t, own b = some (id, t)
/-- nothing but the blocks of graph id is another one in w' -/
structure Kp (own : Own) (id : Nat) (w w' : World) : Prop where
  os : w'.os = w.os
  tape : w'.tape = w.tape
  output : w'.output = w.output
  size : w.heap.size ≤ w'.heap.size
  block : ∀ k, k < w.heap.size → ¬ Mine own id k → w'.heap[k]? = w.heap[k]?
/-- own' says of the old blocks what own says, and of new ones at most that they are graph id's -/
structure Ext (own own' : Own) (id M : Nat) : Prop where
  old : ∀ b, b < M → own' b = own b
  new : ∀ b, M ≤ b → ∀ t, own' b = some t → t.1 = id
section
variable {own own' own'' : Own} {id : Nat} {a b c : World}
theorem Ext.refl (own : Own) (id M : Nat) (h : ∀ b, M ≤ b → own b = none) : Ext own own id M := ⟨fun _ _ => rfl, fun b hb t ht => by rw [h b hb] at ht; cases ht⟩
theorem Ext.trans {M M' : Nat} (h : Ext own own' id M) (k : Ext own' own'' id M') (hM : M ≤ M') : Ext own own'' id M :=
  ⟨fun b hb => (k.old b (by omega)).trans (h.old b hb), fun b hb t ht => by
    rcases Nat.lt_or_ge b M' with h1 | h1
    · rw [k.old b h1] at ht; exact h.new b hb t ht
    · exact k.new b h1 t ht⟩
theorem Ext.mine {M k : Nat} (h : Ext own own' id M) (hk : k < M) : Mine own' id k ↔ Mine own id k := by unfold Mine; rw [h.old k hk]
theorem Kp.refl (own : Own) (id : Nat) (w : World) : Kp own id w w := ⟨rfl, rfl, rfl, Nat.le_refl _, fun _ _ _ => rfl⟩
theorem Kp.trans (h : Kp own id a b) (k : Kp own id b c) : Kp own id a c :=
  ⟨k.os.trans h.os, k.tape.trans h.tape, k.output.trans h.output, Nat.le_trans h.size k.size, fun i h1 h2 => (k.block i (Nat.lt_of_lt_of_le h1 h.size) h2).trans (h.block i h1 h2)⟩
theorem Kp.trans2 (h : Kp own id a b) (k : Kp own' id b c) (e : Ext own own' id a.heap.size) : Kp own id a c :=
  ⟨k.os.trans h.os, k.tape.trans h.tape, k.output.trans h.output, Nat.le_trans h.size k.size, fun i h1 h2 => (k.block i (Nat.lt_of_lt_of_le h1 h.size) (fun m => h2 ((e.mine h1).1 m))).trans (h.block i h1 h2)⟩
theorem Kp.of_below (h : Below a.heap.size a b) : Kp own id a b := ⟨h.os, h.tape, h.output, h.size, fun i h1 _ => h.block i h1⟩
theorem Kp.step (h : Kp own id a b) (hb : Below b.heap.size b c) : Kp own id a c := h.trans (Kp.of_below hb)
theorem Kp.drewN (h : Kp own id a b) (n : Nat) : Kp own id a (b.drewN n) := ⟨h.os, h.tape, h.output, h.size, h.block⟩
theorem Kp.drew (h : Kp own id a b) : Kp own id a b.drew := ⟨h.os, h.tape, h.output, h.size, h.block⟩
theorem Kp.alloc (h : Kp own id a b) (o : Obj) : Kp own id a (b.alloc o) := h.step (below_alloc b o)
theorem Kp.setCell {q i : Nat} {u : Value} (h : Kp own id a b) (hq : q < a.heap.size → Mine own id q) : Kp own id a (b.setCell ⟨q, i, none⟩ u) :=
  ⟨h.os, h.tape, h.output, by have := h.size; simpa [World.setCell] using this, fun k hk hr => by
    rw [Below.heap_setCell b ⟨q, i, none⟩ u k (fun e => hr (by have e : k = q := e; subst e; exact hq hk))]
    exact h.block k hk hr⟩
theorem Kp.grown {row : Option Nat} (h : Kp own id a b) (k : b.grownBy c row) (hr : ∀ q, row = some q → q < a.heap.size → Mine own id q) : Kp own id a c :=
  ⟨k.os.trans h.os, k.tape.trans h.tape, k.output.trans h.output, Nat.le_trans h.size k.size, fun i h1 h2 => (k.block i (Nat.lt_of_lt_of_le h1 h.size) (fun e => h2 (hr i e.symm h1))).trans (h.block i h1 h2)⟩
theorem Kp.below {M : Nat} (h : Kp own id a b) (hM : M ≤ a.heap.size) (hR : ∀ k, Mine own id k → M ≤ k) : Below M a b := ⟨h.os, h.tape, h.output, h.size, fun i h1 => h.block i (Nat.lt_of_lt_of_le h1 hM) fun e => by have := hR i e; omega⟩
theorem Kp.cell {p : Addr} (h : Kp own id a b) (hp : p.block < a.heap.size) (hR : ¬ Mine own id p.block) : b.cell? p = a.cell? p := World.cell?_of_block (w := a) (h.block _ hp hR)
end
/-- a slice of texts in a block of its own -/
def Rdo (own : Own) (id : Nat) (t : Tag) (w : World) (A : Option Addr) (n : Nat) (xs : List Nm) : Prop :=
  Rd w w.heap.size 1 A n (strs xs) ∧ ∀ ad, A = some ad → 0 < n → own ad.block = some (id, t)
theorem Rdo.keep {own : Own} {id : Nat} {t : Tag} {w w' : World} {A : Option Addr} {n : Nat} {xs : List Nm} (h : Rdo own id t w A n xs) (hk : ∀ b, Mine own id b → w'.heap[b]? = w.heap[b]?) (hs : w.heap.size ≤ w'.heap.size) : Rdo own id t w' A n xs := by
  obtain ⟨⟨h1, h2⟩, h3⟩ := h
  refine ⟨⟨h1, fun hn => ?_⟩, h3⟩
  obtain ⟨ad, e, hb, hc⟩ := h2 hn
  exact ⟨ad, e, Nat.lt_of_lt_of_le hb hs, fun j u hj => (World.cell?_of_block (w := w) (a := ad.add j) (by rw [show (ad.add j).block = ad.block from by unfold Addr.add; split <;> rfl]; exact hk _ ⟨t, h3 ad e hn⟩)).trans (hc j u hj)⟩
/-- the function with a number -/
def fnV (f : Nat) : Value := if f = 0 then .func (.func 26) #[] #[] else if f = 1 then .func (.func 25) #[] #[] else if f = 2 then .func (.func 31) #[] #[] else .func (.func 32) #[] #[]
/-- where a rule lies, and its needs -/
structure PtI where
  p : Nat
  A : Option Addr
  c : Nat
/-- a rule in memory -/
structure RAt (own : Own) (id : Nat) (p : PtI) (r : RuleS) (w : World) : Prop where
  tag : own p.p = some (id, .rule r.name)
  cells : ∃ iA im ic, w.heap[p.p]? = some (.cells #[.slice p.A r.needs.length p.c, fnV r.f, .bool r.called, .slice iA im ic, .string (B r.val), .int .i64 (r.e : Int), .bool r.stale, .bool r.busy] 71 (0, 0)) ∧ Rdo own id (.needs r.name) w p.A r.needs.length r.needs ∧ r.needs.length ≤ p.c ∧ Rdo own id (.inn r.name) w iA im r.inn
theorem RAt.lt {own : Own} {id : Nat} {p : PtI} {r : RuleS} {w : World} (h : RAt own id p r w) : p.p < w.heap.size := by
  obtain ⟨_, _, _, h, _⟩ := h.cells
  exact (Array.getElem?_eq_some_iff.1 h).1
theorem RAt.keep {own : Own} {id : Nat} {p : PtI} {r : RuleS} {w w' : World} (h : RAt own id p r w) (hk : ∀ b, Mine own id b → w'.heap[b]? = w.heap[b]?) (hs : w.heap.size ≤ w'.heap.size) : RAt own id p r w' := by
  obtain ⟨iA, im, ic, h1, h2, h3, h4⟩ := h.cells
  exact ⟨h.tag, iA, im, ic, (hk _ ⟨_, h.tag⟩).trans h1, h2.keep hk hs, h3, h4.keep hk hs⟩
def vkv (vs : List (Nm × Nm)) : List (Nm × Value) := vs.map fun p => (p.1, .string (B p.2))
def rkv (pt : Nm → PtI) (rs : List RuleS) : List (Nm × Value) := rs.map fun r => (r.name, .pointer (some ⟨(pt r.name).p, 0, none⟩))
/-- the users of names, in rows of their own -/
def UAt (own : Own) (id : Nat) (U : Nm → List Nm) (kv : List (Nm × Value)) (w : World) : Prop :=
  ∀ n, (lookL n kv = none ∧ U n = []) ∨ ∃ v, lookL n kv = some v ∧ w.ownsRow 0 9 1 v (U n).length (strs (U n)) ∧ ∀ b, v.ownBlock = some b → own b = some (id, .user n)
theorem own_keep {w w' : World} {e : TypeId} {sz n : Nat} {v : Value} {xs : List Value} (h : w.ownsRow 0 e sz v n xs) (hk : ∀ b, v.ownBlock = some b → w'.heap[b]? = w.heap[b]?) : w'.ownsRow 0 e sz v n xs := by
  refine ⟨h.1, ?_⟩
  rcases h.2 with h0 | ⟨g, cap, cur, rfl, h2, h3, h4⟩
  · exact .inl h0
  · exact .inr ⟨g, cap, cur, rfl, h2, (hk g rfl).trans h3, h4⟩
theorem UAt.keep {own : Own} {id : Nat} {U : Nm → List Nm} {kv : List (Nm × Value)} {w w' : World} (h : UAt own id U kv w) (hk : ∀ b, Mine own id b → w'.heap[b]? = w.heap[b]?) : UAt own id U kv w' := by
  intro n
  rcases h n with h0 | ⟨v, h1, h2, h3⟩
  · exact .inl h0
  · exact .inr ⟨v, h1, own_keep h2 fun b hb => hk b ⟨_, h3 b hb⟩, h3⟩
/-- a graph in memory: at block gb; its maps; the rules at the blocks pt; its users are U -/
structure GW (own : Own) (id gb : Nat) (vm rm um : Option Nat) (pt : Nm → PtI) (S : GS) (U : Nm → List Nm) (w : World) : Prop where
  gt : own gb = some (id, .g)
  head : w.heap[gb]? = some (.cells #[.map vm, .map rm, .map um, .int .i64 (S.runs : Int), .int .i64 (S.changes : Int)] 49 (0, 0))
  v0 : vm = none → S.vals = []
  v1 : ∀ b, vm = some b → own b = some (id, .vals) ∧ SMap w b (vkv S.vals)
  r0 : rm = none → S.rules = []
  r1 : ∀ b, rm = some b → own b = some (id, .rules) ∧ SMap w b (rkv pt S.rules)
  ru : rm = none ↔ um = none
  u0 : um = none → ∀ n, U n = []
  u1 : ∀ b, um = some b → own b = some (id, .users) ∧ ∃ kv, SMap w b kv ∧ UAt own id U kv w
  rs : ∀ r ∈ S.rules, RAt own id (pt r.name) r w
  nd : (S.rules.map (·.name)).Nodup
  fr : ∀ b, w.heap.size ≤ b → own b = none
section
variable {own : Own} {id gb : Nat} {vm rm um : Option Nat} {pt : Nm → PtI} {S : GS} {U : Nm → List Nm} {w w' : World}
theorem GW.lt (h : GW own id gb vm rm um pt S U w) : gb < w.heap.size := (Array.getElem?_eq_some_iff.1 h.head).1
theorem GW.mine_lt (h : GW own id gb vm rm um pt S U w) {b : Nat} (hb : Mine own id b) : b < w.heap.size := by
  rcases Nat.lt_or_ge b w.heap.size with h1 | h1
  · exact h1
  · obtain ⟨t, ht⟩ := hb
    rw [h.fr b h1] at ht; cases ht
theorem GW.keep (h : GW own id gb vm rm um pt S U w) (hk : ∀ b, Mine own id b → w'.heap[b]? = w.heap[b]?) (hs : w.heap.size ≤ w'.heap.size) : GW own id gb vm rm um pt S U w' where
  gt := h.gt
  head := (hk gb ⟨_, h.gt⟩).trans h.head
  v0 := h.v0
  v1 := fun b e => ⟨(h.v1 b e).1, (h.v1 b e).2.of_block (hk b ⟨_, (h.v1 b e).1⟩)⟩
  r0 := h.r0
  r1 := fun b e => ⟨(h.r1 b e).1, (h.r1 b e).2.of_block (hk b ⟨_, (h.r1 b e).1⟩)⟩
  ru := h.ru
  u0 := h.u0
  u1 := fun b e => by
    obtain ⟨h1, kv, h2, h3⟩ := h.u1 b e
    exact ⟨h1, kv, h2.of_block (hk b ⟨_, h1⟩), h3.keep hk⟩
  rs := fun r hr => (h.rs r hr).keep hk hs
  nd := h.nd
  fr := fun b hb => h.fr b (Nat.le_trans hs hb)
theorem GW.below (h : GW own id gb vm rm um pt S U w) (hb : Below w.heap.size w w') : GW own id gb vm rm um pt S U w' := h.keep (fun b m => hb.block b (h.mine_lt m)) hb.size
theorem GW.grown {row : Option Nat} (h : GW own id gb vm rm um pt S U w) (hg : w.grownBy w' row) (hr : ∀ q, row = some q → own q = none) : GW own id gb vm rm um pt S U w' :=
  h.keep (fun b m => hg.block b (h.mine_lt m) fun e => by obtain ⟨t, ht⟩ := m; rw [hr b e.symm] at ht; cases ht) hg.size
theorem GW.drew (h : GW own id gb vm rm um pt S U w) : GW own id gb vm rm um pt S U w.drew := h.below (Below.refl _ _).drew
theorem GW.alloc (h : GW own id gb vm rm um pt S U w) (o : Obj) : GW own id gb vm rm um pt S U (w.alloc o) := h.below (below_alloc w o)
/-- the cells of the graph itself -/
theorem GW.c0 (h : GW own id gb vm rm um pt S U w) : w.cell? ⟨gb, 0, none⟩ = some (.map vm) := by simp [World.cell?, h.head]
theorem GW.c1 (h : GW own id gb vm rm um pt S U w) : w.cell? ⟨gb, 1, none⟩ = some (.map rm) := by simp [World.cell?, h.head]
theorem GW.c2 (h : GW own id gb vm rm um pt S U w) : w.cell? ⟨gb, 2, none⟩ = some (.map um) := by simp [World.cell?, h.head]
theorem GW.c3 (h : GW own id gb vm rm um pt S U w) : w.cell? ⟨gb, 3, none⟩ = some (.int .i64 (S.runs : Int)) := by simp [World.cell?, h.head]
theorem GW.c4 (h : GW own id gb vm rm um pt S U w) : w.cell? ⟨gb, 4, none⟩ = some (.int .i64 (S.changes : Int)) := by simp [World.cell?, h.head]
theorem GW.free (h : GW own id gb vm rm um pt S U w) (i : Nat) : w.frozen? ⟨gb, i, none⟩ = false := by simp [World.frozen?, h.head]
end
theorem lookL_rkv {pt : Nm → PtI} {rs : List RuleS} {n : Nm} : lookL n (rkv pt rs) = (findR rs n).map fun r => .pointer (some ⟨(pt n).p, 0, none⟩) := by
  induction rs with
  | nil => rfl
  | cons r q ih =>
    simp only [rkv, List.map_cons, lookL, findR] at ih ⊢
    by_cases h : n = r.name
    · simp [h]
    · simp only [if_neg h]; exact ih
theorem lookL_vkv {vs : List (Nm × Nm)} {n : Nm} : lookL n (vkv vs) = (getV vs n).map fun v => .string (B v) := by
  induction vs with
  | nil => rfl
  | cons r q ih =>
    simp only [vkv, List.map_cons, lookL, getV] at ih ⊢
    by_cases h : n = r.1
    · simp [h]
    · simp only [if_neg h]; exact ih
theorem findR_mem {rs : List RuleS} {n : Nm} {r : RuleS} (h : findR rs n = some r) : r ∈ rs ∧ r.name = n := by
  induction rs with
  | nil => cases h
  | cons a q ih =>
    unfold findR at h
    split at h
    · rename_i e; injection h with h; subst h; exact ⟨List.mem_cons_self, e.symm⟩
    · have := ih h; exact ⟨List.mem_cons_of_mem _ this.1, this.2⟩
theorem findR_none {rs : List RuleS} {n : Nm} (h : findR rs n = none) : ∀ r ∈ rs, r.name ≠ n := by
  induction rs with
  | nil => intro r hr; cases hr
  | cons a q ih =>
    unfold findR at h
    split at h
    · cases h
    · rename_i e
      intro r hr
      rcases List.mem_cons.1 hr with rfl | hr
      · exact fun x => e x.symm
      · exact ih h r hr
theorem findR_of {rs : List RuleS} (hnd : (rs.map (·.name)).Nodup) {r : RuleS} (h : r ∈ rs) : findR rs r.name = some r := by
  induction rs with
  | nil => cases h
  | cons a q ih =>
    simp only [List.map_cons, List.nodup_cons] at hnd
    unfold findR
    rcases List.mem_cons.1 h with rfl | h
    · rw [if_pos rfl]
    · have hne : r.name ≠ a.name := fun e => hnd.1 (e ▸ List.mem_map_of_mem h)
      rw [if_neg hne]; exact ih hnd.2 h
end Go.Proofs.Ytbikldmhfaecpaa
