/-
  Layer 48 (graph): a round of evaluation in memory.
-/
import Derived.Test.YtbikldmhfaecpaaGrV
namespace Go.Proofs.Ytbikldmhfaecpaa
open Go.RowKit
set_option linter.unusedVariables false
set_option linter.unusedSimpArgs false
attribute [local go_sem] B_data B_size

def resV (r : Res) : Value := .agg #[.string (B r.1), .int .i64 (r.2 : Int)]
def knownM (K : List (Nm × Res)) : List (Nm × Value) := K.map fun p => (p.1, resV p.2)
theorem lookL_known {K : List (Nm × Res)} {n : Nm} : lookL n (knownM K) = (lookK n K).map resV := by
  induction K with
  | nil => rfl
  | cons p r ih =>
    simp only [knownM, List.map_cons, lookL, lookK] at ih ⊢
    by_cases h : n = p.1
    · simp [h]
    · simp only [if_neg h]; exact ih
/-- the round at block wb, what is known at block kb -/
structure RW (own : Own) (gb wb kb c : Nat) (K : List (Nm × Res)) (w : World) : Prop where
  head : w.heap[wb]? = some (.cells #[.pointer (some ⟨gb, 0, none⟩), .int .i64 (c : Int), .map (some kb)] 65 (0, 0))
  map : SMap w kb (knownM K)
  ow : own wb = none
  ok : own kb = none
section
variable {own own' : Own} {gb wb kb c : Nat} {K : List (Nm × Res)} {w w' : World}
theorem RW.ne (h : RW own gb wb kb c K w) : wb ≠ kb := by
  intro e
  obtain ⟨es, cl, h1, _⟩ := h.map
  have h2 := h.head
  rw [e, h1] at h2; injection h2 with h2; cases h2
theorem RW.keep (h : RW own gb wb kb c K w) (h1 : w'.heap[wb]? = w.heap[wb]?) (h2 : w'.heap[kb]? = w.heap[kb]?) : RW own gb wb kb c K w' := ⟨h1.trans h.head, h.map.of_block h2, h.ow, h.ok⟩
theorem RW.lt1 (h : RW own gb wb kb c K w) : wb < w.heap.size := (Array.getElem?_eq_some_iff.1 h.head).1
theorem RW.lt2 (h : RW own gb wb kb c K w) : kb < w.heap.size := h.map.lt
theorem RW.below (h : RW own gb wb kb c K w) (hb : Below w.heap.size w w') : RW own gb wb kb c K w' := h.keep (hb.block _ h.lt1) (hb.block _ h.lt2)
theorem RW.c0 (h : RW own gb wb kb c K w) : w.cell? ⟨wb, 0, none⟩ = some (.pointer (some ⟨gb, 0, none⟩)) := by simp [World.cell?, h.head]
theorem RW.c1 (h : RW own gb wb kb c K w) : w.cell? ⟨wb, 1, none⟩ = some (.int .i64 (c : Int)) := by simp [World.cell?, h.head]
theorem RW.c2 (h : RW own gb wb kb c K w) : w.cell? ⟨wb, 2, none⟩ = some (.map (some kb)) := by simp [World.cell?, h.head]
theorem RW.look (h : RW own gb wb kb c K w) (n : Nm) : (Instr.lookup 63 (.map (some kb)) (.string (B n)) true).run Try.prog w = .ok (.tuple #[resV ((lookK n K).getD ([], 0)), .bool (lookK n K).isSome]) w := by
  have := (SMap.look (T := 63) (K := 9) (E := 67) Try.underlying63 Try.underlying9 h.map n _ (zeroRE w)).2
  rw [lookL_known] at this
  cases hk : lookK n K with
  | none => rw [hk] at this; exact this
  | some v => rw [hk] at this; exact this
end
/-- nothing but the graph's blocks and what is known is another one -/
abbrev KE (own : Own) (id kb : Nat) (w w' : World) : Prop := Kr (fun b => Mine own id b ∨ b = kb) w w'
section
variable {own own' own'' : Own} {id kb : Nat} {a b c : World}
theorem KE.trans2 (h : KE own id kb a b) (k : KE own' id kb b c) (e : Ext own own' id a.heap.size) : KE own id kb a c :=
  ⟨k.os.trans h.os, k.tape.trans h.tape, k.output.trans h.output, Nat.le_trans h.size k.size, fun i h1 h2 => (k.block i (Nat.lt_of_lt_of_le h1 h.size) (fun m => h2 (by
    rcases m with m | m
    · exact .inl ((e.mine h1).1 m)
    · exact .inr m))).trans (h.block i h1 h2)⟩
theorem KE.step (h : KE own id kb a b) (hb : Below b.heap.size b c) : KE own id kb a c :=
  ⟨hb.os.trans h.os, hb.tape.trans h.tape, hb.output.trans h.output, Nat.le_trans h.size hb.size, fun i h1 h2 => (hb.block i (Nat.lt_of_lt_of_le h1 h.size)).trans (h.block i h1 h2)⟩
theorem KE.setCell {q i : Nat} {u : Value} (h : KE own id kb a b) (hq : q < a.heap.size → Mine own id q ∨ q = kb) : KE own id kb a (b.setCell ⟨q, i, none⟩ u) :=
  ⟨h.os, h.tape, h.output, by have := h.size; simpa [World.setCell] using this, fun k hk hr => by
    rw [Below.heap_setCell b ⟨q, i, none⟩ u k (fun e => hr (by have e : k = q := e; subst e; exact hq hk))]
    exact h.block k hk hr⟩
theorem KE.grown {row : Option Nat} (h : KE own id kb a b) (k : b.grownBy c row) (hr : ∀ q, row = some q → q < a.heap.size → Mine own id q ∨ q = kb) : KE own id kb a c :=
  ⟨k.os.trans h.os, k.tape.trans h.tape, k.output.trans h.output, Nat.le_trans h.size k.size, fun i h1 h2 => (k.block i (Nat.lt_of_lt_of_le h1 h.size) (fun e => h2 (hr i e.symm h1))).trans (h.block i h1 h2)⟩
theorem KE.same (h : KE own id kb a b) {k : Nat} (hk : k < a.heap.size) (ho : own k = none) (hne : k ≠ kb) : b.heap[k]? = a.heap[k]? :=
  h.block k hk (fun m => by
    rcases m with ⟨t, ht⟩ | m
    · rw [ho] at ht; cases ht
    · exact hne m)
end
theorem GW.ke {own own' : Own} {id kb gb : Nat} {vm rm um : Option Nat} {pt : Nm → PtI} {S : GS} {U : Nm → List Nm} {w w' : World} (h : GW own id gb vm rm um pt S U w) {id2 : Nat} (hne : id2 ≠ id) (k : KE own id2 kb w w') (hk : own kb = none) : GW own id gb vm rm um pt S U w' :=
  h.keep (fun b m => k.block b (h.mine_lt m) fun e => by
    obtain ⟨t, ht⟩ := m
    rcases e with ⟨t2, h2⟩ | e
    · rw [ht] at h2; injection h2 with h2; injection h2 with h2 _; exact hne h2.symm
    · rw [e, hk] at ht; cases ht) k.size
/-- a block gets a tag -/
def tagO (own : Own) (g : Nat) (x : Nat × Tag) : Own := fun b => if b = g then some x else own b
theorem tagO_old {own : Own} {g : Nat} {x y : Nat × Tag} {b : Nat} (hg : own g = none) (h : own b = some y) : tagO own g x b = some y := by
  unfold tagO
  split
  · rename_i e; rw [e, hg] at h; cases h
  · exact h
theorem Rdo.tag {own : Own} {id n g : Nat} {t : Tag} {x : Nat × Tag} {w : World} {A : Option Addr} {xs : List Nm} (h : Rdo own id t w A n xs) (hg : own g = none) : Rdo (tagO own g x) id t w A n xs :=
  ⟨h.1, fun ad e hn => tagO_old hg (h.2 ad e hn)⟩
theorem RAt.tagged {own : Own} {id g : Nat} {p : PtI} {r : RuleS} {x : Nat × Tag} {w : World} (h : RAt own id p r w) (hg : own g = none) : RAt (tagO own g x) id p r w := by
  obtain ⟨iA, im, ic, h1, h2, h3, h4⟩ := h.cells
  exact ⟨tagO_old hg h.tag, iA, im, ic, h1, h2.tag hg, h3, h4.tag hg⟩
theorem GW.tagged {own : Own} {id gb g : Nat} {vm rm um : Option Nat} {pt : Nm → PtI} {S : GS} {U : Nm → List Nm} {w : World} {x : Nat × Tag} (h : GW own id gb vm rm um pt S U w) (hg : own g = none) (hlt : g < w.heap.size) : GW (tagO own g x) id gb vm rm um pt S U w where
  gt := tagO_old hg h.gt
  head := h.head
  v0 := h.v0
  v1 := fun b e => ⟨tagO_old hg (h.v1 b e).1, (h.v1 b e).2⟩
  r0 := h.r0
  r1 := fun b e => ⟨tagO_old hg (h.r1 b e).1, (h.r1 b e).2⟩
  ru := h.ru
  u0 := h.u0
  u1 := fun b e => by
    obtain ⟨h1, kv, h2, h3⟩ := h.u1 b e
    refine ⟨tagO_old hg h1, kv, h2, fun n => ?_⟩
    rcases h3 n with h0 | ⟨v, g1, g2, g3⟩
    · exact .inl h0
    · exact .inr ⟨v, g1, g2, fun b hb => tagO_old hg (g3 b hb)⟩
  rs := fun r hr => (h.rs r hr).tagged hg
  nd := h.nd
  fr := fun b hb => by
    unfold tagO
    rw [if_neg (fun e => by omega)]
    exact h.fr b hb
theorem Ext.tagged {own own1 : Own} {id M g : Nat} {t : Tag} (h : Ext own own1 id M) (hg : M ≤ g) : Ext own (tagO own1 g (id, t)) id M :=
  ⟨fun b hb => by unfold tagO; rw [if_neg (fun e => by omega)]; exact h.old b hb, fun b hb x hx => by
    unfold tagO at hx
    split at hx
    · injection hx with hx; rw [← hx]
    · exact h.new b hb x hx⟩
/-- the rule has been called -/
theorem GW.applied {own : Own} {id gb : Nat} {vm rm um : Option Nat} {pt : Nm → PtI} {S : GS} {U : Nm → List Nm} {w : World} (h : GW own id gb vm rm um pt S U w) {n : Nm} {r : RuleS} (hr : findR S.rules n = some r) (A : Option Addr) (c : Nat) (inn : List Nm) (x : Nm) (e : Nat) (hin : Rdo own id (.inn n) w A inn.length inn) :
    GW own id gb vm rm um pt { S with rules := modR n (fun r => { r with called := true, inn := inn, val := x, e := e }) S.rules } U
      ((((w.setCell ⟨(pt n).p, 2, none⟩ (.bool true)).setCell ⟨(pt n).p, 3, none⟩ (.slice A inn.length c)).setCell ⟨(pt n).p, 4, none⟩ (.string (B x))).setCell ⟨(pt n).p, 5, none⟩ (.int .i64 (e : Int))) := by
  have hat := h.rule hr
  have hnm := (findR_mem hr).2
  have hk : ∀ b t, own b = some (id, t) → t ≠ .rule n → ((((w.setCell ⟨(pt n).p, 2, none⟩ (.bool true)).setCell ⟨(pt n).p, 3, none⟩ (.slice A inn.length c)).setCell ⟨(pt n).p, 4, none⟩ (.string (B x))).setCell ⟨(pt n).p, 5, none⟩ (.int .i64 (e : Int))).heap[b]? = w.heap[b]? := by
    intro b t hb ht
    have hne : b ≠ (pt n).p := fun e' => by subst e'; rw [hat.tag] at hb; injection hb with hb; injection hb with _ hb; exact ht (by rw [← hb, hnm])
    rw [Below.heap_setCell _ _ _ b hne, Below.heap_setCell _ _ _ b hne, Below.heap_setCell _ _ _ b hne, Below.heap_setCell _ _ _ b hne]
  have hs : w.heap.size ≤ ((((w.setCell ⟨(pt n).p, 2, none⟩ (.bool true)).setCell ⟨(pt n).p, 3, none⟩ (.slice A inn.length c)).setCell ⟨(pt n).p, 4, none⟩ (.string (B x))).setCell ⟨(pt n).p, 5, none⟩ (.int .i64 (e : Int))).heap.size := by simp [World.setCell]
  refine h.rset hr _ (fun _ => rfl) ?_ hk hs
  obtain ⟨iA, im, ic, h1, h2, h3, h4⟩ := hat.cells
  refine ⟨hat.tag, A, inn.length, c, by simp [World.setCell, Array.getElem?_modify, h1], h2.keepT (fun b e => hk b _ e (by simp)) hs, h3, ?_⟩
  simp only [hnm]
  exact hin.keepT (fun b e => hk b _ e (by simp)) hs
end Go.Proofs.Ytbikldmhfaecpaa
