/-
  Layer 48 (graph): a law's graph beside other blocks; two graphs; rows of calls.
-/
import Derived.Test.YtbikldmhfaecpaaGrOr
namespace Go.Proofs.Ytbikldmhfaecpaa
open Go.RowKit
set_option linter.unusedVariables false
set_option linter.unusedSimpArgs false
attribute [local go_sem] B_data B_size

/-- a graph of a law's own, apart from the blocks X -/
def GX (id gb : Nat) (S : GS) (w0 w : World) (X : Nat → Prop) : Prop := ∃ own, Gr own id gb S w ∧ Below w0.heap.size w0 w ∧ (∀ b, Mine own id b → w0.heap.size ≤ b) ∧ ∀ b, X b → b < w.heap.size ∧ ¬ Mine own id b
def KX (X : Nat → Prop) (w w' : World) : Prop := (∀ b, X b → w'.heap[b]? = w.heap[b]?) ∧ w.heap.size ≤ w'.heap.size
theorem Gr.mine_lt {own : Own} {id gb : Nat} {S : GS} {w : World} (h : Gr own id gb S w) {b : Nat} (hb : Mine own id b) : b < w.heap.size := by obtain ⟨_, _, _, _, _, h, _⟩ := h; exact h.mine_lt hb
theorem Gr.keep {own : Own} {id gb : Nat} {S : GS} {w w' : World} (h : Gr own id gb S w) (hk : ∀ b, Mine own id b → w'.heap[b]? = w.heap[b]?) (hs : w.heap.size ≤ w'.heap.size) : Gr own id gb S w' := by
  obtain ⟨vm, rm, um, pt, U, h1, h2⟩ := h
  exact ⟨vm, rm, um, pt, U, h1.keep hk hs, h2⟩
theorem GX.b {id gb : Nat} {S : GS} {w0 w : World} {X : Nat → Prop} (h : GX id gb S w0 w X) : Below w0.heap.size w0 w := by obtain ⟨_, _, h, _⟩ := h; exact h
theorem GX.lt {id gb : Nat} {S : GS} {w0 w : World} {X : Nat → Prop} (h : GX id gb S w0 w X) {b : Nat} (hb : X b) : b < w.heap.size := by obtain ⟨_, _, _, _, h⟩ := h; exact (h b hb).1
theorem GX.weak {id gb : Nat} {S : GS} {w0 w : World} {X Y : Nat → Prop} (h : GX id gb S w0 w X) (hY : ∀ b, Y b → X b) : GX id gb S w0 w Y := by
  obtain ⟨own, h1, h2, h3, h4⟩ := h
  exact ⟨own, h1, h2, h3, fun b hb => h4 b (hY b hb)⟩
theorem GX.grown {id gb : Nat} {S : GS} {w0 w w' : World} {X : Nat → Prop} {row : Option Nat} (h : GX id gb S w0 w X) (hg : w.grownBy w' row) (hr : ∀ q, row = some q → X q) (hb : Below w0.heap.size w0 w') : GX id gb S w0 w' (fun b => X b ∨ (w.heap.size ≤ b ∧ b < w'.heap.size)) := by
  obtain ⟨own, h1, h2, h3, h4⟩ := h
  refine ⟨own, h1.keep (fun b hm => hg.block b (h1.mine_lt hm) (fun e => (h4 b (hr b e.symm)).2 hm)) hg.size, hb, h3, fun b hx => ?_⟩
  rcases hx with hx | ⟨hx1, hx2⟩
  · exact ⟨Nat.lt_of_lt_of_le (h4 b hx).1 hg.size, (h4 b hx).2⟩
  · exact ⟨hx2, fun hm => by have := h1.mine_lt hm; omega⟩
theorem GX.below {id gb : Nat} {S : GS} {w0 w w' : World} {X : Nat → Prop} (h : GX id gb S w0 w X) (hb : Below w.heap.size w w') : GX id gb S w0 w' X := by
  have hs : w0.heap.size ≤ w.heap.size := h.b.size
  exact (h.grown (grown_of_below hb none) (fun q e => by cases e) (h.b.trans (hb.mono hs))).weak fun b hx => .inl hx
theorem GX.alloc {id gb : Nat} {S : GS} {w0 w : World} {X : Nat → Prop} (h : GX id gb S w0 w X) (o : Obj) : GX id gb S w0 (w.alloc o) (fun b => X b ∨ b = w.heap.size) := by
  have hs : w0.heap.size ≤ w.heap.size := h.b.size
  exact (h.grown (grown_of_below (below_alloc w o) none) (fun q e => by cases e) (h.b.trans ((below_alloc w o).mono hs))).weak fun b hx => by
    rcases hx with hx | hx
    · exact .inl hx
    · subst hx; exact .inr ⟨Nat.le_refl _, by simp⟩
theorem GPost.gx {own : Own} {id gb : Nat} {S S' : GS} {v : Value} {w0 w w' : World} {e : Ending} {X : Nat → Prop} (h : GPost own id gb S' v w e w') (hb : Below w0.heap.size w0 w) (hm : ∀ b, Mine own id b → w0.heap.size ≤ b) (hX : ∀ b, X b → b < w.heap.size ∧ ¬ Mine own id b) : e = .returned v ∧ GX id gb S' w0 w' X ∧ KX X w w' := by
  obtain ⟨h1, own', h2, h3, h4⟩ := h
  refine ⟨h1, ⟨own', h3, hb.trans (h4.below hb.size hm), fun b hm' => ?_, fun b hx => ⟨Nat.lt_of_lt_of_le (hX b hx).1 h4.size, fun hm' => (hX b hx).2 ((h2.mine (hX b hx).1).1 hm')⟩⟩, fun b hx => h4.block b (hX b hx).1 (hX b hx).2, h4.size⟩
  rcases Nat.lt_or_ge b w.heap.size with hl | hl
  · exact hm b ((h2.mine hl).1 hm')
  · have := hb.size; omega
section
variable {id gb R : Nat} {S : GS} {w0 w : World} {X : Nat → Prop}
theorem GX.set (h : GX id gb S w0 w X) (hi : GI R S) (hc : S.changes ≤ 1000000) (n v : Nm) :
    Calls Try.prog 13 #[.pointer (some ⟨gb, 0, none⟩), .string (B n), .string (B v)] w fun e w' => e = .returned (.int .i64 ((setX S n v).1 : Int)) ∧ GX id gb (setX S n v).2 w0 w' X ∧ KX X w w' := by
  obtain ⟨own, h1, h2, h3, h4⟩ := h
  exact (set_any n v w h1 hi hc).mono fun e w' hp => hp.gx (S := S) h2 h3 h4
theorem GX.get (h : GX id gb S w0 w X) (hi : GI R S) (hR : R ≤ 1000000) (n : Nm) :
    Calls Try.prog 17 #[.pointer (some ⟨gb, 0, none⟩), .string (B n)] w fun e w' => e = .returned (ResV (getX S n).2) ∧ GX id gb (getX S n).1 w0 w' X ∧ KX X w w' := by
  obtain ⟨own, h1, h2, h3, h4⟩ := h
  exact (get_any n w h1 hi hR).mono fun e w' hp => hp.gx (S := S) h2 h3 h4
theorem GX.ruleIn {m c : Nat} {A : Option Addr} {needs : List Nm} (h : GX id gb S w0 w X) (hi : GI R S) (hc : S.changes ≤ 1000000) (n : Nm) (fo : Option Nat) (hr : Rd w0 w0.heap.size 1 A m (strs needs)) (hm : m ≤ 1000000) (hmc : m ≤ c) :
    Calls Try.prog 24 #[.pointer (some ⟨gb, 0, none⟩), .string (B n), .slice A m c, fnO fo] w fun e w' => e = .returned (.int .i64 ((ruleX S n needs fo).1 : Int)) ∧ GX id gb (ruleX S n needs fo).2 w0 w' X ∧ KX X w w' := by
  obtain ⟨own, h1, h2, h3, h4⟩ := h
  refine (rule_any n needs fo A m c w h1 hi hc ⟨(hr.below h2).more h2.size, fun ad e hm0 hmi => ?_, hmc⟩ hm).mono fun e w' hp => hp.gx (S := S) h2 h3 h4
  obtain ⟨ad', e', hb, _⟩ := hr.2 hm0
  rw [e] at e'; injection e' with e'; subst e'
  have := h3 _ hmi
  omega
theorem GX.ruleOp (h : GX id gb S w0 w X) (hi : GI R S) (hc : S.changes ≤ 1000000) (o : OpR) (hr : Rd w0 w0.heap.size 1 o.A o.na (strs o.nd)) (hm : o.na ≤ 1000000) (hmc : o.na ≤ o.ca) :
    Calls Try.prog 15 #[.pointer (some ⟨gb, 0, none⟩), .agg #[.int .i64 o.K, .string (B o.nm), .string (B o.vl), .slice o.A o.na o.ca, .int .i64 o.F]] w fun e w' => e = .returned (.int .i64 ((ruleX S o.nm o.nd (foI o.F)).1 : Int)) ∧ GX id gb (ruleX S o.nm o.nd (foI o.F)).2 w0 w' X ∧ KX X w w' := by
  have hl := fun b hb => h.lt (b := b) hb
  refine ruleOp_gen o ((GX.ruleIn (h.below (below_alloc w _)) hi hc o.nm (foI o.F) hr hm hmc).mono fun e w' hp => ⟨hp.1, hp.2.1, fun b hb => (hp.2.2.1 b hb).trans ((below_alloc w _).block b (hl b hb)), Nat.le_trans (below_alloc w _).size hp.2.2.2⟩)
theorem GX.new (id : Nat) {w0 w : World} (hb : Below w0.heap.size w0 w) : GX id w.heap.size GS.new w0 (w.alloc (.cells #[.map none, .map none, .map none, .int .i64 0, .int .i64 0] 49)) (fun b => b < w.heap.size) := by
  refine ⟨_, Gr.new (own := fun _ => none) w (fun _ _ => rfl), hb.alloc hb.size _, fun b hm => ?_, fun b hx => ⟨by simp; omega, fun hm => ?_⟩⟩
  · obtain ⟨t, ht⟩ := hm
    unfold tagO at ht
    split at ht
    · rename_i e; rw [e]; exact hb.size
    · cases ht
  · obtain ⟨t, ht⟩ := hm
    unfold tagO at ht
    split at ht
    · rename_i e; omega
    · cases ht
end
/-- two graphs of a law's own, apart from each other and from the blocks X -/
def W2 (ga gb : Nat) (S T : GS) (w0 w : World) (X : Nat → Prop) : Prop :=
  ∃ own, Gr own 0 gb T w ∧ GX 0 ga S w0 w (fun b => X b ∨ Mine own 0 b) ∧ (∀ b, Mine own 0 b → w0.heap.size ≤ b) ∧ ∀ b, X b → ¬ Mine own 0 b
section
variable {ga gb R : Nat} {S T : GS} {w0 w : World} {X : Nat → Prop}
theorem W2.swap (h : W2 ga gb S T w0 w X) : W2 gb ga T S w0 w X := by
  obtain ⟨o1, h1, ⟨o0, a1, a2, a3, a4⟩, h3, h4⟩ := h
  exact ⟨o0, a1, ⟨o1, h1, a2, h3, fun b hb => by
    rcases hb with hb | hb
    · exact ⟨(a4 b (.inl hb)).1, h4 b hb⟩
    · exact ⟨a1.mine_lt hb, fun hm => (a4 b (.inr hm)).2 hb⟩⟩, a3, fun b hb => (a4 b (.inl hb)).2⟩
theorem W2.gx (h : W2 ga gb S T w0 w X) : GX 0 ga S w0 w X := by
  obtain ⟨_, _, h, _⟩ := h; exact h.weak fun b hb => .inl hb
theorem W2.b (h : W2 ga gb S T w0 w X) : Below w0.heap.size w0 w := h.gx.b
theorem W2.weak {Y : Nat → Prop} (h : W2 ga gb S T w0 w X) (hY : ∀ b, Y b → X b) : W2 ga gb S T w0 w Y := by
  obtain ⟨o1, h1, h2, h3, h4⟩ := h
  exact ⟨o1, h1, h2.weak fun b hb => by rcases hb with hb | hb; exact .inl (hY b hb); exact .inr hb, h3, fun b hb => h4 b (hY b hb)⟩
theorem W2.grown {w' : World} {row : Option Nat} (h : W2 ga gb S T w0 w X) (hg : w.grownBy w' row) (hr : ∀ q, row = some q → X q) (hb : Below w0.heap.size w0 w') : W2 ga gb S T w0 w' (fun b => X b ∨ (w.heap.size ≤ b ∧ b < w'.heap.size)) := by
  obtain ⟨o1, h1, h2, h3, h4⟩ := h
  refine ⟨o1, h1.keep (fun b hm => hg.block b (h1.mine_lt hm) (fun e => h4 b (hr b e.symm) hm)) hg.size, (h2.grown hg (fun q e => .inl (hr q e)) hb).weak fun b hx => ?_, h3, fun b hx hm => ?_⟩
  · rcases hx with (hx | hx) | hx
    · exact .inl (.inl hx)
    · exact .inr hx
    · exact .inl (.inr hx)
  · rcases hx with hx | ⟨hx, _⟩
    · exact h4 b hx hm
    · have := h1.mine_lt hm; omega
theorem W2.below {w' : World} (h : W2 ga gb S T w0 w X) (hb : Below w.heap.size w w') : W2 ga gb S T w0 w' X :=
  (h.grown (grown_of_below hb none) (fun q e => by cases e) (h.b.trans (hb.mono h.b.size))).weak fun b hx => .inl hx
theorem W2.alloc (h : W2 ga gb S T w0 w X) (o : Obj) : W2 ga gb S T w0 (w.alloc o) (fun b => X b ∨ b = w.heap.size) :=
  (h.grown (grown_of_below (below_alloc w o) none) (fun q e => by cases e) (h.b.trans ((below_alloc w o).mono h.b.size))).weak fun b hx => by
    rcases hx with hx | hx
    · exact .inl hx
    · subst hx; exact .inr ⟨Nat.le_refl _, by simp⟩
theorem W2.back {own : Own} {S' : GS} {w' : World} (h1 : Gr own 0 gb T w) (h3 : ∀ b, Mine own 0 b → w0.heap.size ≤ b) (h4 : ∀ b, X b → ¬ Mine own 0 b) (g : GX 0 ga S' w0 w' (fun b => X b ∨ Mine own 0 b)) (k : KX (fun b => X b ∨ Mine own 0 b) w w') : W2 ga gb S' T w0 w' X ∧ KX X w w' :=
  ⟨⟨own, h1.keep (fun b hm => k.1 b (.inr hm)) k.2, g, h3, h4⟩, fun b hb => k.1 b (.inl hb), k.2⟩
theorem W2.set (h : W2 ga gb S T w0 w X) (hi : GI R S) (hc : S.changes ≤ 1000000) (n v : Nm) :
    Calls Try.prog 13 #[.pointer (some ⟨ga, 0, none⟩), .string (B n), .string (B v)] w fun e w' => e = .returned (.int .i64 ((setX S n v).1 : Int)) ∧ W2 ga gb (setX S n v).2 T w0 w' X ∧ KX X w w' := by
  obtain ⟨o1, h1, h2, h3, h4⟩ := h
  exact (h2.set hi hc n v).mono fun e w' hp => ⟨hp.1, W2.back h1 h3 h4 hp.2.1 hp.2.2⟩
theorem W2.get (h : W2 ga gb S T w0 w X) (hi : GI R S) (hR : R ≤ 1000000) (n : Nm) :
    Calls Try.prog 17 #[.pointer (some ⟨ga, 0, none⟩), .string (B n)] w fun e w' => e = .returned (ResV (getX S n).2) ∧ W2 ga gb (getX S n).1 T w0 w' X ∧ KX X w w' := by
  obtain ⟨o1, h1, h2, h3, h4⟩ := h
  exact (h2.get hi hR n).mono fun e w' hp => ⟨hp.1, W2.back h1 h3 h4 hp.2.1 hp.2.2⟩
theorem W2.ruleOp (h : W2 ga gb S T w0 w X) (hi : GI R S) (hc : S.changes ≤ 1000000) (o : OpR) (hr : Rd w0 w0.heap.size 1 o.A o.na (strs o.nd)) (hm : o.na ≤ 1000000) (hmc : o.na ≤ o.ca) :
    Calls Try.prog 15 #[.pointer (some ⟨ga, 0, none⟩), .agg #[.int .i64 o.K, .string (B o.nm), .string (B o.vl), .slice o.A o.na o.ca, .int .i64 o.F]] w fun e w' => e = .returned (.int .i64 ((ruleX S o.nm o.nd (foI o.F)).1 : Int)) ∧ W2 ga gb (ruleX S o.nm o.nd (foI o.F)).2 T w0 w' X ∧ KX X w w' := by
  obtain ⟨o1, h1, h2, h3, h4⟩ := h
  exact (h2.ruleOp hi hc o hr hm hmc).mono fun e w' hp => ⟨hp.1, W2.back h1 h3 h4 hp.2.1 hp.2.2⟩
end
theorem W2.new {w0 w : World} (hb : Below w0.heap.size w0 w) :
    W2 w.heap.size (w.heap.size + 1) GS.new GS.new w0 ((w.alloc (.cells #[.map none, .map none, .map none, .int .i64 0, .int .i64 0] 49)).alloc (.cells #[.map none, .map none, .map none, .int .i64 0, .int .i64 0] 49)) (fun _ => False) := by
  have hn : ∀ b, Mine (tagO (fun _ => none) w.heap.size (0, .g)) 0 b → b = w.heap.size := fun b ⟨t, ht⟩ => by
    unfold tagO at ht
    split at ht
    · assumption
    · cases ht
  have h1 := Gr.new (own := fun _ => none) (id := 0) w (fun _ _ => rfl)
  have h2 := GX.new 0 (hb.alloc hb.size (.cells #[.map none, .map none, .map none, .int .i64 0, .int .i64 0] 49))
  refine W2.swap ⟨_, h1.below (below_alloc _ _), ?_, fun b hm => by rw [hn b hm]; exact hb.size, fun b hb => hb.elim⟩
  have e : (w.alloc (.cells #[.map none, .map none, .map none, .int .i64 0, .int .i64 0] 49)).heap.size = w.heap.size + 1 := by simp
  rw [e] at h2
  exact h2.weak fun b hx => by
    rcases hx with hx | hx
    · exact hx.elim
    · rw [hn b hx]; exact Nat.lt_succ_self _
theorem infoOp : (Try.prog.info? 31).map (fun i => (i.zero, i.size, i.bytes)) = some (some (.agg #[.int .i64 0, .string ⟨#[]⟩, .string ⟨#[]⟩, .slice none 0 0, .int .i64 0]), 5, 72) := by kernel_rfl
/-- a call appended to a row of the law's own -/
theorem wpList_appO {ops : Array Oper} {rest : List Oper} {o : Oper} {a : Act} {Q : Exit → Act → World → Prop} (hgd : o.guard = none) (s x : Operand)
    (ho : o.op = .call { callee := .builtin .append, args := #[s, x], argTypes := #[22, 22] }) (wr : World) (p : OpR)
    (base : Nat) (v : Value) (n : Nat) (xs : List Value) (hown : wr.ownsRow base 31 5 v n xs) (hs : a.eval s = v) (hx : a.eval x = .slice (some ⟨wr.heap.size, 0, none⟩) 1 1) (hn : n + 1 ≤ 1099511627776) (hbase : base ≤ wr.heap.size)
    (h : ∀ g cap w', w'.ownsRow base 31 5 (.slice (some ⟨g, 0, none⟩) (n + 1) cap) (n + 1) (xs ++ opF p) → wr.grownBy w' v.ownBlock → Below base wr w' → (v.ownBlock = some g ∨ wr.heap.size ≤ g) → g < w'.heap.size → wpList Try.prog ops Q rest (a.put o.dst (.slice (some ⟨g, 0, none⟩) (n + 1) cap)) w') :
    wpList Try.prog ops Q (o :: rest) a (wr.alloc (.cells #[.int .i64 p.K, .string (B p.nm), .string (B p.vl), .slice p.A p.na p.ca, .int .i64 p.F] 31)) := by
  obtain ⟨i0, hi, hz0, hz1, hz2⟩ := info_parts infoOp
  refine wpList_append_lies _ hgd s x 22 ho base 31 i0 _ 5 72 Try.underlying22 hi hz0 hz1 hz2 rfl (by omega) v n xs hs (hown.alloc _) ⟨wr.heap.size, 0, none⟩ 1 1 (opF p) hx rfl ?_ (by simp [opF]; exact ⟨rfl, rfl, rfl, rfl, rfl⟩) (by omega) (by simp only [maxLen]; omega) (by omega) (by simp; omega) (wr.heap.size + 1) (by simp) ?_
  · intro j u hj
    rw [addr_lit, cell_of_row (wr.alloc (.cells #[.int .i64 p.K, .string (B p.nm), .string (B p.vl), .slice p.A p.na p.ca, .int .i64 p.F] 31)) wr.heap.size _ #[.int .i64 p.K, .string (B p.nm), .string (B p.vl), .slice p.A p.na p.ca, .int .i64 p.F] 31 (0, 0) (heap_alloc_new wr _)]
    simpa [opF] using hj
  · intro g cap w' h1 h2 h3 h4
    have hg : wr.grownBy w' v.ownBlock := grown_trans (World.grownBy_alloc wr _ _) h2
    exact h g cap w' h1 hg (below_of_grown hg hbase fun k hk => (hown.lt k hk).1) (by rcases h3 with h3 | h3; exact .inl h3; exact .inr (by omega)) h4
theorem own_kept {w w' : World} {base e sz n : Nat} {v : Value} {xs : List Value} (h : w.ownsRow base e sz v n xs) (hk : ∀ b, v.ownBlock = some b → w'.heap[b]? = w.heap[b]?) : w'.ownsRow base e sz v n xs := by
  refine ⟨h.1, ?_⟩
  rcases h.2 with h0 | ⟨g, cap, cur, rfl, h2, h3, h4⟩
  · exact .inl h0
  · exact .inr ⟨g, cap, cur, rfl, h2, (hk g rfl).trans h3, h4⟩
end Go.Proofs.Ytbikldmhfaecpaa
