/-
  Layer 40 (page), the chapter's: a page's state in its block; placed.
-/
import Derived.Test.YtpgpkgpiengmkaaDoorPgRf
import Derived.Laws.CopyOwn
import Derived.StillTailTactics
namespace Go.Proofs.YtpgpkgpiengmkaaDoor
open Go.RowKit
set_option linter.unusedVariables false
set_option linter.unusedSimpArgs false
attribute [local go_sem] B_data B_size

theorem ne_fi : 55 ≠ 3 := by decide
section
variable {q i : Nat} {vP vB vW u vP' vB' vW' : Value} {ht f p x ht' f' p' : Int} {W W' : World}
theorem FX.row (h : FX q vP vB ht f vW p W) : FX q vP' vB' ht' f' vW' p' (W.setRow q #[vP', vB', .int .i64 ht', .int .i64 f', vW', .int .i64 p']) := by
  unfold FX at *
  exact setRow_heap _ _ _ _ _ _ h
theorem FX.rowO {k : Nat} (h : FX q vP vB ht f vW p W) (hk : q ≠ k) (cs : Array Value) : FX q vP vB ht f vW p (W.setRow k cs) := by
  unfold FX at *
  rw [setRow_other W k q cs hk]
  exact h
theorem FX.drewn (h : FX q vP vB ht f vW p W) : FX q vP vB ht f vW p W.drew := h
theorem FX.bl (h : FX q vP vB ht f vW p W) : W.heap[q]? = some (.cells #[vP, vB, .int .i64 ht, .int .i64 f, vW, .int .i64 p] 55 (0, 0)) := h
end
theorem Kpt.setRow {R : Nat → Prop} {a b : World} {q : Nat} (h : Kpt R a b) (hq : q < a.heap.size → R q) (cs : Array Value) : Kpt R a (b.setRow q cs) :=
  ⟨h.os, h.tape, h.output, by have := h.size; simpa [World.setRow] using this, fun k hk hr => by
    rw [setRow_other b q k cs (fun e => hr (by subst e; exact hq hk))]
    exact h.block k hk hr⟩
theorem WRow.cnt {W : World} {base m c : Nat} {A : Option Addr} {xs : List Nat} (h : WRow W base (.slice A m c) (nints xs)) : m = xs.length := by
  obtain ⟨_, _, e, _⟩ := h.form
  injection e with _ e2
  rw [e2, nints_len]
/-- the value of a page's state -/
def XF (base : Nat) (P0 : Option Addr) (np cp : Nat) (bx : List Nat) (ht f : Int) (wt : List Nat) (p : Int) (v : Value) (w : World) : Prop :=
  ∃ B nb cb W nw cw, v = .agg #[.slice P0 np cp, .slice B nb cb, .int .i64 ht, .int .i64 f, .slice W nw cw, .int .i64 p] ∧ WRow w base (.slice B nb cb) (nints bx) ∧ WRow w base (.slice W nw cw) (nints wt)
def XPost (base : Nat) (P0 : Option Addr) (np cp : Nat) (bx : List Nat) (ht f : Int) (wt : List Nat) (p : Int) (w : World) (e : Ending) (w' : World) : Prop :=
  ∃ v, e = .returned v ∧ XF base P0 np cp bx ht f wt p v w' ∧ Below w.heap.size w w'
/-- the state in its block q, the result's block q + 1 -/
structure XS (q base : Nat) (P0 : Option Addr) (np cp : Nat) (B : Option Addr) (nb cb : Nat) (ht f : Int) (W : Option Addr) (nw cw : Nat) (p : Int) (bx wt : List Nat) (w wr : World) : Prop where
  fx : FX q (.slice P0 np cp) (.slice B nb cb) ht f (.slice W nw cw) p wr
  fr : FX (q + 1) (.slice none 0 0) (.slice none 0 0) 0 0 (.slice none 0 0) 0 wr
  rb : WRow wr base (.slice B nb cb) (nints bx)
  rw : WRow wr base (.slice W nw cw) (nints wt)
  b : Below w.heap.size w wr
  q0 : w.heap.size ≤ q
section
variable {q base np cp nb cb nw cw : Nat} {P0 B W : Option Addr} {ht f p : Int} {bx wt : List Nat} {w wr w3 : World}
/-- the two blocks, made -/
theorem XS.new (hB : WRow w base (.slice B nb cb) (nints bx)) (hW : WRow w base (.slice W nw cw) (nints wt)) :
    XS w.heap.size base P0 np cp B nb cb ht f W nw cw p bx wt w ((w.alloc (.cells #[.slice P0 np cp, .slice B nb cb, .int .i64 ht, .int .i64 f, .slice W nw cw, .int .i64 p] 55)).alloc (.cells #[.slice none 0 0, .slice none 0 0, .int .i64 0, .int .i64 0, .slice none 0 0, .int .i64 0] 55)) := by
  have h1 := below_alloc w (.cells #[.slice P0 np cp, .slice B nb cb, .int .i64 ht, .int .i64 f, .slice W nw cw, .int .i64 p] 55)
  have h2 := below_alloc (w.alloc (.cells #[.slice P0 np cp, .slice B nb cb, .int .i64 ht, .int .i64 f, .slice W nw cw, .int .i64 p] 55)) (.cells #[.slice none 0 0, .slice none 0 0, .int .i64 0, .int .i64 0, .slice none 0 0, .int .i64 0] 55)
  exact ⟨(show FX w.heap.size _ _ _ _ _ _ _ from heap_alloc_new w _).step h2, heap_alloc2_new w _ _, (hB.step h1).step h2, (hW.step h1).step h2, h1.trans (h2.mono h1.size), Nat.le_refl _⟩
theorem XS.step (h : XS q base P0 np cp B nb cb ht f W nw cw p bx wt w wr) (hb : Below wr.heap.size wr w3) : XS q base P0 np cp B nb cb ht f W nw cw p bx wt w w3 :=
  ⟨h.fx.step hb, h.fr.step hb, h.rb.step hb, h.rw.step hb, h.b.trans (hb.mono h.b.size), h.q0⟩
theorem XS.nB (h : XS q base P0 np cp B nb cb ht f W nw cw p bx wt w wr) : (Value.slice B nb cb).ownBlock ≠ some q ∧ (Value.slice B nb cb).ownBlock ≠ some (q + 1) := ⟨h.rb.ne h.fx ne_fi, h.rb.ne h.fr ne_fi⟩
theorem XS.nW (h : XS q base P0 np cp B nb cb ht f W nw cw p bx wt w wr) : (Value.slice W nw cw).ownBlock ≠ some q ∧ (Value.slice W nw cw).ownBlock ≠ some (q + 1) := ⟨h.rw.ne h.fx ne_fi, h.rw.ne h.fr ne_fi⟩
/-- the whole state is another one -/
theorem XS.row {np' cp' nb' cb' nw' cw' : Nat} {P' B' W' : Option Addr} {ht' f' p' : Int} {bx' wt' : List Nat} (h : XS q base P0 np cp B nb cb ht f W nw cw p bx wt w wr) (hB : WRow wr base (.slice B' nb' cb') (nints bx')) (hW : WRow wr base (.slice W' nw' cw') (nints wt')) :
    XS q base P' np' cp' B' nb' cb' ht' f' W' nw' cw' p' bx' wt' w (wr.setRow q #[.slice P' np' cp', .slice B' nb' cb', .int .i64 ht', .int .i64 f', .slice W' nw' cw', .int .i64 p']) := by
  have hk : Kpt (fun k => k = q) wr (wr.setRow q #[.slice P' np' cp', .slice B' nb' cb', .int .i64 ht', .int .i64 f', .slice W' nw' cw', .int .i64 p']) := (Kpt.refl (fun k => k = q) _).setRow (fun _ => rfl) _
  have n1 := hB.ne h.fx ne_fi
  have n2 := hW.ne h.fx ne_fi
  exact ⟨h.fx.row, h.fr.keep hk (by omega), hB.keep hk (fun k e e2 => n1 (by rw [e, e2])), hW.keep hk (fun k e e2 => n2 (by rw [e, e2])), below_setRow h.b h.q0 _, h.q0⟩
theorem XS.drewn (h : XS q base P0 np cp B nb cb ht f W nw cw p bx wt w wr) : XS q base P0 np cp B nb cb ht f W nw cw p bx wt w wr.drew := ⟨h.fx, h.fr, (h.rb.keep ((Kpt.refl (fun _ => False) wr).drew) (fun _ _ e => e)), (h.rw.keep ((Kpt.refl (fun _ => False) wr).drew) (fun _ _ e => e)), h.b.drew, h.q0⟩
/-- a cell of the state is another one -/
theorem XS.cell {np' cp' nb' cb' nw' cw' i : Nat} {P' B' W' : Option Addr} {ht' f' p' : Int} {bx' wt' : List Nat} {u : Value} (h : XS q base P0 np cp B nb cb ht f W nw cw p bx wt w wr) (hf : FX q (.slice P' np' cp') (.slice B' nb' cb') ht' f' (.slice W' nw' cw') p' (wr.setCell ⟨q, i, none⟩ u)) (hB : WRow wr base (.slice B' nb' cb') (nints bx')) (hW : WRow wr base (.slice W' nw' cw') (nints wt')) :
    XS q base P' np' cp' B' nb' cb' ht' f' W' nw' cw' p' bx' wt' w (wr.setCell ⟨q, i, none⟩ u) := by
  have hk : Kpt (fun k => k = q) wr (wr.setCell ⟨q, i, none⟩ u) := (Kpt.refl (fun k => k = q) _).setCell (fun _ => rfl)
  have n1 := hB.ne h.fx ne_fi
  have n2 := hW.ne h.fx ne_fi
  have q0 := h.q0
  have hs := h.b.size
  exact ⟨hf, h.fr.keep hk (by omega), hB.keep hk (fun k e e2 => n1 (by rw [e, e2])), hW.keep hk (fun k e e2 => n2 (by rw [e, e2])), h.b.setCell (p := ⟨q, i, none⟩) q0 u, q0⟩
/-- what is returned -/
theorem XS.fin (h : XS q base P0 np cp B nb cb ht f W nw cw p bx wt w wr) :
    (wr.setRow (q + 1) #[.slice P0 np cp, .slice B nb cb, .int .i64 ht, .int .i64 f, .slice W nw cw, .int .i64 p]).heap[q + 1]? = some (.cells #[.slice P0 np cp, .slice B nb cb, .int .i64 ht, .int .i64 f, .slice W nw cw, .int .i64 p] 55 (0, 0)) ∧
    XPost base P0 np cp bx ht f wt p w (.returned (.agg #[.slice P0 np cp, .slice B nb cb, .int .i64 ht, .int .i64 f, .slice W nw cw, .int .i64 p])) (wr.setRow (q + 1) #[.slice P0 np cp, .slice B nb cb, .int .i64 ht, .int .i64 f, .slice W nw cw, .int .i64 p]) := by
  have hk : Kpt (fun k => k = q + 1) wr (wr.setRow (q + 1) #[.slice P0 np cp, .slice B nb cb, .int .i64 ht, .int .i64 f, .slice W nw cw, .int .i64 p]) := (Kpt.refl (fun k => k = q + 1) _).setRow (fun _ => rfl) _
  have q0 := h.q0
  exact ⟨h.fr.row (vP' := .slice P0 np cp), _, rfl, ⟨_, _, _, _, _, _, rfl, h.rb.keep hk (fun k e e2 => h.nB.2 (by rw [e, e2])), h.rw.keep hk (fun k e e2 => h.nW.2 (by rw [e, e2]))⟩, below_setRow h.b (by omega) _⟩
end
/-- a whole state stored -/
theorem wpList_fx {ops : Array Oper} {rest : List Oper} {o : Oper} {a : Act} {Q : Exit → Act → World → Prop} (hgd : o.guard = none) (x y : Operand) (ho : o.op = .store 55 x y)
    (w : World) (q : Nat) {vP vB vW : Value} {ht0 f0 p0 : Int} (hq : FX q vP vB ht0 f0 vW p0 w) (P0 : Option Addr) (np cp : Nat) (B : Option Addr) (nb cb : Nat) (ht f : Int) (W : Option Addr) (nw cw : Nat) (p : Int)
    (hx : a.eval x = .pointer (some ⟨q, 0, none⟩)) (hy : a.eval y = .agg #[.slice P0 np cp, .slice B nb cb, .int .i64 ht, .int .i64 f, .slice W nw cw, .int .i64 p])
    (h : wpList Tryd.prog ops Q rest (a.put o.dst undef) (w.setRow q #[.slice P0 np cp, .slice B nb cb, .int .i64 ht, .int .i64 f, .slice W nw cw, .int .i64 p])) : wpList Tryd.prog ops Q (o :: rest) a w :=
  wpList_store_row hgd 55 x y ho q #[.slice P0 np cp, .slice B nb cb, .int .i64 ht, .int .i64 f, .slice W nw cw, .int .i64 p] hx hy _ _ hq.bl (by kernel_rfl) rfl (by kernel_rfl) h
set_option maxHeartbeats 4000000 in
set_option maxRecDepth 100000 in
theorem rplaced_any (A : Option Addr) (n c M : Nat) (l : List Bx) (i : Nat) (b : Bx) (base : Nat) (P0 : Option Addr) (np cp : Nat) (B0 : Option Addr) (nb cb : Nat) (W0 : Option Addr) (nw cw : Nat) (bx wt : List Nat) (ht f p : Int) (w : World)
    (hx : BxAt w M A n l) (hM : M ≤ w.heap.size) (hi : l[i]? = some b) (hbase : base ≤ w.heap.size) (hB : WRow w base (.slice B0 nb cb) (nints bx)) (hW : WRow w base (.slice W0 nw cw) (nints wt)) (hn : bx.length ≤ 1000) (h0 : 0 ≤ ht) (h1 : ht ≤ 1099511627776) (h2 : 0 ≤ b.h) (h3 : b.h ≤ 1048576) :
    Calls Tryd.prog 48 #[.slice A n c, .agg #[.slice P0 np cp, .slice B0 nb cb, .int .i64 ht, .int .i64 f, .slice W0 nw cw, .int .i64 p], .int .i64 i] w (XPost base P0 np cp (bx ++ [i]) (ht + b.h) f wt p w) := by
  have HL := Lib.hid hx.len
  have hin : i < n := by rw [← HL.out]; exact (List.getElem?_eq_some_iff.1 hi).1
  have i1 : (0 : Int) ≤ (i : Int) := by omega
  have i2 : (i : Int) < (n : Int) := by omega
  have hnb := hB.cnt
  subst hnb
  have HS := Lib.hid (XS.new (P0 := P0) (np := np) (cp := cp) (ht := ht) (f := f) (p := p) hB hW)
  have hsz : ((w.alloc (.cells #[.slice P0 np cp, .slice B0 bx.length cb, .int .i64 ht, .int .i64 f, .slice W0 nw cw, .int .i64 p] 55)).alloc (.cells #[.slice none 0 0, .slice none 0 0, .int .i64 0, .int .i64 0, .slice none 0 0, .int .i64 0] 55)).heap.size = w.heap.size + 2 := by simp
  have d1 := HS.out.fx.c1
  have hw : IntKind.i64.wrap (ht + b.h) = ht + b.h := wrap_in (by omega) (by omega)
  clear hB hW
  go_enter Tryd.func48, Tryd.ntmps48
  obtain ⟨A9, c9, e9, hrd⟩ := HS.out.rb.form
  injection e9 with e91 e92 e93
  subst e91 e93
  rw [nints_len] at hrd
  clear e92
  have hst := below_alloc ((w.alloc (.cells #[.slice P0 np cp, .slice B0 bx.length cb, .int .i64 ht, .int .i64 f, .slice W0 nw cw, .int .i64 p] 55)).alloc (.cells #[.slice none 0 0, .slice none 0 0, .int .i64 0, .int .i64 0, .slice none 0 0, .int .i64 0] 55)) (.cells #[] 3)
  have hE := own_lit ((w.alloc (.cells #[.slice P0 np cp, .slice B0 bx.length cb, .int .i64 ht, .int .i64 f, .slice W0 nw cw, .int .i64 p] 55)).alloc (.cells #[.slice none 0 0, .slice none 0 0, .int .i64 0, .int .i64 0, .slice none 0 0, .int .i64 0] 55))
  go_upto_region 1 with fail
  generalize hW1 : (w.alloc (.cells #[.slice P0 np cp, .slice B0 bx.length cb, .int .i64 ht, .int .i64 f, .slice W0 nw cw, .int .i64 p] 55)).alloc (.cells #[.slice none 0 0, .slice none 0 0, .int .i64 0, .int .i64 0, .slice none 0 0, .int .i64 0] 55) = W1 at *
  clear hW1
  go_wp2_with (at_builtin; refine wpList_cp rfl _ _ rfl _ W1.heap.size W1.heap.size W1.heap.size _ bx.length _ (nints bx) hE (hrd.below hst) (by omega) (by simp) (by rw [hsz]; rfl) rfl ?_)
  intro A1 c1 w1 ho1 hk1
  have hS1 := HS.out.step (hst.trans (hk1.below (by simp) (fun k hk => by omega)))
  have hk1b := hst.trans (hk1.below (by simp) (fun k hk => by omega))
  have hv1 := (WRow.of_own ho1)
  have hs1 := hk1.size
  clear ho1 hE hrd d1
  go_wp2_with (at_builtin; refine wpList_appW rfl _ _ rfl w1 (w.heap.size + 2) _ (nints bx) (i : Int) hv1 rfl rfl ?c2 ?c3 ?_)
  case c2 => rw [nints_len]; omega
  case c3 => have := hk1b.size; omega
  intro v2 w2 hB2 hk2 _
  rw [nints_snoc] at hB2
  obtain ⟨A2, c2, rfl, _⟩ := hB2.form
  generalize hm2 : (nints (bx ++ [i])).length = m2 at *
  have hb12 := hk1b.trans (hk2.below hk1b.size (fun k hk => by have := (hv1.lt k hk).1; omega))
  have hS2 := HS.out.step hb12
  have hB3 := hB2.mono (base' := base) (by omega)
  have d1 := hS2.fx.c1
  have df1 := hS2.fx.ff 1
  have df2 := hS2.fx.ff 2
  have d2 := hS2.fx.c2
  have HS3 := Lib.hid (hS2.cell hS2.fx.set1 hB3 hS2.rw)
  have e2 := HS3.out.fx.c2
  have ef2 := HS3.out.fx.ff 2
  have hx3 := hx.below (HS3.out.b.mono hM)
  obtain ⟨gb, ob, rfl, hgb, c0, c1, c2', c3, c4, c5⟩ := hx3.at6 hi
  clear hS1 hk1b hv1 hB2 hk2 hS2 hB3 hb12 hm2 c0 c2' c3 c4 c5 hx3 hx
  go_wp2
  generalize hW3 : w2.setCell ⟨w.heap.size, 1, none⟩ (.slice A2 m2 c2) = w3 at *
  clear hW3
  go_still_tail 11, (by kernel_rfl)
  change wpList _ _ _ _ _ w3.drew
  have HS4 := Lib.hid HS3.out.drewn
  generalize w3.drew = w4 at *
  clear e2 ef2 HS3
  have e2 := HS4.out.fx.c2
  have ef2 := HS4.out.fx.ff 2
  have HS5 := Lib.hid (HS4.out.cell (HS4.out.fx.set2 (x := ht + b.h)) HS4.out.rb HS4.out.rw)
  have x0 := HS5.out.fx.c0
  have x1 := HS5.out.fx.c1
  have x2 := HS5.out.fx.c2
  have x3 := HS5.out.fx.c3
  have x4 := HS5.out.fx.c4
  have x5 := HS5.out.fx.c5
  have xr := HS5.out.fr.bl
  go_wp2_with (refine wpList_fx rfl _ _ rfl _ _ HS5.out.fr _ _ _ _ _ _ _ _ _ _ _ _ rfl rfl ?_)
  have HF := HS5.out.fin
  exact bodyPost_ret (results_cell_row rfl _ _ _ _ _ _ _ rfl HF.1 Tryd.underlying55 rfl (by kernel_rfl)) rfl HF.2
end Go.Proofs.YtpgpkgpiengmkaaDoor
