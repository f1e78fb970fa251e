/-
  Layer 40 (page), the chapter's: one, what is known while a page is filled.
-/
import Derived.Test.YtpgpkgpiengmkaaDoorPgRj
import Derived.Test.YtpgpkgpiengmkaaDoorPgB
import Derived.Deep.AppendLies
namespace Go.Proofs.YtpgpkgpiengmkaaDoor
open Go.RowKit
set_option linter.unusedVariables false
set_option linter.unusedSimpArgs false
attribute [local go_sem] B_data B_size

/-- a row of ints copied to the end of an empty one, as one step of a region that draws -/
theorem step_cp {ops : Array Oper} {o : Oper} {a : Act} {K : Act → World → Prop} {Q : Exit → Act → World → Prop} {E : Prop} (hgd : o.guard = none) (s y : Operand)
    (ho : o.op = .call { callee := .builtin .append, args := #[s, y], argTypes := #[40, 40] })
    (wr : World) (base g M : Nat) (A : Option Addr) (n c : Nat) (xs : List Int) (hE : wr.ownsRow base 3 1 (.slice (some ⟨g, 0, none⟩) 0 0) 0 []) (hr : Rd wr M 1 A n (ints xs)) (hn : n ≤ 1000000) (hbase : base ≤ wr.heap.size)
    (hs : a.eval s = .slice (some ⟨g, 0, none⟩) 0 0) (hy : a.eval y = .slice A n c)
    (h : ∀ A' c' w', w'.ownsRow base 3 1 (.slice A' n c') n (ints xs) → Kpt (fun k => k = g) wr w' → K (a.put o.dst (.slice A' n c')) w') :
    if Region.wanted o (yielded ops a.tmps) = true then Oper.wp Tryd.prog o a wr K Q else E := by
  have hw : Region.wanted o (yielded ops a.tmps) = true := by simp [Region.wanted, hgd]
  rw [if_pos hw]
  obtain ⟨A', c', w', hr, h1, h2⟩ := run_cp o.type wr base g M A n c xs hE hr hn hbase
  unfold Oper.wp execOp
  simp only [ho, resolve, invoke, builtin, Sem.run_bind, Sem.run_pure, Result.andThen_ok, List.map_toArray, List.map_cons, List.map_nil, hs, hy, hr]
  exact h A' c' w' h1 h2
/-- an int of a block of its own appended, as one step of a region that draws -/
theorem step_ap {ops : Array Oper} {o : Oper} {a : Act} {K : Act → World → Prop} {Q : Exit → Act → World → Prop} {E : Prop} (hgd : o.guard = none) (s y : Operand)
    (ho : o.op = .call { callee := .builtin .append, args := #[s, y], argTypes := #[40, 40] })
    (W : World) (base : Nat) (A : Option Addr) (n c : Nat) (xs : List Int) (hown : W.ownsRow base 3 1 (.slice A n c) n (ints xs)) (k : Nat) (x : Int) (hk : W.heap[k]? = some (.cells #[.int .i64 x] 3 (0, 0))) (hn : n ≤ 1000000) (hbase : base ≤ W.heap.size)
    (hs : a.eval s = .slice A n c) (hy : a.eval y = .slice (some ⟨k, 0, none⟩) 1 1)
    (h : ∀ g cap w', WRow w' base (.slice (some ⟨g, 0, none⟩) (n + 1) cap) (xs ++ [x]) → Below base W w' → K (a.put o.dst (.slice (some ⟨g, 0, none⟩) (n + 1) cap)) w') :
    if Region.wanted o (yielded ops a.tmps) = true then Oper.wp Tryd.prog o a W K Q else E := by
  obtain ⟨i0, hi, hz0, hz1, hz2⟩ := info_parts Tryd.infoInt
  refine step_append_lies _ hgd s y 40 ho base 3 i0 (.int .i64 0) 1 8 Tryd.underlying40 hi hz0 hz1 hz2 rfl (by decide) (.slice A n c) n (ints xs) hs hown ⟨k, 0, none⟩ 1 1 [.int .i64 x] hy rfl (World.news_of_block hk) (fun u hu => by rw [List.mem_singleton] at hu; subst hu; rfl) (by decide) (by simp only [maxLen]; omega) (by omega) hbase _ rfl ?_
  intro g cap w' h1 h2 _ _
  refine h g cap w' (WRow.of_own (n := n + 1) ?_) (below_of_grown h2 hbase fun k hk => (hown.lt k hk).1)
  have e : ints xs ++ [Value.int .i64 x] = ints (xs ++ [x]) := by simp [ints]
  rw [← e]
  exact h1
/-- a whole state stored, the frame as it was -/
theorem wpList_fxT {ops : Array Oper} {rest : List Oper} {o : Oper} {a : Act} {Q : Exit → Act → World → Prop} (hgd : o.guard = none) (x y : Operand) (ho : o.op = .store 55 x y) (hd : o.dst = none)
    (w : World) (q : Nat) {vP vB vW : Value} {ht0 f0 p0 : Int} (hq : FX q vP vB ht0 f0 vW p0 w) (P0 : Option Addr) (np cp : Nat) (B : Option Addr) (nb cb : Nat) (ht f : Int) (W : Option Addr) (nw cw : Nat) (p : Int)
    (hx : a.eval x = .pointer (some ⟨q, 0, none⟩)) (hy : a.eval y = .agg #[.slice P0 np cp, .slice B nb cb, .int .i64 ht, .int .i64 f, .slice W nw cw, .int .i64 p])
    (h : wpList Tryd.prog ops Q rest a (w.setRow q #[.slice P0 np cp, .slice B nb cb, .int .i64 ht, .int .i64 f, .slice W nw cw, .int .i64 p])) : wpList Tryd.prog ops Q (o :: rest) a w :=
  wpList_fx hgd x y ho w q hq P0 np cp B nb cb ht f W nw cw p hx hy (by rw [hd]; exact h)
/-- six cells stored one after the other are the whole state stored -/
theorem FX.sets {q : Nat} {vP vB vW : Value} {ht f p : Int} {W : World} (h : FX q vP vB ht f vW p W) (a0 a1 a2 a3 a4 a5 : Value) :
    (((((W.setCell ⟨q, 0, none⟩ a0).setCell ⟨q, 1, none⟩ a1).setCell ⟨q, 2, none⟩ a2).setCell ⟨q, 3, none⟩ a3).setCell ⟨q, 4, none⟩ a4).setCell ⟨q, 5, none⟩ a5 = W.setRow q #[a0, a1, a2, a3, a4, a5] := by
  have hb := h.bl
  have e : ∀ k : Nat, ((((((W.setCell ⟨q, 0, none⟩ a0).setCell ⟨q, 1, none⟩ a1).setCell ⟨q, 2, none⟩ a2).setCell ⟨q, 3, none⟩ a3).setCell ⟨q, 4, none⟩ a4).setCell ⟨q, 5, none⟩ a5).heap[k]? = (W.setRow q #[a0, a1, a2, a3, a4, a5]).heap[k]? := by
    intro k
    by_cases hk : k = q
    · subst hk
      rw [setRow_heap _ _ _ _ _ _ hb, heap_set _ (heap_set _ (heap_set _ (heap_set _ (heap_set _ (heap_set _ hb)))))]
      rfl
    · rw [setRow_other _ _ _ _ hk]
      simp only [World.setCell, Array.getElem?_modify]
      simp [Ne.symm hk]
  have e2 := Array.ext_getElem? (fun i => e i)
  simp only [World.setCell, World.setRow] at e2 ⊢
  rw [e2]
/-- while a page is filled -/
structure OS (n q base : Nat) (P0 : Option Addr) (np cp : Nat) (first p0 : Nat) (b : Pb) (r : List Nat × Int × Nat × List Nat) (w wr : World) (p : Nat) (bx wt : List Nat) (ht : Int) (B : Option Addr) (nb cb : Nat) (W : Option Addr) (nw cw : Nat) : Prop where
  s : XS q base P0 np cp B nb cb ht (first : Nat) W nw cw (p : Nat) bx wt w wr
  r : r = fillS b first (n - p) p bx ht wt
  ln : LineOk b first bx p0 p
  h0 : 0 ≤ ht
  h1 : ht ≤ (bx.length : Int) * 1048576
  lw : ∀ i ∈ wt, i < p
  pn : p ≤ n
  p0p : p0 ≤ p
  nb : bx.length + wt.length ≤ p
section
variable {n q base np cp first p0 p nb cb nw cw nb' cb' nw' cw' : Nat} {P0 B W B' W' : Option Addr} {b : Pb} {r : List Nat × Int × Nat × List Nat} {w wr w' : World} {bx wt : List Nat} {ht : Int}
theorem OS.lb (h : OS n q base P0 np cp first p0 b r w wr p bx wt ht B nb cb W nw cw) : ∀ i ∈ bx, i < p := by
  intro i hi
  rw [← List.take_append_drop first bx] at hi
  rcases List.mem_append.1 hi with hi | hi
  · have := h.ln.2.1 i hi; have := h.p0p; omega
  · exact (h.ln.2.2.1 i hi).2
theorem OS.place (h : OS n q base P0 np cp first p0 b r w wr p bx wt ht B nb cb W nw cw) (hs : XS q base P0 np cp B' nb' cb' (ht + b.h p) (first : Nat) W' nw' cw' ((p + 1 : Nat) : Int) (bx ++ [p]) wt w w')
    (hr : r = fillS b first (n - (p + 1)) (p + 1) (bx ++ [p]) (ht + b.h p) wt) (hp : p < n) (h2 : 0 ≤ b.h p) (h3 : b.h p ≤ 1048576) : OS n q base P0 np cp first p0 b r w w' (p + 1) (bx ++ [p]) wt (ht + b.h p) B' nb' cb' W' nw' cw' := by
  refine ⟨hs, hr, h.ln.push h.p0p, ?_, ?_, fun i hi => ?_, by omega, ?_, ?_⟩
  · have := h.h0; omega
  · rw [List.length_append, List.length_singleton]; have := h.h1; omega
  · have := h.lw i hi; omega
  · have := h.p0p; omega
  · rw [List.length_append, List.length_singleton]; have := h.nb; omega
theorem OS.wait (h : OS n q base P0 np cp first p0 b r w wr p bx wt ht B nb cb W nw cw) (hs : XS q base P0 np cp B' nb' cb' ht (first : Nat) W' nw' cw' ((p + 1 : Nat) : Int) bx (wt ++ [p]) w w')
    (hr : r = fillS b first (n - (p + 1)) (p + 1) bx ht (wt ++ [p])) (hp : p < n) : OS n q base P0 np cp first p0 b r w w' (p + 1) bx (wt ++ [p]) ht B' nb' cb' W' nw' cw' := by
  refine ⟨hs, hr, h.ln.more, h.h0, h.h1, fun i hi => ?_, by omega, ?_, ?_⟩
  · rcases List.mem_append.1 hi with hi | hi
    · have := h.lw i hi; omega
    · rw [List.mem_singleton] at hi; omega
  · have := h.p0p; omega
  · rw [List.length_append, List.length_singleton]; have := h.nb; omega
end
/-- what one leaves -/
def OnePost (base : Nat) (P0 : Option Addr) (np cp : Nat) (ps : List Value) (r : List Nat × Int × Nat × List Nat) (w : World) (e : Ending) (w' : World) : Prop :=
  ∃ P1 cp1 B1 nb1 cb1 f1 W1 nw1 cw1, e = .returned (.agg #[.slice P1 (np + 1) cp1, .slice B1 nb1 cb1, .int .i64 r.2.1, .int .i64 f1, .slice W1 nw1 cw1, .int .i64 (r.2.2.1 : Nat)]) ∧
    WRow w' base (.slice B1 nb1 cb1) (nints r.1) ∧ WRow w' base (.slice W1 nw1 cw1) (nints r.2.2.2) ∧ w'.ownsRow base 42 2 (.slice P1 (np + 1) cp1) (np + 1) (ps ++ [.slice B1 nb1 cb1, .int .i64 r.2.1]) ∧
    Kpt (fun k => (Value.slice P0 np cp).ownBlock = some k) w w'
theorem ne_fp : 55 ≠ 42 := by decide
theorem own_ne {w : World} {base e sz n q : Nat} {v : Value} {xs : List Value} {C : Array Value} {t : TypeId} {fr : Nat × Nat} (h : w.ownsRow base e sz v n xs) (hq : w.heap[q]? = some (.cells C t fr)) (ht : t ≠ e) : v.ownBlock ≠ some q := by
  intro hk
  rcases h.2 with ⟨rfl, _⟩ | ⟨g, cap, cur, rfl, hb, hg, _⟩
  · cases hk
  · have e3 : g = q := by simpa [Value.ownBlock] using hk
    subst e3
    rw [hg] at hq
    injection hq with hq
    injection hq with _ hq
    exact ht hq.symm
/-- the page appended: the state behind it -/
theorem one_app {q base np cp nb cb nw cw c4 : Nat} {P0 B W A4 : Option Addr} {ht f p : Int} {bx wt : List Nat} {w wr w4 : World} {ps : List Value} (h : XS q base P0 np cp B nb cb ht f W nw cw p bx wt w wr)
    (hro : wr.ownsRow base 42 2 (.slice P0 np cp) np ps) (ho : w4.ownsRow base 42 2 (.slice A4 (np + 1) c4) (np + 1) (ps ++ [.slice B nb cb, .int .i64 ht])) (hg : wr.grownBy w4 (Value.slice P0 np cp).ownBlock) :
    FX q (.slice P0 np cp) (.slice B nb cb) ht f (.slice W nw cw) p w4 ∧ FX q (.slice A4 (np + 1) c4) (.slice B nb cb) ht f (.slice W nw cw) p (w4.setCell ⟨q, 0, none⟩ (.slice A4 (np + 1) c4)) ∧
    FX (q + 1) (.slice none 0 0) (.slice none 0 0) 0 0 (.slice none 0 0) 0 (w4.setCell ⟨q, 0, none⟩ (.slice A4 (np + 1) c4)) ∧
    ((w4.setCell ⟨q, 0, none⟩ (.slice A4 (np + 1) c4)).setRow (q + 1) #[.slice A4 (np + 1) c4, .slice B nb cb, .int .i64 ht, .int .i64 f, .slice W nw cw, .int .i64 p]).heap[q + 1]? = some (.cells #[.slice A4 (np + 1) c4, .slice B nb cb, .int .i64 ht, .int .i64 f, .slice W nw cw, .int .i64 p] 55 (0, 0)) ∧
    ∀ r : List Nat × Int × Nat × List Nat, r.1 = bx → r.2.1 = ht → ((r.2.2.1 : Nat) : Int) = p → r.2.2.2 = wt → OnePost base P0 np cp ps r w (.returned (.agg #[.slice A4 (np + 1) c4, .slice B nb cb, .int .i64 ht, .int .i64 f, .slice W nw cw, .int .i64 p])) ((w4.setCell ⟨q, 0, none⟩ (.slice A4 (np + 1) c4)).setRow (q + 1) #[.slice A4 (np + 1) c4, .slice B nb cb, .int .i64 ht, .int .i64 f, .slice W nw cw, .int .i64 p]) := by
  have hk := Kpt.of_grown hg
  have n1 := own_ne hro h.fx.bl ne_fp
  have n2 := own_ne hro h.fr.bl ne_fp
  have f1 := h.fx.keep hk n1
  have f2 := h.fr.keep hk n2
  have hk1 : Kpt (fun k => k = q) w4 (w4.setCell ⟨q, 0, none⟩ (.slice A4 (np + 1) c4)) := (Kpt.refl (fun k => k = q) _).setCell (fun _ => rfl)
  have f3 := f2.keep hk1 (by omega)
  have hk2 : Kpt (fun k => k = q + 1) (w4.setCell ⟨q, 0, none⟩ (.slice A4 (np + 1) c4)) ((w4.setCell ⟨q, 0, none⟩ (.slice A4 (np + 1) c4)).setRow (q + 1) #[.slice A4 (np + 1) c4, .slice B nb cb, .int .i64 ht, .int .i64 f, .slice W nw cw, .int .i64 p]) := (Kpt.refl (fun k => k = q + 1) _).setRow (fun _ => rfl) _
  have hb4 := h.rb.keep hk (h.rb.ne_own hro ne_pg)
  have hw4 := h.rw.keep hk (h.rw.ne_own hro ne_pg)
  have kk : Kpt (fun k => k = q ∨ k = q + 1) w4 ((w4.setCell ⟨q, 0, none⟩ (.slice A4 (np + 1) c4)).setRow (q + 1) #[.slice A4 (np + 1) c4, .slice B nb cb, .int .i64 ht, .int .i64 f, .slice W nw cw, .int .i64 p]) :=
    (hk1.mono (fun _ _ e => .inl e)).trans2 hk2 (fun _ _ e => .inr e)
  have m1 := own_ne ho f1.bl ne_fp
  have m2 := own_ne ho f2.bl ne_fp
  have b1 := hb4.ne f1.bl ne_fi
  have b2 := hb4.ne f2.bl ne_fi
  have w1 := hw4.ne f1.bl ne_fi
  have w2 := hw4.ne f2.bl ne_fi
  have q0 := h.q0
  refine ⟨f1, f1.set0, f3, f3.row (vP' := .slice A4 (np + 1) c4), ?_⟩
  rintro ⟨r1, r2, r3, r4⟩ rfl rfl rfl rfl
  refine ⟨_, _, _, _, _, _, _, _, _, rfl, hb4.keep kk (fun k e e2 => ?_), hw4.keep kk (fun k e e2 => ?_), own_keep ho kk (fun k e e2 => ?_), ?_⟩
  · rcases e2 with rfl | rfl
    · exact b1 e
    · exact b2 e
  · rcases e2 with rfl | rfl
    · exact w1 e
    · exact w2 e
  · rcases e2 with rfl | rfl
    · exact m1 e
    · exact m2 e
  · exact ((Kpt.of_below h.b).trans2 hk (fun k _ e => e)).trans2 kk (fun k hk e => by rcases e with rfl | rfl <;> omega)
end Go.Proofs.YtpgpkgpiengmkaaDoor
