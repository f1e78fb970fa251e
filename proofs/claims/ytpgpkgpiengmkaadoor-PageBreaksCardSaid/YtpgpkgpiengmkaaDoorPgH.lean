/-
  Layer 40 (page): the program's fill.
-/
import Derived.Test.YtpgpkgpiengmkaaDoorPgG
namespace Go.Proofs.YtpgpkgpiengmkaaDoor
open Go.RowKit
set_option linter.unusedVariables false
set_option linter.unusedSimpArgs false
attribute [local go_sem] B_data B_size

def FR (q : Nat) (vB vL vW : Value) : Nat → Prop := fun k => k = q ∨ vB.ownBlock = some k ∨ vL.ownBlock = some k ∨ vW.ownBlock = some k
/-- while a page is filled -/
structure FS (n q : Nat) (vB0 vL0 vW0 : Value) (b : Pb) (first base : Nat) (w : World) (r : List Nat × Int × Nat × List Nat) (p : Nat) (bx wt : List Nat) (ht : Int) (vB vL vW : Value) (wr : World) : Prop where
  fb : FB q vB ht vL wr
  rb : WRow wr base vB (nints bx)
  rl : WRow wr base vL (nints (lineOf b first bx))
  rw : WRow wr base vW (nints wt)
  k : Kpt (FR q vB0 vL0 vW0) w wr
  nB : Nxt w vB0 vB
  nL : Nxt w vL0 vL
  nW : Nxt w vW0 vW
  r : r = fillS b first (n - p) p bx ht wt
  sh : ht = sumH b bx
  h0 : 0 ≤ ht
  h1 : ht ≤ (bx.length : Int) * 1048576
  lb : ∀ i ∈ bx, i < p
  lw : ∀ i ∈ wt, i < p
  sw : wt.Pairwise (· < ·)
  pn : p ≤ n
  nb : bx.length + wt.length ≤ p
  fi : first ≤ bx.length
  dB : ∀ k, vB.ownBlock = some k → vL.ownBlock ≠ some k
  dw : ∀ k, vW.ownBlock = some k → vB.ownBlock ≠ some k ∧ vL.ownBlock ≠ some k
section
variable {n q p first base : Nat} {vB0 vL0 vW0 vB vL vW v2 v3 : Value} {b : Pb} {w wr w3 w4 : World} {r : List Nat × Int × Nat × List Nat} {bx wt : List Nat} {ht : Int}
theorem FS.step (h : FS n q vB0 vL0 vW0 b first base w r p bx wt ht vB vL vW wr) (hb : Below wr.heap.size wr w3) : FS n q vB0 vL0 vW0 b first base w r p bx wt ht vB vL vW w3 :=
  { h with fb := h.fb.step hb, rb := h.rb.step hb, rl := h.rl.step hb, rw := h.rw.step hb, k := h.k.step hb }
/-- a box is placed -/
theorem FS.pl (h : FS n q vB0 vL0 vW0 b first base w r p bx wt ht vB vL vW wr) (hq : FB q v2 (ht + b.h p) vL w3) (hB : WRow w3 base v2 (nints (bx ++ [p]))) (hk : Kpt (fun k => k = q ∨ vB.ownBlock = some k) wr w3) (hn : Nxt wr vB v2) :
    WRow w3 base vL (nints (lineOf b first bx)) ∧ WRow w3 base vW (nints wt) ∧ Kpt (FR q vB0 vL0 vW0) w w3 ∧ Nxt w vB0 v2 ∧ (∀ k, v2.ownBlock = some k → vL.ownBlock ≠ some k) ∧ (∀ k, vW.ownBlock = some k → v2.ownBlock ≠ some k ∧ vL.ownBlock ≠ some k) := by
  have n1 := h.rl.ne h.fb ne_int
  have n2 := h.rw.ne h.fb ne_int
  have d2 := dj_nxt h.dB (fun k hk => (h.rl.lt k hk).2) hn
  refine ⟨h.rl.keep hk (fun k e => ?_), h.rw.keep hk (fun k e => ?_), h.k.trans2 hk (fun k hk e => ?_), h.nB.trans h.k.size hn, d2, fun k e => ⟨fun e2 => ?_, (h.dw k e).2⟩⟩
  · rintro (rfl | e2)
    · exact n1 e
    · exact h.dB k e2 e
  · rintro (rfl | e2)
    · exact n2 e
    · exact (h.dw k e).1 e2
  · rcases e with e | e
    · exact .inl e
    · exact .inr (.inl (h.nB.old e hk))
  · exact (h.dw k e).1 (hn.old e2 (h.rw.lt k e).2)
theorem FS.float (h : FS n q vB0 vL0 vW0 b first base w r p bx wt ht vB vL vW wr) (hq : FB q v2 (ht + b.h p) vL w3) (hB : WRow w3 base v2 (nints (bx ++ [p]))) (hk : Kpt (fun k => k = q ∨ vB.ownBlock = some k) wr w3) (hn : Nxt wr vB v2)
    (hf : b.fl p = true) (hp : p < n) (h2 : 0 ≤ b.h p) (h3 : b.h p ≤ 1048576) (hr : r = fillS b first (n - (p + 1)) (p + 1) (bx ++ [p]) (ht + b.h p) wt) :
    FS n q vB0 vL0 vW0 b first base w r (p + 1) (bx ++ [p]) wt (ht + b.h p) v2 vL vW w3 := by
  obtain ⟨a1, a2, a3, a4, a5, a6⟩ := h.pl hq hB hk hn
  refine ⟨hq, hB, ?_, a2, a3, a4, h.nL, h.nW, hr, ?_, ?_, ?_, ?_, ?_, h.sw, by omega, ?_, ?_, a5, a6⟩
  · rw [line_push _ _ _ _ h.fi, if_pos hf]; exact a1
  · rw [sumH_append, h.sh]; simp [sumH]
  · have := h.h0; omega
  · rw [List.length_append, List.length_singleton]; have := h.h1; omega
  · intro i hi
    rcases List.mem_append.1 hi with hi | hi
    · have := h.lb i hi; omega
    · rw [List.mem_singleton] at hi; omega
  · intro i hi; have := h.lw i hi; omega
  · rw [List.length_append, List.length_singleton]; have := h.nb; omega
  · rw [List.length_append]; have := h.fi; omega
theorem FS.line (h : FS n q vB0 vL0 vW0 b first base w r p bx wt ht vB vL vW wr) (hq : FB q v2 (ht + b.h p) vL w3) (hB : WRow w3 base v2 (nints (bx ++ [p]))) (hk : Kpt (fun k => k = q ∨ vB.ownBlock = some k) wr w3) (hn : Nxt wr vB v2)
    (hL : WRow w4 base v3 (nints (lineOf b first bx ++ [p]))) (hk4 : Kpt (fun k => vL.ownBlock = some k) w3 w4) (hn4 : Nxt w3 vL v3)
    (hf : b.fl p = false) (hp : p < n) (h2 : 0 ≤ b.h p) (h3 : b.h p ≤ 1048576) (hr : r = fillS b first (n - (p + 1)) (p + 1) (bx ++ [p]) (ht + b.h p) wt) :
    FS n q vB0 vL0 vW0 b first base w r (p + 1) (bx ++ [p]) wt (ht + b.h p) v2 v3 vW (w4.setCell ⟨q, 2, none⟩ v3) := by
  obtain ⟨a1, a2, a3, a4, a5, a6⟩ := h.pl hq hB hk hn
  have n1 := a1.ne hq ne_int
  have n2 := a2.ne hq ne_int
  have n3 := hB.ne hq ne_int
  have hq4 := hq.keep hk4 n1
  have n4 := hL.ne hq4 ne_int
  have hsk : Kpt (fun k => k = q) w4 (w4.setCell ⟨q, 2, none⟩ v3) := (Kpt.refl (fun k => k = q) w4).setCell fun _ => rfl
  refine ⟨hq4.set2, ?_, ?_, ?_, ?_, a4, ?_, h.nW, hr, ?_, ?_, ?_, ?_, ?_, h.sw, by omega, ?_, ?_, ?_, ?_⟩
  · exact (hB.keep hk4 (fun k e e2 => a5 k e e2)).keep hsk (fun k e e2 => n3 (by rw [e, e2]))
  · rw [line_push _ _ _ _ h.fi, if_neg (by rw [hf]; decide)]
    exact hL.keep hsk (fun k e e2 => n4 (by rw [e, e2]))
  · exact (a2.keep hk4 (fun k e e2 => (a6 k e).2 e2)).keep hsk (fun k e e2 => n2 (by rw [e, e2]))
  · refine (a3.trans2 hk4 (fun k hk e => .inr (.inr (.inl (h.nL.old e hk))))).setCell (fun _ => .inl rfl)
  · exact h.nL.trans a3.size hn4
  · rw [sumH_append, h.sh]; simp [sumH]
  · have := h.h0; omega
  · rw [List.length_append, List.length_singleton]; have := h.h1; omega
  · intro i hi
    rcases List.mem_append.1 hi with hi | hi
    · have := h.lb i hi; omega
    · rw [List.mem_singleton] at hi; omega
  · intro i hi; have := h.lw i hi; omega
  · rw [List.length_append, List.length_singleton]; have := h.nb; omega
  · rw [List.length_append]; have := h.fi; omega
  · intro k e e2
    exact a5 k e (hn4.old e2 (hB.lt k e).2)
  · intro k e
    exact ⟨(a6 k e).1, fun e2 => (a6 k e).2 (hn4.old e2 (a2.lt k e).2)⟩
theorem FS.wait (h : FS n q vB0 vL0 vW0 b first base w r p bx wt ht vB vL vW wr) (hW : WRow w3 base v2 (nints (wt ++ [p]))) (hk : Kpt (fun k => vW.ownBlock = some k) wr w3) (hn : Nxt wr vW v2)
    (hp : p < n) (hr : r = fillS b first (n - (p + 1)) (p + 1) bx ht (wt ++ [p])) :
    FS n q vB0 vL0 vW0 b first base w r (p + 1) bx (wt ++ [p]) ht vB vL v2 w3 := by
  have n2 := h.rw.ne h.fb ne_int
  refine ⟨h.fb.keep hk n2, h.rb.keep hk (fun k e e2 => (h.dw k e2).1 e), h.rl.keep hk (fun k e e2 => (h.dw k e2).2 e), hW, h.k.trans2 hk (fun k hk e => .inr (.inr (.inr (h.nW.old e hk)))), h.nB, h.nL, h.nW.trans h.k.size hn, hr, h.sh, h.h0, h.h1, ?_, ?_, ?_, by omega, ?_, h.fi, h.dB, ?_⟩
  · intro i hi; have := h.lb i hi; omega
  · intro i hi
    rcases List.mem_append.1 hi with hi | hi
    · have := h.lw i hi; omega
    · rw [List.mem_singleton] at hi; omega
  · rw [List.pairwise_append]
    exact ⟨h.sw, List.pairwise_singleton _ _, fun a ha c hc => by rw [List.mem_singleton] at hc; subst hc; exact h.lw a ha⟩
  · rw [List.length_append, List.length_singleton]; have := h.nb; omega
  · intro k e
    exact ⟨fun e2 => (h.dw k (hn.old e (h.rb.lt k e2).2)).1 e2, fun e2 => (h.dw k (hn.old e (h.rl.lt k e2).2)).2 e2⟩
theorem fill_step (hp : p < n) : fillS b first (n - p) p bx ht wt = if b.fl p then (if wt = [] ∧ ht + b.h p ≤ b.H then fillS b first (n - (p + 1)) (p + 1) (bx ++ [p]) (ht + b.h p) wt else fillS b first (n - (p + 1)) (p + 1) bx ht (wt ++ [p]))
    else if ht + b.h p ≤ b.H then fillS b first (n - (p + 1)) (p + 1) (bx ++ [p]) (ht + b.h p) wt else cutS b (backS b (lineOf b first bx) p) bx wt := by
  rw [show n - p = (n - (p + 1)) + 1 by omega]; rfl
end
/-- what fill leaves -/
def FillPost (q : Nat) (vB vL vW : Value) (r : List Nat × Int × Nat × List Nat) (base : Nat) (w : World) (e : Ending) (w' : World) : Prop :=
  ∃ vB' vL' vW', e = .returned (.tuple #[.int .i64 (r.2.2.1 : Nat), vW']) ∧ FB q vB' r.2.1 vL' w' ∧ WRow w' base vB' (nints r.1) ∧ WRow w' base vW' (nints r.2.2.2) ∧ Kpt (FR q vB vL vW) w w' ∧ Nxt w vB vB' ∧ Nxt w vW vW' ∧ ∀ k, vW'.ownBlock = some k → vB'.ownBlock ≠ some k
end Go.Proofs.YtpgpkgpiengmkaaDoor
