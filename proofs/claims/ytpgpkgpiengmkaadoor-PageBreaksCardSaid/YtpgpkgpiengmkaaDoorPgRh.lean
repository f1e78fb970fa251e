/-
  Layer 40 (page), the chapter's: waiting.
-/
import Derived.Test.YtpgpkgpiengmkaaDoorPgRg
import Derived.StillTailTactics
import Derived.Deep.RegionHeld3
namespace Go.Proofs.YtpgpkgpiengmkaaDoor
open Go.RowKit
set_option linter.unusedVariables false
set_option linter.unusedSimpArgs false
attribute [local go_sem] B_data B_size

def cellLen (q i : Nat) (W : World) : Nat := sliceLen ((W.cell? ⟨q, i, none⟩).getD undef)
theorem cellLen_of {q i n c : Nat} {A : Option Addr} {W : World} (h : W.cell? ⟨q, i, none⟩ = some (.slice A n c)) : cellLen q i W = n := by simp [cellLen, h, sliceLen]
/-- while the waiting ones are placed -/
structure WS (n q base : Nat) (P0 : Option Addr) (np cp : Nat) (f p : Int) (b : Pb) (r : List Nat × Int × List Nat) (w wr : World) (bx wt : List Nat) (ht : Int) (B : Option Addr) (nb cb : Nat) (W : Option Addr) (nw cw : Nat) : Prop where
  s : XS q base P0 np cp B nb cb ht f W nw cw p bx wt w wr
  r : r = earlyS b bx ht wt
  len : bx.length + wt.length ≤ 1000
  h0 : 0 ≤ ht
  h1 : ht ≤ (bx.length : Int) * 1048576
  lt : ∀ i ∈ wt, i < n
theorem XS.drewnE {q base np cp nb cb nw cw : Nat} {P0 B W : Option Addr} {ht f p : Int} {bx wt : List Nat} {w wr w4 : World} (h : XS q base P0 np cp B nb cb ht f W nw cw p bx wt w wr) (e : wr.drew = w4) : XS q base P0 np cp B nb cb ht f W nw cw p bx wt w w4 := e ▸ h.drewn
theorem XS.drewnN {q base np cp nb cb nw cw k : Nat} {P0 B W : Option Addr} {ht f p : Int} {bx wt : List Nat} {w wr w4 : World} (h : XS q base P0 np cp B nb cb ht f W nw cw p bx wt w wr) (e : wr.drewN k = w4) : XS q base P0 np cp B nb cb ht f W nw cw p bx wt w w4 := by
  subst e
  exact h.step (below_drewN (Below.refl _ _) _)
set_option maxHeartbeats 8000000 in
set_option maxRecDepth 100000 in
theorem rwaiting_any (A : Option Addr) (n c M : Nat) (l : List Bx) (H : Int) (base : Nat) (P0 : Option Addr) (np cp : Nat) (B0 : Option Addr) (nb cb : Nat) (W0 : Option Addr) (nw cw : Nat) (bx wt : List Nat) (ht f p : Int) (w : World)
    (hx : BxAt w M A n l) (hh : HtOk l) (hM : M ≤ w.heap.size) (hbase : base ≤ w.heap.size) (hB : WRow w base (.slice B0 nb cb) (nints bx)) (hW : WRow w base (.slice W0 nw cw) (nints wt)) (hlen : bx.length + wt.length ≤ 1000) (h0 : 0 ≤ ht) (h1 : ht ≤ (bx.length : Int) * 1048576) (hlt : ∀ i ∈ wt, i < n) :
    Calls Tryd.prog 46 #[.slice A n c, .agg #[.slice P0 np cp, .slice B0 nb cb, .int .i64 ht, .int .i64 f, .slice W0 nw cw, .int .i64 p], .int .i64 H] w (XPost base P0 np cp (earlyS (pbOf l H) bx ht wt).1 (earlyS (pbOf l H) bx ht wt).2.1 ((earlyS (pbOf l H) bx ht wt).1.length : Nat) (earlyS (pbOf l H) bx ht wt).2.2 p w) := by
  have HL := Lib.hid hx.len
  generalize hr : earlyS (pbOf l H) bx ht wt = r
  have HS := Lib.hid (WS.mk (n := n) (b := pbOf l H) (r := r) (XS.new (P0 := P0) (np := np) (cp := cp) (ht := ht) (f := f) (p := p) hB hW) hr.symm hlen h0 h1 hlt)
  clear hB hW hr hlen h0 h1 hlt
  go_enter Tryd.func46, Tryd.ntmps46
  go_wp2
  go_loopw [] (fun wr => ∃ (bx wt : List Nat) (ht : Int) (B : Option Addr) (nb cb : Nat) (W : Option Addr) (nw cw : Nat), Hid (WS n w.heap.size base P0 np cp f p (pbOf l H) r w wr bx wt ht B nb cb W nw cw)) (fun wr => cellLen w.heap.size 4 wr)
  case atStart => exact ⟨bx, wt, ht, _, _, _, _, _, _, HS⟩
  case round =>
    clear HS
    obtain ⟨bx, wt, ht, B, nb, cb, W, nw, cw, HS⟩ := hrel
    have hbw := HS.out.s.b
    have hsz := hbw.size
    have d0 := HS.out.s.fx.c0
    have d1 := HS.out.s.fx.c1
    have d2 := HS.out.s.fx.c2
    have d3 := HS.out.s.fx.c3
    have d4 := HS.out.s.fx.c4
    have d5 := HS.out.s.fx.c5
    have hnw := HS.out.s.rw.cnt
    have hnb := HS.out.s.rb.cnt
    subst hnb
    cases wt with
    | nil =>
      have HR : Hid (r = (bx, ht, [])) := by rw [HS.out.r]; rfl
      have HS4 := Lib.hid HS.out.s
      clear HS hbw hsz
      have hnw0 : nw = 0 := hnw
      clear hnw
      subst hnw0
      go_wp2
      go_quiet (fail)
      clear d0 d1 d2 d3 d4 d5
      generalize hw4 : wr.drewN _ = w4
      have HSD := Lib.hid (HS4.out.drewnN hw4)
      clear HS4 hw4
      have d1 := HSD.out.fx.c1
      have d3 := HSD.out.fx.c3
      have f3 := HSD.out.fx.ff 3
      have HS5 := Lib.hid (HSD.out.cell (HSD.out.fx.set3 (x := (bx.length : Nat))) HSD.out.rb HSD.out.rw)
      have x0 := HS5.out.fx.c0
      have x1 := HS5.out.fx.c1
      have x2 := HS5.out.fx.c2
      have x3 := HS5.out.fx.c3
      have x4 := HS5.out.fx.c4
      have x5 := HS5.out.fx.c5
      go_wp2_with (refine wpList_fx rfl _ _ rfl _ _ HS5.out.fr _ _ _ _ _ _ _ _ _ _ _ _ rfl rfl ?_)
      have HF := HS5.out.fin
      have e := HR.out
      subst e
      exact bodyPost_ret (results_cell_row rfl _ _ _ _ _ _ _ rfl HF.1 Tryd.underlying55 rfl (by kernel_rfl)) rfl HF.2
    | cons i wt =>
      obtain ⟨g, off, cap, hWe, e0, hgl, hcap⟩ := (show WRow wr base _ ((i : Int) :: nints wt) from HS.out.s.rw).cons
      injection hWe with hw1 hw2 hw3
      clear hw2
      subst hw1 hw3
      have hin := HS.out.lt i (List.mem_cons_self ..)
      obtain ⟨pb, hp⟩ := get_of (l := l) (k := i) (by rw [HL.out]; exact hin)
      have hph := hh pb (List.mem_of_getElem? hp)
      have hlen := HS.out.len
      have hht0 := HS.out.h0
      have hht1 := HS.out.h1
      simp only [List.length_cons] at hlen hnw
      subst hnw
      have i3 : (0 : Int) < ((wt.length + 1 : Nat) : Int) := by omega
      have M0 := Lib.hid (cellLen_of HS.out.s.fx.c4)
      have hbx1 : (bx.length : Int) ≤ 1000 := by omega
      have HR : Hid (r = if ht + pb.h ≤ H then earlyS (pbOf l H) (bx ++ [i]) (ht + pb.h) wt else (bx, ht, i :: wt)) := by
        rw [HS.out.r, early_cons, pb_h hp]; rfl
      go_wp2
      go_still_tail 12, (by kernel_rfl)
      change wpList _ _ _ _ _ wr.drew
      have HSD := Lib.hid HS.out.s.drewn
      have e1 : wr.drew.cell? ⟨g, off, none⟩ = some (.int .i64 (i : Int)) := e0
      have hbD : Below w.heap.size w wr.drew := hbw.drew
      have hglD : g < wr.drew.heap.size := hgl
      have hszD : w.heap.size ≤ wr.drew.heap.size := hsz
      clear d0 d1 d2 d3 d4 d5 e0 hbw
      generalize wr.drew = w4 at *
      go_wp2_with fail
      refine (rfits_any A n c l i pb _ _ _ ht f p H w4 (hx.below (hbD.mono hM) |>.more (by omega)) hp hht0 (by omega) (by omega) hph.2).mono ?_
      rintro e w2 ⟨rfl, hb2⟩
      replace HSD := Lib.hid (HSD.out.step hb2)
      have e2 := (hb2.cell (p := ⟨g, off, none⟩) hglD).trans e1
      have hb3 := hbD.trans (hb2.mono hszD)
      have hsz2 := hb3.size
      have d0 := HSD.out.fx.c0
      have d1 := HSD.out.fx.c1
      have d2 := HSD.out.fx.c2
      have d3 := HSD.out.fx.c3
      have d4 := HSD.out.fx.c4
      have d5 := HSD.out.fx.c5
      clear e1 hbD hglD hszD hb2
      by_cases hf : ht + pb.h ≤ H
      · have hd : decide (ht + pb.h ≤ H) = true := by simpa using hf
        rw [hd]
        have HR2 : Hid (r = earlyS (pbOf l H) (bx ++ [i]) (ht + pb.h) wt) := by rw [HR.out, if_pos hf]; rfl
        clear hd HR
        go_wp2
        go_still_tail 6, (by kernel_rfl)
        change wpList _ _ _ _ _ w2.drew
        generalize hw4 : w2.drew = w4
        replace HSD := Lib.hid (HSD.out.drewnE hw4)
        have hb4 := HSD.out.b
        have hsz4 := hb4.size
        clear d0 d1 d2 d3 d4 d5 e2 hw4
        go_wp2_with fail
        refine (rplaced_any A n c M l i pb base P0 np cp B bx.length cb (some ⟨g, off, none⟩) (wt.length + 1) cw bx (i :: wt) ht f p w4 (hx.below (hb4.mono hM)) (by omega) hp (by omega) HSD.out.rb HSD.out.rw (by omega) hht0 (by omega) (by omega) hph.2).mono ?_
        rintro e w5 ⟨v, rfl, ⟨B5, nb5, cb5, W5, nw5, cw5, rfl, hB5, hW5⟩, hb5⟩
        have HS5 := Lib.hid ((HSD.out.step hb5).row (P' := P0) (np' := np) (cp' := cp) (ht' := ht + pb.h) (f' := f) (p' := p) hB5 hW5)
        have HX5 := Lib.hid (HSD.out.step hb5).fx
        clear HSD hB5 hW5 hb5 hb4 hsz4
        go_upto_region 3 with (refine wpList_fx rfl _ _ rfl _ _ HX5.out _ _ _ _ _ _ _ _ _ _ _ _ rfl rfl ?_)
        generalize hw6 : w5.setRow _ _ = w6 at HS5 ⊢
        clear hw6 HX5
        obtain ⟨g5, off5, cap5, hWe, _, _, hcap5⟩ := (show WRow w6 base _ ((i : Int) :: nints wt) from HS5.out.rw).cons
        rw [nints_len] at hWe hcap5
        injection hWe with hw1 hw2 hw3
        subst hw1 hw2 hw3
        have ht5 := WRow.tail (x := (i : Int)) (xs := nints wt) HS5.out.rw
        rw [nints_len] at ht5
        have d4 := HS5.out.fx.c4
        have f4 := HS5.out.fx.ff 4
        have HS7 := Lib.hid (HS5.out.cell (HS5.out.fx.set4 (u := .slice (if cw5 = 1 then some ⟨g5, off5, none⟩ else some ⟨g5, off5 + 1, none⟩) wt.length (cw5 - 1))) HS5.out.rb ht5)
        have HN7 : Hid (WS n w.heap.size base P0 np cp f p (pbOf l H) r w _ (bx ++ [i]) wt (ht + pb.h) _ _ _ _ _ _) :=
          ⟨HS7.out, HR2.out, by rw [List.length_append, List.length_singleton]; omega, by omega, by rw [List.length_append, List.length_singleton]; omega, fun j hj => HS.out.lt j (List.mem_cons_of_mem _ hj)⟩
        clear ht5 HS HR2
        go_wp2
        go_roundw
        case rel => exact ⟨bx ++ [i], wt, ht + pb.h, _, _, _, _, _, _, HN7⟩
        case measure => rw [cellLen_of HS7.out.fx.c4, M0.out]; omega
      · have hd : decide (ht + pb.h ≤ H) = false := by simpa using hf
        rw [hd]
        have HR2 : Hid (r = (bx, ht, i :: wt)) := by rw [HR.out, if_neg hf]; rfl
        clear hd HR
        have f3 := HSD.out.fx.ff 3
        have HS5 := Lib.hid (HSD.out.cell (HSD.out.fx.set3 (x := (bx.length : Nat))) HSD.out.rb HSD.out.rw)
        have x0 := HS5.out.fx.c0
        have x1 := HS5.out.fx.c1
        have x2 := HS5.out.fx.c2
        have x3 := HS5.out.fx.c3
        have x4 := HS5.out.fx.c4
        have x5 := HS5.out.fx.c5
        go_wp2_with (refine wpList_fx rfl _ _ rfl _ _ HS5.out.fr _ _ _ _ _ _ _ _ _ _ _ _ rfl rfl ?_)
        have HF := HS5.out.fin
        have e := HR2.out
        subst e
        exact bodyPost_ret (results_cell_row rfl _ _ _ _ _ _ _ rfl HF.1 Tryd.underlying55 rfl (by kernel_rfl)) rfl HF.2
end Go.Proofs.YtpgpkgpiengmkaaDoor
