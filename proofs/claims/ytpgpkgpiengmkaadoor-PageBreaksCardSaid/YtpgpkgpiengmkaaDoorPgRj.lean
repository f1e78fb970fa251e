/-
  Layer 40 (page), the chapter's: cut.
-/
import Derived.Test.YtpgpkgpiengmkaaDoorPgRi
namespace Go.Proofs.YtpgpkgpiengmkaaDoor
open Go.RowKit
set_option linter.unusedVariables false
set_option linter.unusedSimpArgs false
attribute [local go_sem] B_data B_size

/-- while a page is cut: what is placed anew -/
structure TS (q base : Nat) (P0 : Option Addr) (np cp : Nat) (first : Nat) (W : Option Addr) (nw cw : Nat) (p : Int) (b : Pb) (wt : List Nat) (w : World) (out : List Nat) (wr : World) (B : Option Addr) (nb cb : Nat) : Prop where
  s : XS q base P0 np cp B nb cb (sumH b out) (first : Nat) W nw cw p out wt w wr
  h0 : 0 ≤ sumH b out
  h1 : sumH b out ≤ (out.length : Int) * 1048576
theorem TS.push {q base np cp nb cb nw cw first nb' cb' nw' cw' : Nat} {P0 B W B' W' : Option Addr} {p x : Int} {b : Pb} {wt out : List Nat} {w wr wr' : World} {i : Nat} (h : TS q base P0 np cp first W nw cw p b wt w out wr B nb cb)
    (hs : XS q base P0 np cp B' nb' cb' x (first : Nat) W' nw' cw' p (out ++ [i]) wt w wr') (hx : x = sumH b out + b.h i) (h2 : 0 ≤ b.h i) (h3 : b.h i ≤ 1048576) : TS q base P0 np cp first W' nw' cw' p b wt w (out ++ [i]) wr' B' nb' cb' := by
  have e : x = sumH b (out ++ [i]) := by rw [hx, sumH_append]; simp [sumH]
  subst e
  refine ⟨hs, ?_, ?_⟩
  · rw [hx]; have := h.h0; omega
  · rw [hx, List.length_append, List.length_singleton]; have := h.h1; omega
set_option maxHeartbeats 8000000 in
set_option maxRecDepth 100000 in
theorem rcut_any (A : Option Addr) (n c M : Nat) (l : List Bx) (H : Int) (base : Nat) (P0 : Option Addr) (np cp : Nat) (B0 : Option Addr) (nb cb : Nat) (W0 : Option Addr) (nw cw : Nat) (bx wt : List Nat) (ht p : Int) (first y : Nat) (w : World)
    (hx : BxAt w M A n l) (hh : HtOk l) (hM : M ≤ w.heap.size) (hbase : base ≤ w.heap.size) (hB : WRow w base (.slice B0 nb cb) (nints bx)) (hW : WRow w base (.slice W0 nw cw) (nints wt)) (hn : bx.length ≤ 1000) (hnw : wt.length ≤ 1000) (hft : ∀ j i, j < first → bx[j]? = some i → i < y) (hlt : ∀ i ∈ bx, i < n) :
    Calls Tryd.prog 49 #[.slice A n c, .agg #[.slice P0 np cp, .slice B0 nb cb, .int .i64 ht, .int .i64 (first : Nat), .slice W0 nw cw, .int .i64 p], .int .i64 (y : Nat)] w (XPost base P0 np cp (bx.filter (· < y)) (sumH (pbOf l H) (bx.filter (· < y))) (first : Nat) (wt.filter (· < y)) (y : Nat) w) := by
  have HL := Lib.hid hx.len
  have hnb := hB.cnt
  have hnw2 := hW.cnt
  subst hnw2
  have HNB : Hid (bx.length = nb) := hnb.symm
  have hnb3 : nb ≤ 1000 := by omega
  have HRB := Lib.hid hB
  have HT : Hid (TS w.heap.size base P0 np cp first W0 wt.length cw p (pbOf l H) wt w [] _ none 0 0) := ⟨XS.new (P0 := P0) (np := np) (cp := cp) (ht := 0) (f := (first : Nat)) (p := p) (bx := []) (WRow.nil _ _) hW, Int.le_refl _, Int.le_refl _⟩
  clear hB hW hnb hn
  go_enter Tryd.func49, Tryd.ntmps49
  go_wp2
  go_loopw [8] (fun iv wr => ∃ (j : Nat) (B : Option Addr) (nb1 cb1 : Nat) (W : Option Addr) (nw1 cw1 : Nat), j ≤ nb ∧ iv = .int .i64 j ∧ Hid (TS w.heap.size base P0 np cp first W nw1 cw1 p (pbOf l H) wt w ((bx.take j).filter (· < y)) wr B nb1 cb1)) (fun iv _ => nb - (intOf iv).toNat)
  case atStart => exact ⟨0, _, _, _, _, _, _, Nat.zero_le _, rfl, HT⟩
  case round =>
    clear HT
    obtain ⟨j, B, nb1, cb1, W, nw1, cw1, hj, rfl, HT⟩ := hrel
    have hbw := HT.out.s.b
    have hsz := hbw.size
    have d0 := HT.out.s.fx.c0
    have d1 := HT.out.s.fx.c1
    have d2 := HT.out.s.fx.c2
    have d3 := HT.out.s.fx.c3
    have d4 := HT.out.s.fx.c4
    have d5 := HT.out.s.fx.c5
    by_cases hjl : j < nb
    · obtain ⟨i0, hi0⟩ := get_of (l := bx) (k := j) (by rw [HNB.out]; exact hjl)
      obtain ⟨g3, o3, hA3, hg3, f0⟩ := (HRB.out.step hbw).int (nints_at hi0)
      subst hA3
      have hin := hlt i0 (List.mem_of_getElem? hi0)
      have j1 : (0 : Int) ≤ (i0 : Int) := by omega
      have j2 : (i0 : Int) < (n : Int) := by omega
      by_cases hy : i0 < y
      · obtain ⟨pb, hp⟩ := get_of (l := l) (k := i0) (by rw [HL.out]; exact hin)
        have hph := hh pb (List.mem_of_getElem? hp)
        have hyd : decide ((i0 : Int) < (y : Int)) = true := by simp; omega
        have HTK := Lib.hid (ftake_in hi0 hy)
        have hol : ((bx.take j).filter (· < y)).length ≤ j := Nat.le_trans (List.length_filter_le _ _) (List.length_take_le _ _)
        generalize (bx.take j).filter (· < y) = out at *
        have s0 := HT.out.h0
        have s1 := HT.out.h1
        generalize hsm : sumH (pbOf l H) out = sm at *
        have hnb1 := HT.out.s.rb.cnt
        have hnw1 := HT.out.s.rw.cnt
        have HXD := Lib.hid HT.out.s.drewn
        subst hnb1 hnw1
        rcases Nat.lt_or_ge j first with hjf | hjf
        all_goals
          first
            | (have hfd : decide (j < first) = true := by simp; omega)
            | (have hfd : decide (j < first) = false := by simp; omega)
          go_wp2
          go_still_tail 6, (by kernel_rfl)
          change wpList _ _ _ _ _ wr.drew
          generalize hw4 : wr.drew = w4
          replace HXD : Hid (XS _ _ _ _ _ _ _ _ _ _ _ _ _ _ _ _ _ w4) := hw4 ▸ HXD
          have hb4 := HXD.out.b
          have hsz4 := hb4.size
          clear d0 d1 d2 d3 d4 d5 f0 hw4
          go_wp2_with fail
          refine (rplaced_any A n c M l i0 pb base P0 np cp B out.length cb1 W wt.length cw1 out wt sm (first : Nat) p w4 (hx.below (hb4.mono hM)) (by omega) hp (by omega) HXD.out.rb HXD.out.rw (by omega) s0 (by omega) (by omega) hph.2).mono ?_
          rintro e w5 ⟨v, rfl, ⟨B5, nb5, cb5, W5, nw5, cw5, rfl, hB5, hW5⟩, hb5⟩
          have HS5 := Lib.hid ((HXD.out.step hb5).row (P' := P0) (np' := np) (cp' := cp) (ht' := sm + pb.h) (f' := (first : Nat)) (p' := p) hB5 hW5)
          have HX5 := Lib.hid (HXD.out.step hb5).fx
          clear HXD hB5 hW5 hb5 hb4 hsz4
          go_upto_region 5 with (refine wpList_fx rfl _ _ rfl _ _ HX5.out _ _ _ _ _ _ _ _ _ _ _ _ rfl rfl ?_)
          generalize hw6 : w5.setRow _ _ = w6 at HS5 ⊢
          clear hw6 HX5
          have HN := Lib.hid (HT.out.push HS5.out (by rw [pb_h hp, hsm]) (by rw [pb_h hp]; omega) (by rw [pb_h hp]; exact hph.2))
          clear HS5 HT
          go_wp2
          go_roundw
          case rel => exact ⟨j + 1, _, _, _, _, _, _, by omega, by go_num, by rw [HTK.out]; exact HN⟩
          case measure => simp [intOf] <;> omega
      · have hyd : decide ((i0 : Int) < (y : Int)) = false := by simp; omega
        have hjf : ¬ j < first := fun h => hy (hft j i0 h hi0)
        have hfd : decide (j < first) = false := by simp; omega
        have HTK := Lib.hid (ftake_out hi0 hy)
        have HN : Hid (TS w.heap.size base P0 np cp first W nw1 cw1 p (pbOf l H) wt w ((bx.take (j + 1)).filter (· < y)) wr B nb1 cb1) := by rw [HTK.out]; exact HT
        clear HT HTK
        go_wp2
        go_roundw
        case rel => exact ⟨j + 1, _, _, _, _, _, _, by omega, by go_num, HN⟩
        case measure => simp [intOf] <;> omega
    · have e : (bx.take j).filter (· < y) = bx.filter (· < y) := by rw [List.take_of_length_le (by rw [HNB.out]; omega)]
      rw [e] at HT
      clear e
      have hnw1 := HT.out.s.rw.cnt
      subst hnw1
      go_wp2_with fail
      refine (rbelow_any W wt.length cw1 wt y base wr HT.out.s.rw (by omega) (by omega)).mono ?_
      rintro e w2 ⟨W5, nw5, cw5, rfl, hW5, hb2⟩
      have HS2 := Lib.hid (HT.out.s.step hb2)
      have e4 := HS2.out.fx.c4
      have g4 := HS2.out.fx.ff 4
      have HS3 := Lib.hid (HS2.out.cell (HS2.out.fx.set4 (u := .slice W5 nw5 cw5)) HS2.out.rb hW5)
      have e5 := HS3.out.fx.c5
      have g5 := HS3.out.fx.ff 5
      have HS5 := Lib.hid (HS3.out.cell (HS3.out.fx.set5 (x := (y : Nat))) HS3.out.rb HS3.out.rw)
      have x0 := HS5.out.fx.c0
      have x1 := HS5.out.fx.c1
      have x2 := HS5.out.fx.c2
      have x3 := HS5.out.fx.c3
      have x4 := HS5.out.fx.c4
      have x5 := HS5.out.fx.c5
      clear d0 d1 d2 d3 d4 d5 HT HS2 HS3 hW5
      go_wp2_with (refine wpList_fx rfl _ _ rfl _ _ HS5.out.fr _ _ _ _ _ _ _ _ _ _ _ _ rfl rfl ?_)
      have HF := HS5.out.fin
      exact bodyPost_ret (results_cell_row rfl _ _ _ _ _ _ _ rfl HF.1 Tryd.underlying55 rfl (by kernel_rfl)) rfl HF.2
end Go.Proofs.YtpgpkgpiengmkaaDoor
