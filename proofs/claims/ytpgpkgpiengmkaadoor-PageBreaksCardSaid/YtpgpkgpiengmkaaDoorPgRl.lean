/-
  Layer 40 (page), the chapter's: one, its walk. Printed by gen_pgone.py.
-/
import Derived.Test.YtpgpkgpiengmkaaDoorPgRk
import Derived.Deep.RegionLaw
namespace Go.Proofs.YtpgpkgpiengmkaaDoor
open Go.RowKit
set_option linter.unusedVariables false
set_option linter.unusedSimpArgs false
attribute [local go_sem] B_data B_size

def cellInt (q i : Nat) (W : World) : Int := intOf ((W.cell? ⟨q, i, none⟩).getD undef)
theorem cellInt_of {q i : Nat} {x : Int} {W : World} (h : W.cell? ⟨q, i, none⟩ = some (.int .i64 x)) : cellInt q i W = x := by simp [cellInt, h, intOf]
theorem below_al {w W : World} (h : Below w.heap.size w W) (o : Obj) : Below w.heap.size w (W.alloc o) := h.alloc h.size o
theorem own7a (w : World) : (w.drew.alloc (.cells #[] 3)).ownsRow w.heap.size 3 1 (.slice (some ⟨w.heap.size, 0, none⟩) 0 0) 0 [] := World.ownsRow_lit w.drew #[] 0 (Nat.le_refl _) (by decide) rfl
theorem own7b (w : World) (T0 : Obj) : ((w.drew.alloc (.cells #[] 3)).alloc T0).ownsRow w.heap.size 3 1 (.slice (some ⟨w.heap.size, 0, none⟩) 0 0) 0 [] := (own7a w).alloc _
theorem at7b (w : World) (T0 : Obj) : ((w.drew.alloc (.cells #[] 3)).alloc T0).heap[w.heap.size + 1]? = some T0 := by
  have h := heap_alloc_new (w.drew.alloc (.cells #[] 3)) T0
  have e : (w.drew.alloc (.cells #[] 3)).heap.size = w.heap.size + 1 := by simp
  rwa [e] at h
theorem own7c (w : World) (T0 : Obj) : ((w.drew.alloc T0).alloc (.cells #[] 3)).ownsRow w.heap.size 3 1 (.slice (some ⟨w.heap.size + 1, 0, none⟩) 0 0) 0 [] := by
  have e : (w.drew.alloc T0).heap.size = w.heap.size + 1 := by simp
  have h := World.ownsRow_lit (base := w.heap.size) (e := 3) (size := 1) (w.drew.alloc T0) #[] 0 (by rw [e]; omega) (by decide) rfl
  rw [e] at h
  exact h
theorem at7c (w : World) (T0 : Obj) : ((w.drew.alloc T0).alloc (.cells #[] 3)).heap[w.heap.size]? = some T0 := by
  rw [Below.heap_alloc _ _ _ (by simp)]; exact heap_alloc_new w.drew T0
theorem early_ht2 {l : List Bx} {H : Int} (hh : HtOk l) : ∀ (wt : List Nat), (∀ i ∈ wt, i < l.length) → ∀ (bx : List Nat) (ht : Int), 0 ≤ ht → ht ≤ (bx.length : Int) * 1048576 →
    0 ≤ (earlyS (pbOf l H) bx ht wt).2.1 ∧ (earlyS (pbOf l H) bx ht wt).2.1 ≤ ((earlyS (pbOf l H) bx ht wt).1.length : Int) * 1048576 := by
  intro wt
  induction wt with
  | nil => intro _ bx ht h0 h1; exact ⟨h0, h1⟩
  | cons i r ih =>
    intro hl bx ht h0 h1
    obtain ⟨pb, hp⟩ := get_of (l := l) (k := i) (hl i (List.mem_cons_self ..))
    have hph := hh pb (List.mem_of_getElem? hp)
    rw [early_cons, pb_h hp]
    split
    · exact ih (fun j hj => hl j (List.mem_cons_of_mem _ hj)) _ _ (by omega) (by rw [List.length_append, List.length_singleton]; omega)
    · exact ⟨h0, h1⟩
set_option maxHeartbeats 16000000 in
set_option maxRecDepth 100000 in
theorem rone_any (A : Option Addr) (n c M : Nat) (l : List Bx) (H : Int) (base : Nat) (P0 : Option Addr) (np cp : Nat) (ps : List Value) (B0 : Option Addr) (nb cb : Nat) (bx0 dn : List Nat) (W0 : Option Addr) (nw cw : Nat) (wt : List Nat) (ht0 f0 : Int) (p0 : Nat) (w : World)
    (hx : BxAt w M A n l) (hh : HtOk l) (hn : n ≤ 1000) (hM : M ≤ w.heap.size) (hbase : base ≤ w.heap.size) (hO : w.ownsRow base 42 2 (.slice P0 np cp) np ps) (hnp : np ≤ 1000000) (hB : WRow w base (.slice B0 nb cb) (nints bx0)) (hW : WRow w base (.slice W0 nw cw) (nints wt)) (hi : Inv (pbOf l H) dn p0 wt) :
    Calls Tryd.prog 25 #[.slice A n c, .agg #[.slice P0 np cp, .slice B0 nb cb, .int .i64 ht0, .int .i64 f0, .slice W0 nw cw, .int .i64 (p0 : Nat)], .int .i64 H] w (OnePost base P0 np cp ps (oneS (pbOf l H) p0 wt) w) := by
  have HL := Lib.hid hx.len
  have HO := Lib.hid hO
  have hpn : p0 ≤ n := by have := hi.1; rw [← HL.out]; exact this
  have hwl := fun i h => (hi.wt_lt i h).1
  have hln := early_line hi
  have hil := inv_len hi
  obtain ⟨re, hre1, hre2⟩ := early_pre (pbOf l H) wt [] 0
  generalize hr : oneS (pbOf l H) p0 wt = r
  have hr2 : r = fillS (pbOf l H) (earlyS (pbOf l H) [] 0 wt).1.length (n - p0) p0 (earlyS (pbOf l H) [] 0 wt).1 (earlyS (pbOf l H) [] 0 wt).2.1 (earlyS (pbOf l H) [] 0 wt).2.2 := by rw [← hr, ← HL.out]; rfl
  have HWA := Lib.hid (fun (w1 : World) (hb : Below w.heap.size w w1) => rwaiting_any A n c M l H base P0 np cp none 0 0 W0 nw cw [] wt 0 f0 (p0 : Nat) w1 (hx.below (hb.mono hM)) hh (Nat.le_trans hM hb.size) (Nat.le_trans hbase hb.size) (WRow.nil _ _) (hW.step hb) (by simp; omega) (Int.le_refl _) (by simp) (fun i hi => by have := hwl i hi; omega))
  have HS := Lib.hid (XS.new (P0 := P0) (np := np) (cp := cp) (ht := 0) (f := f0) (p := (p0 : Nat)) (bx := []) (WRow.nil w base) hW)
  have hht := early_ht2 hh wt (fun i h => by have := hwl i h; rw [HL.out]; omega) [] 0 (H := H) (Int.le_refl _) (by simp)
  have hel : (earlyS (pbOf l H) [] 0 wt).1.length + (earlyS (pbOf l H) [] 0 wt).2.2.length ≤ p0 := by
    have e := congrArg List.length hre2
    rw [List.length_append] at e
    rw [hre1, List.nil_append]
    omega
  have hew : ∀ i ∈ (earlyS (pbOf l H) [] 0 wt).2.2, i < p0 := fun i h => hwl i (by rw [hre2]; exact List.mem_append_right _ h)
  clear hO hB hW hi hr hre1 hre2
  generalize earlyS (pbOf l H) [] 0 wt = re1 at *
  obtain ⟨bx, ht, wt1⟩ := re1
  have HPP := Lib.hid (fun (wr : World) (B : Option Addr) (nb cb : Nat) (W : Option Addr) (nw cw : Nat) (s : XS w.heap.size base P0 np cp B nb cb ht (bx.length : Nat) W nw cw (p0 : Nat) bx wt1 w wr) => (⟨s, hr2, hln, hht.1, hht.2, hew, hpn, Nat.le_refl _, hel⟩ : OS n w.heap.size base P0 np cp bx.length p0 (pbOf l H) r w wr p0 bx wt1 ht B nb cb W nw cw))
  clear hr2 hln hil hht hel hew hwl
  go_enter Tryd.func25, Tryd.ntmps25
  go_upto_region 2 with fail
  generalize hW1 : (w.alloc (.cells #[.slice P0 np cp, .slice none 0 0, .int .i64 0, .int .i64 f0, .slice W0 nw cw, .int .i64 (p0 : Nat)] 55)).alloc (.cells #[.slice none 0 0, .slice none 0 0, .int .i64 0, .int .i64 0, .slice none 0 0, .int .i64 0] 55) = W1 at HS ⊢
  have hb1 := HS.out.b
  have d0 := HS.out.fx.c0
  have d1 := HS.out.fx.c1
  have d2 := HS.out.fx.c2
  have d3 := HS.out.fx.c3
  have d4 := HS.out.fx.c4
  have d5 := HS.out.fx.c5
  clear hW1
  go_wp2_with fail
  refine (HWA.out W1 hb1).mono ?_
  rintro e w2 ⟨v, rfl, ⟨B5, nb5, cb5, W5, nw5, cw5, rfl, hB5, hW5⟩, hb5⟩
  have HX5 := Lib.hid (HS.out.step hb5)
  have HS5 := Lib.hid (HX5.out.row (P' := P0) (np' := np) (cp' := cp) (ht' := ht) (f' := (bx.length : Nat)) (p' := (p0 : Nat)) hB5 hW5)
  have HX6 := Lib.hid HX5.out.fx
  clear HS HX5 hB5 hW5 hb5 hb1 d0 d1 d2 d3 d4 d5 HWA
  go_wp2_with (refine wpList_fxT rfl _ _ rfl rfl _ _ HX6.out _ _ _ _ _ _ _ _ _ _ _ _ rfl rfl ?_)
  generalize hw6 : w2.setRow _ _ = w6 at HS5 ⊢
  have HOS := Lib.hid (HPP.out w6 _ _ _ _ _ _ HS5.out)
  clear hw6 HX6 HPP HS5
  generalize hfi : bx.length = first at *
  clear hfi
  go_loopw [] (fun wr => ∃ (p : Nat) (bx wt : List Nat) (ht : Int) (B : Option Addr) (nb cb : Nat) (W : Option Addr) (nw cw : Nat), Hid (OS n w.heap.size base P0 np cp first p0 (pbOf l H) r w wr p bx wt ht B nb cb W nw cw)) (fun wr => n - (cellInt w.heap.size 5 wr).toNat)
  case atStart => exact ⟨p0, bx, wt1, ht, _, _, _, _, _, _, HOS⟩
  case round =>
    clear HOS
    obtain ⟨p, bx, wt, ht, B, nb, cb, W, nw, cw, HS⟩ := hrel
    have hbw := HS.out.s.b
    have hsz := hbw.size
    have d0 := HS.out.s.fx.c0
    have d1 := HS.out.s.fx.c1
    have d2 := HS.out.s.fx.c2
    have d3 := HS.out.s.fx.c3
    have d4 := HS.out.s.fx.c4
    have d5 := HS.out.s.fx.c5
    have hnw := HS.out.s.rw.cnt
    have hnb := HS.out.s.rb.cnt
    subst hnb
    have HNW := Lib.hid hnw
    clear hnw
    have h0 := HS.out.h0
    have h1 := HS.out.h1
    have hpn := HS.out.pn
    have hnbl := HS.out.nb
    have M0 := Lib.hid (cellInt_of d5)
    by_cases hlt : p < n
    · obtain ⟨pb, hp⟩ := get_of (l := l) (k := p) (by rw [HL.out]; exact hlt)
      have hph := hh pb (List.mem_of_getElem? hp)
      obtain ⟨gb, ob, hA, hgb, c0, c1, c2, c3, c4, c5⟩ := (hx.below (hbw.mono hM)).at6 hp
      subst hA
      have i1 : (0 : Int) ≤ (p : Int) := by omega
      have i2 : (p : Int) < (n : Int) := by omega
      have HRR : Hid (r = if pb.fl = true then (if wt = [] ∧ ht + pb.h ≤ H then fillS (pbOf l H) first (n - (p + 1)) (p + 1) (bx ++ [p]) (ht + pb.h) wt else fillS (pbOf l H) first (n - (p + 1)) (p + 1) bx ht (wt ++ [p]))
          else if ht + pb.h ≤ H then fillS (pbOf l H) first (n - (p + 1)) (p + 1) (bx ++ [p]) (ht + pb.h) wt else cutS (pbOf l H) (backS (pbOf l H) (lineOf (pbOf l H) first bx) p) bx wt) := by
        rw [HS.out.r, fill_step hlt, pb_h hp, pb_fl hp]; rfl
      have HH := Lib.hid (pb_h (H := H) hp)
      have HFT := Lib.hid (fun (w1 : World) (hb : Below w.heap.size w w1) => rfits_any (some ⟨gb, ob, none⟩) n c l p pb (.slice P0 np cp) (.slice B bx.length cb) (.slice W nw cw) ht (first : Nat) (p : Nat) H w1 ((hx.below (hb.mono hM)).more (Nat.le_trans hM hb.size)) hp h0 (by omega) (by omega) hph.2)
      cases hfl : pb.fl
      · rw [hfl] at c4 HRR
        clear c0 c1 c2 c3 c5 hfl
        go_wp2_with fail
        refine (HFT.out wr hbw).mono ?_
        rintro e w2 ⟨rfl, hb2⟩
        replace HS := Lib.hid ({ HS.out with s := HS.out.s.step hb2 } : OS n w.heap.size base P0 np cp first p0 (pbOf l H) r w w2 p bx wt ht B bx.length cb W nw cw)
        clear d0 d1 d2 d3 d4 d5 c4 hb2 hbw hsz
        have hbw := HS.out.s.b
        have hsz := hbw.size
        have d0 := HS.out.s.fx.c0
        have d1 := HS.out.s.fx.c1
        have d2 := HS.out.s.fx.c2
        have d3 := HS.out.s.fx.c3
        have d4 := HS.out.s.fx.c4
        have d5 := HS.out.s.fx.c5
        by_cases hf : ht + pb.h ≤ H
        · have hd : decide (ht + pb.h ≤ H) = true := by simpa using hf
          rw [hd]
          have HRQ : Hid (r = fillS (pbOf l H) first (n - (p + 1)) (p + 1) (bx ++ [p]) (ht + pb.h) wt) := by rw [HRR.out, if_neg (by decide), if_pos hf]; rfl
          clear HRR hf hd
          have HPL := Lib.hid (rplaced_any (some ⟨gb, ob, none⟩) n c M l p pb base P0 np cp B bx.length cb W nw cw bx wt ht (first : Nat) (p : Nat) w2 (hx.below (HS.out.s.b.mono hM)) (Nat.le_trans hM HS.out.s.b.size) hp (Nat.le_trans hbase HS.out.s.b.size) HS.out.s.rb HS.out.s.rw (by omega) h0 (by omega) (by omega) hph.2)
          go_wp2_with fail
          refine HPL.out.mono ?_
          rintro e w5 ⟨v, rfl, ⟨B5, nb5, cb5, W5, nw5, cw5, rfl, hB5, hW5⟩, hb5⟩
          have HX5 := Lib.hid (HS.out.s.step hb5)
          have HS5 := Lib.hid (HX5.out.row (P' := P0) (np' := np) (cp' := cp) (ht' := ht + pb.h) (f' := (first : Nat)) (p' := (p : Nat)) hB5 hW5)
          have HX6 := Lib.hid HX5.out.fx
          clear HX5 hB5 hW5 hb5 d0 d1 d2 d3 d4 d5 HPL
          go_upto_region 12 with (refine wpList_fxT rfl _ _ rfl rfl _ _ HX6.out _ _ _ _ _ _ _ _ _ _ _ _ rfl rfl ?_)
          generalize hw6 : w5.setRow _ _ = w6 at HS5 ⊢
          clear hw6 HX6
          have d5 := HS5.out.fx.c5
          have f5 := HS5.out.fx.ff 5
          have HS7 := Lib.hid (HS5.out.cell (HS5.out.fx.set5 (x := (p : Int) + 1)) HS5.out.rb HS5.out.rw)
          have HN := Lib.hid (HS.out.place (B' := B5) (W' := W5) (by rw [HH.out]; exact HS7.out) (by rw [HH.out]; exact HRQ.out) hlt (by rw [HH.out]; omega) (by rw [HH.out]; exact hph.2))
          rw [HH.out] at HN
          clear HS5 HS HRQ
          go_wp2
          go_roundw
          case rel => exact ⟨p + 1, _, _, _, _, _, _, _, _, _, HN⟩
          case measure => rw [cellInt_of HS7.out.fx.c5, M0.out]; omega
        · have hd : decide (ht + pb.h ≤ H) = false := by simpa using hf
          rw [hd]
          have HRQ : Hid (r = cutS (pbOf l H) (backS (pbOf l H) (lineOf (pbOf l H) first bx) p) bx wt) := by rw [HRR.out, if_neg (by decide), if_neg hf]; rfl
          have hbn : ∀ i ∈ bx, i < n := fun i h => by have := HS.out.lb i h; omega
          have hln := HS.out.ln
          have hbk := back_bound hln HS.out.p0p
          have HBK := Lib.hid (fun (w1 : World) (hb : Below w2.heap.size w2 w1) => rback_any (some ⟨gb, ob, none⟩) n c M l H base P0 np cp B bx.length cb W nw cw bx ht first p w1 (hx.below ((HS.out.s.step hb).b.mono hM)) (Nat.le_trans hM (HS.out.s.step hb).b.size) (HS.out.s.step hb).rb (by omega) hln.1 hbn)
          generalize backS (pbOf l H) (lineOf (pbOf l H) first bx) p = bk at *
          have hft : ∀ j i, j < first → bx[j]? = some i → i < bk := fun j i hj hi => by
            have := hln.2.1 i (by rw [List.mem_take_iff_getElem]; have h2 := List.getElem?_eq_some_iff.1 hi; exact ⟨j, by have := h2.1; omega, h2.2⟩)
            omega
          have HCU := Lib.hid (fun (w1 : World) (hb : Below w2.heap.size w2 w1) => rcut_any (some ⟨gb, ob, none⟩) n c M l H base P0 np cp B bx.length cb W nw cw bx wt ht (p : Nat) first bk w1 (hx.below ((HS.out.s.step hb).b.mono hM)) hh (Nat.le_trans hM (HS.out.s.step hb).b.size) (Nat.le_trans hbase (HS.out.s.step hb).b.size) (HS.out.s.step hb).rb (HS.out.s.step hb).rw (by omega) (by omega) hft hbn)
          clear HRR hf hd HFT hft hbn hln hbk
          go_upto_region 10 with fail
          go_cut [] from 61 (fun wx => Hid (∃ (B1 : Option Addr) (nb1 cb1 : Nat) (W1 : Option Addr) (nw1 cw1 : Nat), XS w.heap.size base P0 np cp B1 nb1 cb1 (sumH (pbOf l H) (bx.filter (· < bk))) (first : Nat) W1 nw1 cw1 (bk : Nat) (bx.filter (· < bk)) (wt.filter (· < bk)) w wx))
          case first =>
            go_wp2
            go_region_with (first
              | (go_at_call 50; refine (HBK.out _ (below_of_drewN _ _ 1)).mono ?_; rintro e w3 ⟨rfl, hb3⟩; have hs3 := HS.out.s.step ((below_of_drewN w2.heap.size w2 1).trans hb3); have e0 := hs3.fx.c0; have e1 := hs3.fx.c1; have e2 := hs3.fx.c2; have e3 := hs3.fx.c3; have e4 := hs3.fx.c4; have e5 := hs3.fx.c5)
              | (go_at_call 49; refine (HCU.out _ ((below_of_drewN w2.heap.size w2 1).trans hb3)).mono ?_; rintro e w4 ⟨v, rfl, ⟨B5, nb5, cb5, W5, nw5, cw5, rfl, hB5, hW5⟩, hb5⟩; have hs4 := hs3.step hb5; have z0 := hs4.fx.c0; have z1 := hs4.fx.c1; have z2 := hs4.fx.c2; have z3 := hs4.fx.c3; have z4 := hs4.fx.c4; have z5 := hs4.fx.c5; have y0 := hs4.fx.ff 0; have y1 := hs4.fx.ff 1; have y2 := hs4.fx.ff 2; have y3 := hs4.fx.ff 3; have y4 := hs4.fx.ff 4; have y5 := hs4.fx.ff 5))
            all_goals
              go_wp2
              go_meet
              refine Lib.hid ⟨B5, nb5, cb5, W5, nw5, cw5, ?_⟩
              have hfin := hs4.row (P' := P0) (np' := np) (cp' := cp) (ht' := sumH (pbOf l H) (bx.filter (· < bk))) (f' := (first : Nat)) (p' := (bk : Nat)) hB5 hW5
              rw [← hs4.fx.sets] at hfin
              exact hfin
          case rest =>
            obtain ⟨B1, nb1, cb1, W1, nw1, cw1, hcut⟩ := hcut.out
            clear HS d0 d1 d2 d3 d4 d5 M0 HBK HCU hbw hsz
            have HXE := Lib.hid hcut
            have hre := HRQ.out
            subst hre
            have HRO := Lib.hid (own_keep HO.out (Kpt.of_below (R := fun _ => False) (HXE.out.b)) (fun _ _ e => e))
            have y0 := HXE.out.fx.c0
            have y1 := HXE.out.fx.c1
            have y2 := HXE.out.fx.c2
            have ybs := HXE.out.b.size
            go_wp2_with (at_builtin; refine wpList_app rfl _ _ 25 rfl 42 (.agg #[.slice none 0 0, .int .i64 0]) 2 32 Tryd.underlying25 Tryd.infoPg rfl (by decide) wc [.slice B1 nb1 cb1, .int .i64 (sumH (pbOf l H) (bx.filter (· < bk)))] rfl ?c1 base _ _ _ HRO.out rfl rfl ?c2 (by decide) ?c3 ?_)
            case c1 =>
              first
                | exact ⟨rfl, rfl⟩
                | (intro u hu; simp only [List.mem_cons, List.not_mem_nil, or_false] at hu; rcases hu with rfl | rfl <;> rfl)
            case c2 => omega
            case c3 => omega
            intro v4 w4 ho4 hg4 hb4
            obtain ⟨A4, c4, rfl, _⟩ := own_form ho4
            have HAP := Lib.hid (one_app HXE.out HRO.out ho4 hg4)
            have z0 := HAP.out.1.c0
            have z0f := HAP.out.1.ff 0
            have x0 := HAP.out.2.1.c0
            have x1 := HAP.out.2.1.c1
            have x2 := HAP.out.2.1.c2
            have x3 := HAP.out.2.1.c3
            have x4 := HAP.out.2.1.c4
            have x5 := HAP.out.2.1.c5
            clear y0 y1 y2 ho4 hg4 hb4
            go_wp2_with (refine wpList_fx rfl _ _ rfl _ _ HAP.out.2.2.1 _ _ _ _ _ _ _ _ _ _ _ _ rfl rfl ?_)

            exact bodyPost_ret (results_cell_row rfl _ _ _ _ _ _ _ rfl HAP.out.2.2.2.1 Tryd.underlying55 rfl (by kernel_rfl)) rfl (HAP.out.2.2.2.2 _ rfl rfl rfl rfl)
      · rw [hfl] at c4 HRR
        have HRA : Hid (r = if wt = [] ∧ ht + pb.h ≤ H then fillS (pbOf l H) first (n - (p + 1)) (p + 1) (bx ++ [p]) (ht + pb.h) wt else fillS (pbOf l H) first (n - (p + 1)) (p + 1) bx ht (wt ++ [p])) := by rw [HRR.out, if_pos rfl]; rfl
        clear c0 c1 c2 c3 c5 hfl HRR
        by_cases hw0 : wt = []
        · have hnw0 : nw = 0 := by rw [HNW.out, hw0]; rfl
          subst hw0 hnw0
          go_wp2_with fail
          refine (HFT.out wr hbw).mono ?_
          rintro e w2 ⟨rfl, hb2⟩
          replace HS := Lib.hid ({ HS.out with s := HS.out.s.step hb2 } : OS n w.heap.size base P0 np cp first p0 (pbOf l H) r w w2 p bx [] ht B bx.length cb W 0 cw)
          clear d0 d1 d2 d3 d4 d5 c4 hb2 hbw hsz
          have hbw := HS.out.s.b
          have hsz := hbw.size
          have d0 := HS.out.s.fx.c0
          have d1 := HS.out.s.fx.c1
          have d2 := HS.out.s.fx.c2
          have d3 := HS.out.s.fx.c3
          have d4 := HS.out.s.fx.c4
          have d5 := HS.out.s.fx.c5
          by_cases hf : ht + pb.h ≤ H
          · have hd : decide (ht + pb.h ≤ H) = true := by simpa using hf
            rw [hd]
            have HRQ : Hid (r = fillS (pbOf l H) first (n - (p + 1)) (p + 1) (bx ++ [p]) (ht + pb.h) []) := by rw [HRA.out, if_pos ⟨by trivial, hf⟩]; rfl
            clear HRA hf hd
            have HPL := Lib.hid (rplaced_any (some ⟨gb, ob, none⟩) n c M l p pb base P0 np cp B bx.length cb W 0 cw bx [] ht (first : Nat) (p : Nat) w2 (hx.below (HS.out.s.b.mono hM)) (Nat.le_trans hM HS.out.s.b.size) hp (Nat.le_trans hbase HS.out.s.b.size) HS.out.s.rb HS.out.s.rw (by omega) h0 (by omega) (by omega) hph.2)
            go_wp2_with fail
            refine HPL.out.mono ?_
            rintro e w5 ⟨v, rfl, ⟨B5, nb5, cb5, W5, nw5, cw5, rfl, hB5, hW5⟩, hb5⟩
            have HX5 := Lib.hid (HS.out.s.step hb5)
            have HS5 := Lib.hid (HX5.out.row (P' := P0) (np' := np) (cp' := cp) (ht' := ht + pb.h) (f' := (first : Nat)) (p' := (p : Nat)) hB5 hW5)
            have HX6 := Lib.hid HX5.out.fx
            clear HX5 hB5 hW5 hb5 d0 d1 d2 d3 d4 d5 HPL
            go_upto_region 8 with (refine wpList_fxT rfl _ _ rfl rfl _ _ HX6.out _ _ _ _ _ _ _ _ _ _ _ _ rfl rfl ?_)
            generalize hw6 : w5.setRow _ _ = w6 at HS5 ⊢
            clear hw6 HX6
            have d5 := HS5.out.fx.c5
            have f5 := HS5.out.fx.ff 5
            have HS7 := Lib.hid (HS5.out.cell (HS5.out.fx.set5 (x := (p : Int) + 1)) HS5.out.rb HS5.out.rw)
            have HN := Lib.hid (HS.out.place (B' := B5) (W' := W5) (by rw [HH.out]; exact HS7.out) (by rw [HH.out]; exact HRQ.out) hlt (by rw [HH.out]; omega) (by rw [HH.out]; exact hph.2))
            rw [HH.out] at HN
            clear HS5 HS HRQ
            go_wp2
            go_roundw
            case rel => exact ⟨p + 1, _, _, _, _, _, _, _, _, _, HN⟩
            case measure => rw [cellInt_of HS7.out.fx.c5, M0.out]; omega
          · have hd : decide (ht + pb.h ≤ H) = false := by simpa using hf
            rw [hd]
            have HRQ : Hid (r = fillS (pbOf l H) first (n - (p + 1)) (p + 1) bx ht ([] ++ [p])) := by rw [HRA.out, if_neg (fun h => hf h.2)]; rfl
            clear HRA hf hd
            go_upto_region 7 with fail
            go_cut [] from 41 to 49 (fun wx => Hid (∃ (W1 : Option Addr) (nw1 cw1 : Nat), XS w.heap.size base P0 np cp B bx.length cb ht (first : Nat) W1 nw1 cw1 (p : Nat) bx ([] ++ [p]) w wx))
            case first =>
              have hq := HS.out.s.fx.lt
              obtain ⟨A9, c9, e9, hrd⟩ := HS.out.s.rw.form
              injection e9 with e91 e92 e93
              subst e91 e93
              rw [← e92] at hrd
              clear e92
              have hnw3 : 0 ≤ 1000000 := by omega
              have HX := Lib.hid HS.out.s
              have HRD := Lib.hid (fun (W1 : World) (hb : Below w2.heap.size w2 W1) => hrd.below hb)
              have hbb := Nat.le_trans hbase hsz
              clear hrd d0 d1 d2 d3
              go_wp2
              go_region_law
                (first
                  | (refine step_cp (by rfl) (.tmp 41) (.tmp 43) (by rfl) _ w2.heap.size w2.heap.size w2.heap.size W 0 cw (nints []) (own7a w2) (HRD.out _ (by repeat (first | assumption | exact Below.refl _ _ | refine Below.drew ?_ | refine below_al ?_ _))) hnw3 (by first | exact (below_al (Below.refl _ _).drew _).size | (simp; done)) (by rfl) (by rfl) ?_; intro A5 c5 w1 ho1 hk1; have hb1 : Below w2.heap.size w2 w1 := (below_al (Below.refl _ _).drew _).trans (hk1.below (by first | exact (below_al (Below.refl _ _).drew _).size | (simp; done)) (fun k hk => by omega)); have k4 := (HX.out.step hb1).fx.c4; have k5 := (HX.out.step hb1).fx.c5)
                  | (refine step_cp (by rfl) (.tmp 41) (.tmp 43) (by rfl) _ w2.heap.size w2.heap.size w2.heap.size W 0 cw (nints []) (own7b w2 (.cells #[.int .i64 (p : Nat)] 3)) (HRD.out _ (by repeat (first | assumption | exact Below.refl _ _ | refine Below.drew ?_ | refine below_al ?_ _))) hnw3 (by first | exact (below_al (below_al (Below.refl _ _).drew _) _).size | (simp; done)) (by rfl) (by rfl) ?_; intro A5 c5 w1 ho1 hk1; have hb1 : Below w2.heap.size w2 w1 := (below_al (below_al (Below.refl _ _).drew _) _).trans (hk1.below (below_al (below_al (Below.refl _ _).drew _) _).size (fun k hk => by omega)); have k4 := (HX.out.step hb1).fx.c4; have k5 := (HX.out.step hb1).fx.c5; have hT0 := hk1.at (at7b w2 (.cells #[.int .i64 (p : Nat)] 3)) (by simp))
                  | (refine step_cp (by rfl) (.tmp 41) (.tmp 43) (by rfl) _ w2.heap.size (w2.heap.size + 1) w2.heap.size W 0 cw (nints []) (own7c w2 (.cells #[.int .i64 (p : Nat)] 3)) (HRD.out _ (by repeat (first | assumption | exact Below.refl _ _ | refine Below.drew ?_ | refine below_al ?_ _))) hnw3 (by first | exact (below_al (below_al (Below.refl _ _).drew _) _).size | (simp; done)) (by rfl) (by rfl) ?_; intro A5 c5 w1 ho1 hk1; have hb1 : Below w2.heap.size w2 w1 := (below_al (below_al (Below.refl _ _).drew _) _).trans (hk1.below (below_al (below_al (Below.refl _ _).drew _) _).size (fun k hk => by omega)); have k4 := (HX.out.step hb1).fx.c4; have k5 := (HX.out.step hb1).fx.c5; have hT0 := hk1.at (at7c w2 (.cells #[.int .i64 (p : Nat)] 3)) (by simp))
                  | (refine step_ap (by rfl) (.tmp 44) (.tmp 47) (by rfl) (w1.alloc (.cells #[.int .i64 (p : Nat)] 3)) w2.heap.size A5 0 c5 (nints []) (ho1.alloc _) w1.heap.size (p : Nat) (heap_alloc_new w1 _) hnw3 (below_al hb1 _).size (by rfl) (by rfl) ?_; intro g2 cap2 w9 hW9 hb9; have hB2 : Below w2.heap.size w2 w9 := (below_al hb1 _).trans hb9; have hX2 := HS.out.s.step hB2; have z4 := hX2.fx.c4; have zf := hX2.fx.ff 4)
                  | (refine step_ap (by rfl) (.tmp 44) (.tmp 47) (by rfl) w1 w2.heap.size A5 0 c5 (nints []) ho1 _ (p : Nat) hT0 hnw3 hb1.size (by rfl) (by rfl) ?_; intro g2 cap2 w9 hW9 hb9; have hB2 : Below w2.heap.size w2 w9 := hb1.trans hb9; have hX2 := HS.out.s.step hB2; have z4 := hX2.fx.c4; have zf := hX2.fx.ff 4))
              all_goals
                go_wp2
                go_meet
                rw [nints_snoc] at hW9
                exact Lib.hid ⟨_, _, _, hX2.cell hX2.fx.set4 hX2.rb (hW9.mono hbb)⟩
            case rest =>
              obtain ⟨W1, nw1, cw1, hcut⟩ := hcut.out
              clear d0 d1 d2 d3 d4 d5
              have d5 := hcut.fx.c5
              have f5 := hcut.fx.ff 5
              have HS7 := Lib.hid (hcut.cell (hcut.fx.set5 (x := (p : Int) + 1)) hcut.rb hcut.rw)
              have HN := Lib.hid (HS.out.wait (W' := W1) HS7.out HRQ.out hlt)
              clear HS HRQ hcut
              go_wp2
              go_roundw
              case rel => exact ⟨p + 1, _, _, _, _, _, _, _, _, _, HN⟩
              case measure => rw [cellInt_of HS7.out.fx.c5, M0.out]; omega
        · have hnz : nw ≠ 0 := by rw [HNW.out]; intro h; exact hw0 (List.eq_nil_of_length_eq_zero h)
          have q0 : ((nw : Int) == 0) = false := by simp; omega
          have HRQ : Hid (r = fillS (pbOf l H) first (n - (p + 1)) (p + 1) bx ht (wt ++ [p])) := by rw [HRA.out, if_neg (fun h => hw0 h.1)]; rfl
          clear HRA HFT hw0
          go_upto_region 7 with fail
          go_cut [] from 41 to 49 (fun wx => Hid (∃ (W1 : Option Addr) (nw1 cw1 : Nat), XS w.heap.size base P0 np cp B bx.length cb ht (first : Nat) W1 nw1 cw1 (p : Nat) bx (wt ++ [p]) w wx))
          case first =>
            have hq := HS.out.s.fx.lt
            obtain ⟨A9, c9, e9, hrd⟩ := HS.out.s.rw.form
            injection e9 with e91 e92 e93
            subst e91 e93
            rw [← e92] at hrd
            clear e92
            have hnw3 : nw ≤ 1000000 := by rw [HNW.out]; omega
            have HX := Lib.hid HS.out.s
            have HRD := Lib.hid (fun (W1 : World) (hb : Below wr.heap.size wr W1) => hrd.below hb)
            have hbb := Nat.le_trans hbase hsz
            clear hrd d0 d1 d2 d3
            go_wp2
            go_region_law
              (first
                | (refine step_cp (by rfl) (.tmp 41) (.tmp 43) (by rfl) _ wr.heap.size wr.heap.size wr.heap.size W nw cw (nints wt) (own7a wr) (HRD.out _ (by repeat (first | assumption | exact Below.refl _ _ | refine Below.drew ?_ | refine below_al ?_ _))) hnw3 (by first | exact (below_al (Below.refl _ _).drew _).size | (simp; done)) (by rfl) (by rfl) ?_; intro A5 c5 w1 ho1 hk1; have hb1 : Below wr.heap.size wr w1 := (below_al (Below.refl _ _).drew _).trans (hk1.below (by first | exact (below_al (Below.refl _ _).drew _).size | (simp; done)) (fun k hk => by omega)); have k4 := (HX.out.step hb1).fx.c4; have k5 := (HX.out.step hb1).fx.c5)
                | (refine step_cp (by rfl) (.tmp 41) (.tmp 43) (by rfl) _ wr.heap.size wr.heap.size wr.heap.size W nw cw (nints wt) (own7b wr (.cells #[.int .i64 (p : Nat)] 3)) (HRD.out _ (by repeat (first | assumption | exact Below.refl _ _ | refine Below.drew ?_ | refine below_al ?_ _))) hnw3 (by first | exact (below_al (below_al (Below.refl _ _).drew _) _).size | (simp; done)) (by rfl) (by rfl) ?_; intro A5 c5 w1 ho1 hk1; have hb1 : Below wr.heap.size wr w1 := (below_al (below_al (Below.refl _ _).drew _) _).trans (hk1.below (below_al (below_al (Below.refl _ _).drew _) _).size (fun k hk => by omega)); have k4 := (HX.out.step hb1).fx.c4; have k5 := (HX.out.step hb1).fx.c5; have hT0 := hk1.at (at7b wr (.cells #[.int .i64 (p : Nat)] 3)) (by simp))
                | (refine step_cp (by rfl) (.tmp 41) (.tmp 43) (by rfl) _ wr.heap.size (wr.heap.size + 1) wr.heap.size W nw cw (nints wt) (own7c wr (.cells #[.int .i64 (p : Nat)] 3)) (HRD.out _ (by repeat (first | assumption | exact Below.refl _ _ | refine Below.drew ?_ | refine below_al ?_ _))) hnw3 (by first | exact (below_al (below_al (Below.refl _ _).drew _) _).size | (simp; done)) (by rfl) (by rfl) ?_; intro A5 c5 w1 ho1 hk1; have hb1 : Below wr.heap.size wr w1 := (below_al (below_al (Below.refl _ _).drew _) _).trans (hk1.below (below_al (below_al (Below.refl _ _).drew _) _).size (fun k hk => by omega)); have k4 := (HX.out.step hb1).fx.c4; have k5 := (HX.out.step hb1).fx.c5; have hT0 := hk1.at (at7c wr (.cells #[.int .i64 (p : Nat)] 3)) (by simp))
                | (refine step_ap (by rfl) (.tmp 44) (.tmp 47) (by rfl) (w1.alloc (.cells #[.int .i64 (p : Nat)] 3)) wr.heap.size A5 nw c5 (nints wt) (ho1.alloc _) w1.heap.size (p : Nat) (heap_alloc_new w1 _) hnw3 (below_al hb1 _).size (by rfl) (by rfl) ?_; intro g2 cap2 w9 hW9 hb9; have hB2 : Below wr.heap.size wr w9 := (below_al hb1 _).trans hb9; have hX2 := HS.out.s.step hB2; have z4 := hX2.fx.c4; have zf := hX2.fx.ff 4)
                | (refine step_ap (by rfl) (.tmp 44) (.tmp 47) (by rfl) w1 wr.heap.size A5 nw c5 (nints wt) ho1 _ (p : Nat) hT0 hnw3 hb1.size (by rfl) (by rfl) ?_; intro g2 cap2 w9 hW9 hb9; have hB2 : Below wr.heap.size wr w9 := hb1.trans hb9; have hX2 := HS.out.s.step hB2; have z4 := hX2.fx.c4; have zf := hX2.fx.ff 4))
            all_goals
              go_wp2
              go_meet
              rw [nints_snoc] at hW9
              exact Lib.hid ⟨_, _, _, hX2.cell hX2.fx.set4 hX2.rb (hW9.mono hbb)⟩
          case rest =>
            obtain ⟨W1, nw1, cw1, hcut⟩ := hcut.out
            clear d0 d1 d2 d3 d4 d5
            have d5 := hcut.fx.c5
            have f5 := hcut.fx.ff 5
            have HS7 := Lib.hid (hcut.cell (hcut.fx.set5 (x := (p : Int) + 1)) hcut.rb hcut.rw)
            have HN := Lib.hid (HS.out.wait (W' := W1) HS7.out HRQ.out hlt)
            clear HS HRQ hcut
            go_wp2
            go_roundw
            case rel => exact ⟨p + 1, _, _, _, _, _, _, _, _, _, HN⟩
            case measure => rw [cellInt_of HS7.out.fx.c5, M0.out]; omega
    · have e : p = n := by omega
      subst e
      have hre : r = (bx, ht, p, wt) := by rw [HS.out.r, Nat.sub_self]; rfl
      subst hre
      have HXE := Lib.hid HS.out.s
      clear HS d0 d1 d2 d3 d4 M0
      have HRO := Lib.hid (own_keep HO.out (Kpt.of_below (R := fun _ => False) (HXE.out.b)) (fun _ _ e => e))
      have y0 := HXE.out.fx.c0
      have y1 := HXE.out.fx.c1
      have y2 := HXE.out.fx.c2
      have ybs := HXE.out.b.size
      go_wp2_with (at_builtin; refine wpList_app rfl _ _ 25 rfl 42 (.agg #[.slice none 0 0, .int .i64 0]) 2 32 Tryd.underlying25 Tryd.infoPg rfl (by decide) wr [.slice B bx.length cb, .int .i64 ht] rfl ?c1 base _ _ _ HRO.out rfl rfl ?c2 (by decide) ?c3 ?_)
      case c1 =>
        first
          | exact ⟨rfl, rfl⟩
          | (intro u hu; simp only [List.mem_cons, List.not_mem_nil, or_false] at hu; rcases hu with rfl | rfl <;> rfl)
      case c2 => omega
      case c3 => omega
      intro v4 w4 ho4 hg4 hb4
      obtain ⟨A4, c4, rfl, _⟩ := own_form ho4
      have HAP := Lib.hid (one_app HXE.out HRO.out ho4 hg4)
      have z0 := HAP.out.1.c0
      have z0f := HAP.out.1.ff 0
      have x0 := HAP.out.2.1.c0
      have x1 := HAP.out.2.1.c1
      have x2 := HAP.out.2.1.c2
      have x3 := HAP.out.2.1.c3
      have x4 := HAP.out.2.1.c4
      have x5 := HAP.out.2.1.c5
      clear y0 y1 y2 ho4 hg4 hb4
      go_wp2_with (refine wpList_fx rfl _ _ rfl _ _ HAP.out.2.2.1 _ _ _ _ _ _ _ _ _ _ _ _ rfl rfl ?_)

      exact bodyPost_ret (results_cell_row rfl _ _ _ _ _ _ _ rfl HAP.out.2.2.2.1 Tryd.underlying55 rfl (by kernel_rfl)) rfl (HAP.out.2.2.2.2 _ rfl rfl rfl rfl)
end Go.Proofs.YtpgpkgpiengmkaaDoor
