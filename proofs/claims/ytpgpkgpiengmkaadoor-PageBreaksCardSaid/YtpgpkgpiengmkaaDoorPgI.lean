/-
  Layer 40 (page): the program's fill, its walk.
-/
import Derived.Test.YtpgpkgpiengmkaaDoorPgH
namespace Go.Proofs.YtpgpkgpiengmkaaDoor
open Go.RowKit
set_option linter.unusedVariables false
set_option linter.unusedSimpArgs false
attribute [local go_sem] B_data B_size

set_option maxHeartbeats 8000000 in
set_option maxRecDepth 100000 in
theorem fill_any (A : Option Addr) (n c M : Nat) (l : List Bx) (H : Int) (q : Nat) (vB vL vW : Value) (ht : Int) (bx wt : List Nat) (first base p : Nat) (w : World) (r : List Nat × Int × Nat × List Nat) (hx : BxAt w M A n l) (hh : HtOk l) (hn : n ≤ 1000)
    (hM : M ≤ base) (hMq : M ≤ q) (hbw : base ≤ w.heap.size) (hS : FS n q vB vL vW (pbOf l H) first base w r p bx wt ht vB vL vW w) :
    Calls Tryd.prog 24 #[.pointer (some ⟨q, 0, none⟩), .slice A n c, .int .i64 p, vW, .int .i64 H] w (FillPost q vB vL vW r base w) := by
  have HL := Lib.hid hx.len
  have hR : ∀ k, FR q vB vL vW k → M ≤ k := fun k hk => by
    rcases hk with rfl | hk | hk | hk
    · exact hMq
    · have := (hS.rb.lt k hk).1; omega
    · have := (hS.rl.lt k hk).1; omega
    · have := (hS.rw.lt k hk).1; omega
  obtain ⟨AW0, cW0, hvW0, _⟩ := hS.rw.form
  rw [nints_len] at hvW0
  generalize hm0 : wt.length = m0 at hvW0
  subst hvW0
  have HS := Lib.hid hS
  have HR0 := Lib.hid hR
  clear hR hm0 hS
  go_enter Tryd.func24, Tryd.ntmps24
  go_wp2
  go_loopw [2, 3] (fun pv wv wr => ∃ (p : Nat) (bx wt : List Nat) (ht : Int) (vB1 vL1 : Value), pv = .int .i64 p ∧ Hid (FS n q vB vL (.slice AW0 m0 cW0) (pbOf l H) first base w r p bx wt ht vB1 vL1 wv wr)) (fun pv _ _ => n - (intOf pv).toNat)
  case atStart => exact ⟨p, bx, wt, ht, vB, vL, rfl, HS⟩
  case round =>
    clear HS
    obtain ⟨p, bx, wt, ht, vB1, vL1, rfl, HS⟩ := hrel
    have hk := HS.out.k
    have hsz := hk.size
    have hbM : Below M w wr := hk.below (by omega) HR0.out
    have hpn := HS.out.pn
    have hnb := HS.out.nb
    have h0 := HS.out.h0
    have h1 := HS.out.h1
    obtain ⟨AW, cW, rfl, _⟩ := HS.out.rw.form
    rw [nints_len] at HS
    simp only [nints_len]
    by_cases hlt : p < n
    · obtain ⟨pb, hp⟩ := get_of (l := l) (k := p) (by rw [HL.out]; exact hlt)
      have hph := hh pb (List.mem_of_getElem? hp)
      obtain ⟨gb, ob, hA, hgb, c0, c1, c2, c3, c4, c5⟩ := (hx.below hbM).at6 hp
      subst hA
      have i1 : (0 : Int) ≤ (p : Int) := by omega
      have i2 : (p : Int) < (n : Int) := by omega
      have HRR : Hid (r = if pb.fl = true then (if wt = [] ∧ ht + pb.h ≤ H then fillS (pbOf l H) first (n - (p + 1)) (p + 1) (bx ++ [p]) (ht + pb.h) wt else fillS (pbOf l H) first (n - (p + 1)) (p + 1) bx ht (wt ++ [p]))
          else if ht + pb.h ≤ H then fillS (pbOf l H) first (n - (p + 1)) (p + 1) (bx ++ [p]) (ht + pb.h) wt else cutS (pbOf l H) (backS (pbOf l H) (lineOf (pbOf l H) first bx) p) bx wt) := by
        rw [HS.out.r, fill_step hlt, pb_h hp, pb_fl hp]; rfl
      have HH := Lib.hid (pb_h (H := H) hp)
      have HF := Lib.hid (pb_fl (H := H) hp)
      go_wp2_with fail
      refine (fits_any q vB1 vL1 ht H pb _ HS.out.fb h0 (by omega) (by omega) hph.2).mono ?_
      rintro e w2 ⟨rfl, hb2⟩
      replace HS := Lib.hid (HS.out.step hb2)
      have hbM2 : Below M w w2 := HS.out.k.below (by omega) HR0.out
      have hsz2 := HS.out.k.size
      obtain ⟨gb', ob', hA, _, _, _, _, _, c4, _⟩ := (hx.below hbM2).at6 hp
      injection hA with hA
      injection hA with hA hA2 _
      subst hA hA2
      clear c0 c1 c2 c3 c5 hb2 hk hbM hsz
      cases hfl : pb.fl
      · rw [hfl] at c4 HF
        by_cases hf : ht + pb.h ≤ H
        · have hd : decide (ht + pb.h ≤ H) = true := by simpa using hf
          rw [hd]
          have HRQ : Hid (r = fillS (pbOf l H) first (n - (p + 1)) (p + 1) (bx ++ [p]) (ht + pb.h) wt) := by rw [HRR.out, hfl, if_neg (by decide), if_pos hf]; rfl
          clear HRR hf hd hfl
          go_wp2_with fail
          refine (place_any _ n c M l p pb q vB1 vL1 ht (nints bx) base w2 (hx.below hbM2) hp hM hMq (by omega) HS.out.fb HS.out.rb (by rw [nints_len]; omega) h0 (by omega) (by omega) hph.2).mono ?_
          rintro e w3 ⟨rfl, vB2, hfb3, hrb3, hk3, hn3⟩
          rw [nints_snoc] at hrb3
          rw [← HH.out] at hfb3
          obtain ⟨a1, a2, a3, a4, a5, a6⟩ := HS.out.pl hfb3 hrb3 hk3 hn3
          have z2 := hfb3.c2
          have HP3 := Lib.hid (And.intro hfb3 (And.intro hrb3 (And.intro hk3 hn3)))
          have A1 := Lib.hid a1
          have hsz3 := hk3.size
          have hnL := a1.ne hfb3 ne_int
          have hll : (lineOf (pbOf l H) first bx).length ≤ 1000 := by
            unfold lineOf
            have h1 := List.length_filter_le (fun i => !(pbOf l H).fl i) (bx.drop first)
            rw [List.length_drop] at h1
            omega
          clear hfb3 hrb3 hk3 hn3 a1 a2 a3 a4 a5 a6
          go_wp2_with (at_builtin; refine wpList_appW rfl _ _ rfl w3 base vL1 (nints (lineOf (pbOf l H) first bx)) (p : Int) A1.out rfl rfl ?c2 ?c3 ?_)
          case c2 => rw [nints_len]; omega
          case c3 => omega
          intro v4 w4 hL4 hk4 hn4
          rw [nints_snoc] at hL4
          obtain ⟨A4, c4', rfl, _⟩ := hL4.form
          obtain ⟨h31, h32, h33, h34⟩ := HP3.out
          have z2 := (h31.keep hk4 hnL).c2
          have zf := (h31.keep hk4 hnL).ff (i := 2)
          have HN := Lib.hid (HS.out.line h31 h32 h33 h34 hL4 hk4 hn4 HF.out hlt (by rw [HH.out]; omega) (by rw [HH.out]; exact hph.2) (by rw [HH.out]; exact HRQ.out))
          rw [HH.out] at HN
          generalize (nints (lineOf (pbOf l H) first bx ++ [p])).length = m4 at *
          clear h31 h32 h33 h34 hL4 hk4 hn4 HP3 A1 HS
          go_wp2
          go_roundw
          case rel => exact ⟨p + 1, bx ++ [p], wt, ht + pb.h, vB2, _, by go_num, HN⟩
          case measure => simp [intOf] <;> omega
        · have hd : decide (ht + pb.h ≤ H) = false := by simpa using hf
          rw [hd]
          have HRQ : r = cutS (pbOf l H) (backS (pbOf l H) (lineOf (pbOf l H) first bx) p) bx wt := by rw [HRR.out, hfl, if_neg (by decide), if_neg hf]
          subst HRQ
          clear HRR hf hd hfl
          have hCI : CutIn n q vB1 vL1 (.slice AW wt.length cW) (pbOf l H) base w2 bx (lineOf (pbOf l H) first bx) wt ht p := by
            have h := HS.out
            refine ⟨h.fb, h.rb, h.rl, h.rw, h.sh, h.lb, fun i hi => ?_, h.lw, h.sw, h.pn, by omega, ?_, by omega, h.dw⟩
            · unfold lineOf at hi
              have := h.lb i (List.mem_of_mem_drop (List.mem_filter.1 hi).1)
              omega
            · unfold lineOf
              have h1 := List.length_filter_le (fun i => !(pbOf l H).fl i) (bx.drop first)
              rw [List.length_drop] at h1
              omega
          have HC := Lib.hid (cut_any _ n c M l H q vB1 vL1 (.slice AW wt.length cW) ht bx (lineOf (pbOf l H) first bx) wt base p w2 (hx.below hbM2) hh hn hM hMq (by omega) hCI)
          have HC2 := Lib.hid hCI
          clear hCI
          obtain ⟨r, hcs⟩ : ∃ r, r = cutS (pbOf l H) (backS (pbOf l H) (lineOf (pbOf l H) first bx) p) bx wt := ⟨_, rfl⟩
          rw [← hcs] at HC
          have HCS := Lib.hid hcs
          clear hcs
          generalize wt.length = mw at *
          go_wp2_with fail
          refine HC.out.mono ?_
          rintro e w3 ⟨vB2, vW2, rfl, hfb3, hrb3, hrw3, hk3, hn3, ho3⟩
          have HP : Hid (FillPost q vB vL (.slice AW0 m0 cW0) r base w (.returned (.tuple #[.int .i64 (r.2.2.1 : Nat), vW2])) w3) := by
            have h := HS.out
            refine ⟨vB2, vL1, vW2, rfl, hfb3, hrb3, hrw3, h.k.trans2 hk3 (fun k hk e => ?_), h.nB.trans h.k.size hn3, fun k e => h.nW k (by rw [← ho3]; exact e), fun k e e2 => ?_⟩
            · rcases e with e | e | e
              · exact .inl e
              · exact .inr (.inl (h.nB.old e hk))
              · exact .inr (.inr (.inr (h.nW.old e hk)))
            · rw [ho3] at e
              exact (h.dw k e).1 (hn3.old e2 (h.rw.lt k e).2)
          clear hfb3 hrb3 hrw3 hk3 hn3 ho3 HS HC HC2
          go_wp2
          go_ret2
          rw [← HCS.out]
          exact HP.out
      · rw [hfl] at c4 HF
        by_cases hf : wt = [] ∧ ht + pb.h ≤ H
        · obtain ⟨rfl, hf⟩ := hf
          have hd : decide (ht + pb.h ≤ H) = true := by simpa using hf
          rw [hd]
          have HRQ : Hid (r = fillS (pbOf l H) first (n - (p + 1)) (p + 1) (bx ++ [p]) (ht + pb.h) []) := by rw [HRR.out, hfl, if_pos rfl, if_pos ⟨rfl, hf⟩]; rfl
          clear HRR hf hd hfl
          go_wp2_with fail
          refine (place_any _ n c M l p pb q vB1 vL1 ht (nints bx) base w2 (hx.below hbM2) hp hM hMq (by omega) HS.out.fb HS.out.rb (by rw [nints_len]; omega) h0 (by omega) (by omega) hph.2).mono ?_
          rintro e w3 ⟨rfl, vB2, hfb3, hrb3, hk3, hn3⟩
          rw [nints_snoc] at hrb3
          rw [← HH.out] at hfb3
          have HN := Lib.hid (HS.out.float hfb3 hrb3 hk3 hn3 HF.out hlt (by rw [HH.out]; omega) (by rw [HH.out]; exact hph.2) (by rw [HH.out]; exact HRQ.out))
          rw [HH.out] at HN
          clear hfb3 hrb3 hk3 hn3 HS
          go_wp2
          go_roundw
          case rel => exact ⟨p + 1, bx ++ [p], [], ht + pb.h, vB2, vL1, by go_num, HN⟩
          case measure => simp [intOf] <;> omega
        · have HRQ : Hid (r = fillS (pbOf l H) first (n - (p + 1)) (p + 1) bx ht (wt ++ [p])) := by rw [HRR.out, hfl, if_pos rfl, if_neg hf]; rfl
          have qz : (((wt.length : Nat) : Int) == 0) = true → decide (ht + pb.h ≤ H) = false := fun h => by
            have h : wt = [] := List.eq_nil_of_length_eq_zero (by simpa using h)
            simpa using fun e => hf ⟨h, e⟩
          have hrw2 := HS.out.rw
          have HRW := Lib.hid hrw2
          have hwl : wt.length ≤ 1000 := by omega
          clear HRR hf hfl hrw2
          have HWL := Lib.hid (rfl : wt.length = wt.length)
          generalize hmw : wt.length = mw at *
          generalize hdd : decide (ht + pb.h ≤ H) = d at *
          have hcase : ((mw : Int) == 0) = false ∨ (((mw : Int) == 0) = true ∧ d = false) := by
            cases h : ((mw : Int) == 0)
            · exact .inl rfl
            · exact .inr ⟨rfl, qz h⟩
          clear qz
          have fin : ∀ v4 w4, WRow w4 base v4 (nints wt ++ [(p : Int)]) → Kpt (fun k => (Value.slice AW mw cW).ownBlock = some k) w2 w4 → Nxt w2 (.slice AW mw cW) v4 → Hid (FS n q vB vL (.slice AW0 m0 cW0) (pbOf l H) first base w r (p + 1) bx (wt ++ [p]) ht vB1 vL1 v4 w4) := fun v4 w4 h1 h2 h3 => by
            rw [nints_snoc] at h1
            exact HS.out.wait h1 h2 h3 hlt HRQ.out
          have FIN := Lib.hid fin
          clear fin HS hdd
          rcases hcase with q0 | ⟨q0, rfl⟩
          · go_wp2_with (at_builtin; refine wpList_appW rfl _ _ rfl w2 base (.slice AW mw cW) (nints wt) (p : Int) HRW.out rfl rfl ?c2 ?c3 ?_)
            case c2 => rw [nints_len, hmw]; omega
            case c3 => omega
            intro v4 w4 hW4 hk4 hn4
            have HN := FIN.out v4 w4 hW4 hk4 hn4
            clear hW4 hk4 hn4
            go_wp2
            go_roundw
            case rel => exact ⟨p + 1, bx, wt ++ [p], ht, vB1, vL1, by go_num, HN⟩
            case measure => simp [intOf] <;> omega
          · go_wp2_with (at_builtin; refine wpList_appW rfl _ _ rfl w2 base (.slice AW mw cW) (nints wt) (p : Int) HRW.out rfl rfl ?c2 ?c3 ?_)
            case c2 => rw [nints_len, hmw]; omega
            case c3 => omega
            intro v4 w4 hW4 hk4 hn4
            have HN := FIN.out v4 w4 hW4 hk4 hn4
            clear hW4 hk4 hn4
            go_wp2
            go_roundw
            case rel => exact ⟨p + 1, bx, wt ++ [p], ht, vB1, vL1, by go_num, HN⟩
            case measure => simp [intOf] <;> omega
    · have e : p = n := by omega
      subst e
      have hr : r = (bx, ht, p, wt) := by rw [HS.out.r, Nat.sub_self]; rfl
      subst hr
      have HP : Hid (FillPost q vB vL (.slice AW0 m0 cW0) (bx, ht, p, wt) base w (.returned (.tuple #[.int .i64 (p : Nat), .slice AW wt.length cW])) wr) := by
        have h := HS.out
        exact ⟨vB1, vL1, _, rfl, h.fb, h.rb, h.rw, h.k, h.nB, h.nW, fun k e => (h.dw k e).1⟩
      generalize wt.length = mw at *
      clear HS hk
      go_wp2
      go_ret2
      exact HP.out
end Go.Proofs.YtpgpkgpiengmkaaDoor
