/-
  Layer 40 (page): the program's cut.
-/
import Derived.Test.YtpgpkgpiengmkaaDoorPgD
namespace Go.Proofs.YtpgpkgpiengmkaaDoor
open Go.RowKit
set_option linter.unusedVariables false
set_option linter.unusedSimpArgs false
attribute [local go_sem] B_data B_size

theorem WRow.int {W : World} {base m c j : Nat} {A : Option Addr} {xs : List Int} {x : Int} (h : WRow W base (.slice A m c) xs) (hj : xs[j]? = some x) :
    ∃ g o, A = some ⟨g, o, none⟩ ∧ g < W.heap.size ∧ W.cell? ⟨g, o + j, none⟩ = some (.int .i64 x) := by
  rcases h with ⟨_, rfl⟩ | h2
  · simp at hj
  · obtain ⟨g, off, cap, cur, e, hb⟩ := id h2
    have h3 : WRow W base (.slice (some ⟨g, off, none⟩) xs.length cap) xs := by rw [← e]; exact .inr h2
    obtain ⟨_, _, hg, _, hc, _⟩ := h3.cells
    injection e with e1
    exact ⟨g, off, e1, hg, hc j x hj⟩
/-- while a page is cut -/
structure CS (q : Nat) (vB vL : Value) (b : Pb) (base : Nat) (w : World) (y : Nat) (out : List Nat) (vF : Value) (wr : World) : Prop where
  fb : FB q vB (sumH b out) vL wr
  ro : WRow wr base vF (nints out)
  nf : ∀ k, vF.ownBlock = some k → w.heap.size < k
  k : Kpt (fun k => k = q) w wr
  ce : wr.cell? ⟨w.heap.size, 0, none⟩ = some (.int .i64 (y : Int))
  h0 : 0 ≤ sumH b out
  h1 : sumH b out ≤ (out.length : Int) * 1048576
  lt : w.heap.size < wr.heap.size
/-- what cut leaves -/
def CutPost (q : Nat) (vB vL vW : Value) (r : List Nat × Int × Nat × List Nat) (base : Nat) (w : World) (e : Ending) (w' : World) : Prop :=
  ∃ vB' vW', e = .returned (.tuple #[.int .i64 (r.2.2.1 : Nat), vW']) ∧ FB q vB' r.2.1 vL w' ∧ WRow w' base vB' (nints r.1) ∧ WRow w' base vW' (nints r.2.2.2) ∧ Kpt (fun k => k = q ∨ vB.ownBlock = some k ∨ vW.ownBlock = some k) w w' ∧ Nxt w vB vB' ∧ vW'.ownBlock = vW.ownBlock
structure CutIn (n q : Nat) (vB vL vW : Value) (b : Pb) (base : Nat) (w : World) (bx ln wt : List Nat) (ht : Int) (p : Nat) : Prop where
  fb : FB q vB ht vL w
  rb : WRow w base vB (nints bx)
  rl : WRow w base vL (nints ln)
  rw : WRow w base vW (nints wt)
  ht : ht = sumH b bx
  lb : ∀ i ∈ bx, i < p
  ll : ∀ i ∈ ln, i < n
  lw : ∀ i ∈ wt, i < p
  sw : wt.Pairwise (· < ·)
  pn : p ≤ n
  nb : bx.length ≤ 1000
  nl : ln.length ≤ 1000
  nw : wt.length ≤ 1000
  dw : ∀ k, vW.ownBlock = some k → vB.ownBlock ≠ some k ∧ vL.ownBlock ≠ some k
section
variable {q base y i : Nat} {vB vL vF vF' : Value} {b : Pb} {w wr w1 : World} {out : List Nat} {x : Int}
theorem CS.push (h : CS q vB vL b base w y out vF wr) (hq : q < w.heap.size) (hB1 : WRow w1 base vF' (nints (out ++ [i]))) (hk1 : Kpt (fun k => vF.ownBlock = some k) wr w1) (hn1 : Nxt wr vF vF') (hx : x = sumH b out + b.h i) (h2 : 0 ≤ b.h i) (h3 : b.h i ≤ 1048576) :
    CS q vB vL b base w y (out ++ [i]) vF' ((w1.setCell ⟨q, 1, none⟩ (.int .i64 x)).drew) := by
  have hs : x = sumH b (out ++ [i]) := by rw [hx, sumH_append]; simp [sumH]
  have hnq : vF.ownBlock ≠ some q := fun e => by have := h.nf q e; omega
  have hn' : ∀ k, vF'.ownBlock = some k → w.heap.size < k := fun k hk => by
    rcases hn1 k hk with e | e
    · exact h.nf k e
    · have := h.lt; omega
  have hc : w1.cell? ⟨w.heap.size, 0, none⟩ = some (.int .i64 (y : Int)) := (hk1.cell (p := ⟨w.heap.size, 0, none⟩) h.lt (fun e => by have := h.nf _ e; exact absurd this (Nat.lt_irrefl _))).trans h.ce
  refine ⟨by rw [← hs]; exact (h.fb.keep hk1 hnq).set1, ?_, hn', ?_, ?_, ?_, ?_, ?_⟩
  · exact hB1.keep (R := fun k => k = q) ((Kpt.refl (fun k => k = q) _).setCell (fun _ => rfl)).drew (fun k hk e => by subst e; have := hn' _ hk; omega)
  · exact ((h.k.trans2 hk1 (fun k hk e => by have := h.nf k e; omega)).setCell (fun _ => rfl)).drew
  · exact ((((Kpt.refl (fun k => k = q) w1).setCell (i := 1) (u := .int .i64 x) (fun _ => rfl)).drew).cell (p := ⟨w.heap.size, 0, none⟩) (by have := h.lt; have := hk1.size; show w.heap.size < _; omega) (fun e => by have e : w.heap.size = q := e; omega)).trans hc
  · rw [← hs, hx]; have := h.h0; omega
  · rw [← hs, hx, List.length_append, List.length_singleton]; have := h.h1; omega
  · have := h.lt; have := hk1.size; show w.heap.size < (w1.setCell _ _).heap.size; simp [World.setCell]; omega
end
theorem ftake_in {bx : List Nat} {j i y : Nat} (h : bx[j]? = some i) (hy : i < y) : (bx.take (j + 1)).filter (· < y) = (bx.take j).filter (· < y) ++ [i] := by
  rw [take_one h, List.filter_append]; simp [hy]
theorem ftake_out {bx : List Nat} {j i y : Nat} (h : bx[j]? = some i) (hy : ¬ i < y) : (bx.take (j + 1)).filter (· < y) = (bx.take j).filter (· < y) := by
  rw [take_one h, List.filter_append]; simp [hy]
theorem filter_all {l : List Nat} {p : Nat} (h : ∀ i ∈ l, i < p) : l.filter (· < p) = l := List.filter_eq_self.2 fun i hi => by simpa using h i hi
theorem CutIn.none {n q base p : Nat} {vB vL vW : Value} {b : Pb} {w : World} {bx ln wt : List Nat} {ht : Int} (h : CutIn n q vB vL vW b base w bx ln wt ht p) :
    CutPost q vB vL vW (cutS b p bx wt) base w (.returned (.tuple #[.int .i64 (p : Nat), vW])) w := by
  have e : cutS b p bx wt = (bx, ht, p, wt) := by unfold cutS; rw [filter_all h.lb, filter_all h.lw, ← h.ht]
  rw [e]
  exact ⟨vB, vW, rfl, h.fb, h.rb, h.rw, Kpt.refl _ _, Nxt.refl _ _, rfl⟩
theorem back_lt2 {b : Pb} {ln : List Nat} {p : Nat} (h : ln.length < 2) : backS b ln p = p := by unfold backS; rw [if_pos h]
theorem back_loose {b : Pb} {ln : List Nat} {p : Nat} (h : ¬ ln.length < 2) (hk : b.kp (ln.getD (ln.length - 1) 0) = false) : backS b ln p = p := by unfold backS; rw [if_neg h, if_neg (by rw [hk]; decide)]
theorem back_kept {b : Pb} {ln : List Nat} {p : Nat} (h : ¬ ln.length < 2) (hk : b.kp (ln.getD (ln.length - 1) 0) = true) : backS b ln p = searchS b ln p (ln.length - 1) := by unfold backS; rw [if_neg h, if_pos hk]
theorem getD_of {l : List Nat} {j x : Nat} (h : l[j]? = some x) : l.getD j 0 = x := by rw [List.getD_eq_getElem?_getD, h]; rfl
set_option maxHeartbeats 8000000 in
set_option maxRecDepth 100000 in
theorem cut_any (A : Option Addr) (n c M : Nat) (l : List Bx) (H : Int) (q : Nat) (vB vL vW : Value) (ht : Int) (bx ln wt : List Nat) (base p : Nat) (w : World) (hx : BxAt w M A n l) (hh : HtOk l) (hn : n ≤ 1000)
    (hM : M ≤ base) (hMq : M ≤ q) (hbw : base ≤ w.heap.size) (hS : CutIn n q vB vL vW (pbOf l H) base w bx ln wt ht p) :
    Calls Tryd.prog 45 #[.pointer (some ⟨q, 0, none⟩), .slice A n c, .int .i64 p, vW] w (CutPost q vB vL vW (cutS (pbOf l H) (backS (pbOf l H) ln p) bx wt) base w) := by
  have HL := Lib.hid hx.len
  have hql := hS.fb.lt
  obtain ⟨AW, cW, hvW, _⟩ := hS.rw.form
  obtain ⟨AL, cL, hvL, _⟩ := hS.rl.form
  obtain ⟨AB, cB, hvB, _⟩ := hS.rb.form
  rw [nints_len] at hvW hvL hvB
  have d1 := hS.fb.c2
  have hnl := hS.nl
  by_cases h2 : ln.length < 2
  · rw [back_lt2 h2]
    have HP := Lib.hid hS.none
    subst hvW hvL
    generalize hm : ln.length = m at *
    generalize wt.length = mw at *
    clear hS hvB
    go_enter Tryd.func45, Tryd.ntmps45
    go_wp2
    go_ret2
    exact HP.out
  obtain ⟨m, hm⟩ : ∃ m, ln.length = m + 2 := ⟨ln.length - 2, by omega⟩
  have hm3 : m ≤ 1000 := by omega
  obtain ⟨z, hz⟩ := get_of (l := ln) (k := m + 1) (by omega)
  have hzn := hS.ll z (List.mem_of_getElem? hz)
  obtain ⟨pz, hpz⟩ := get_of (l := l) (k := z) (by rw [HL.out]; exact hzn)
  have hrl := hS.rl
  rw [hvL] at hrl
  obtain ⟨gL, oL, hAL, hgL, e0⟩ := hrl.int (nints_at hz)
  subst hAL
  obtain ⟨gb, ob, hA, hgb, c0, c1, c2, c3, c4, c5⟩ := hx.at6 hpz
  subst hA
  have i1 : (0 : Int) ≤ (z : Int) := by omega
  have i2 : (z : Int) < (n : Int) := by omega
  cases hkz : pz.kp
  · have hb := back_loose (b := pbOf l H) (p := p) h2 (by rw [hm, show m + 2 - 1 = m + 1 from rfl, getD_of hz, pb_kp hpz]; exact hkz)
    rw [hb]
    have HP := Lib.hid hS.none
    rw [hm] at hvL
    subst hvW hvL
    rw [hkz] at c3
    generalize wt.length = mw at *
    clear hS hrl h2 hm hb hvB hnl
    go_enter Tryd.func45, Tryd.ntmps45
    go_wp2
    go_ret2
    exact HP.out
  · have hbk := back_kept (b := pbOf l H) (p := p) h2 (by rw [hm, show m + 2 - 1 = m + 1 from rfl, getD_of hz, pb_kp hpz]; exact hkz)
    rw [hm, show m + 2 - 1 = m + 1 from rfl] at hbk
    have HP := Lib.hid hS.none
    have HS := Lib.hid hS
    have HNL : Hid (ln.length = m + 2) := hm
    have hmb : bx.length ≤ 1000 := hS.nb
    have hwl : wt.length ≤ 1000 := hS.nw
    rw [hkz] at c3
    generalize backS (pbOf l H) ln p = bk at *
    have HB := Lib.hid hbk
    rw [hm] at hvL
    subst hvW hvL hvB
    have HRB : Hid (WRow w base (.slice AB bx.length cB) (nints bx)) := HS.out.rb
    generalize hmw : wt.length = mw at *
    generalize hmbx : bx.length = mb at *
    have HMB := Lib.hid hmbx
    have qd : decide ((m : Int) + 2 < 2) = false := by simp; omega
    clear hS hrl h2 hm hbk hnl hmw hmbx
    go_enter Tryd.func45, Tryd.ntmps45
    go_wp2
    go_loopw [3, 11] (fun wv kv wr => ∃ (x : Int) (s : Nat), kv = .int .i64 x ∧ wv = .slice AW mw cW ∧ w = wr ∧ ((x = -1 ∧ Hid (bk = p)) ∨ (x = (s : Int) ∧ s ≤ m ∧ Hid (bk = searchS (pbOf l H) ln p (s + 1))))) (fun _ kv _ => (intOf kv + 1).toNat)
    case atStart => exact ⟨(m : Int), m, by go_num, rfl, rfl, .inr ⟨rfl, Nat.le_refl _, HB⟩⟩
    case round =>
      clear HB qd e0 c0 c1 c2 c3 c4 c5 hpz hz hzn i1 i2
      obtain ⟨x, s, rfl, rfl, rfl, ⟨rfl, hx0⟩ | ⟨rfl, hs, hx0⟩⟩ := hrel
      · have e := hx0.out
        subst e
        go_wp2
        go_ret2
        exact HP.out
      · obtain ⟨x, hxs⟩ := get_of (l := ln) (k := s) (by rw [HNL.out]; omega)
        have hxn := HS.out.ll x (List.mem_of_getElem? hxs)
        obtain ⟨px, hpx⟩ := get_of (l := l) (k := x) (by rw [HL.out]; exact hxn)
        obtain ⟨g1, o1, hA1, _, e0⟩ := (show WRow w base (.slice (some ⟨gL, oL, none⟩) (m + 2) cL) (nints ln) from HS.out.rl).int (nints_at hxs)
        injection hA1 with hA1
        injection hA1 with hA1 hA2 _
        subst hA1 hA2
        obtain ⟨g2, o2, hA2, _, c0, c1, c2, c3, c4, c5⟩ := hx.at6 hpx
        injection hA2 with hA2
        injection hA2 with hA2 hA3 _
        subst hA2 hA3
        have i1 : (0 : Int) ≤ (x : Int) := by omega
        have i2 : (x : Int) < (n : Int) := by omega
        have i3 : (0 : Int) ≤ (s : Int) := by omega
        have i4 : (s : Int) < ((m + 2 : Nat) : Int) := by omega
        cases hkx : px.kp
        · rw [hkx] at c3
          obtain ⟨y, hys⟩ := get_of (l := ln) (k := s + 1) (by rw [HNL.out]; omega)
          have hyn := HS.out.ll y (List.mem_of_getElem? hys)
          obtain ⟨g1, o1, hA1, _, e1⟩ := (show WRow w base (.slice (some ⟨gL, oL, none⟩) (m + 2) cL) (nints ln) from HS.out.rl).int (nints_at hys)
          injection hA1 with hA1
          injection hA1 with hA1 hA2 _
          subst hA1 hA2
          have HX : bk = y := by rw [hx0.out, searchS, getD_of hxs, pb_kp hpx, hkx, if_neg (by decide), getD_of hys]
          subst HX
          have i5 : (s : Int) + 1 < ((m + 2 : Nat) : Int) := by omega
          have z1 := (HS.out.fb.alloc (.cells #[.int .i64 (bk : Int)] 3)).c1
          have zf := (HS.out.fb.alloc (.cells #[.int .i64 (bk : Int)] 3)).ff (i := 1)
          have hW := (HS.out.fb.set1 (x := 0)).alloc (.cells #[.int .i64 (bk : Int)] 3)
          have d0 := hW.c0
          have hsz0 : (w.setCell ⟨q, 1, none⟩ (.int .i64 0)).heap.size = w.heap.size := by simp [World.setCell]
          have hce : ((w.setCell ⟨q, 1, none⟩ (.int .i64 0)).alloc (.cells #[.int .i64 (bk : Int)] 3)).cell? ⟨w.heap.size, 0, none⟩ = some (.int .i64 (bk : Int)) := by
            have h := heap_alloc_new (w.setCell ⟨q, 1, none⟩ (.int .i64 0)) (.cells #[.int .i64 (bk : Int)] 3)
            rw [hsz0] at h
            exact cell_of_row _ _ 0 _ _ _ h
          have HC : Hid (CS q (.slice AB mb cB) (.slice (some ⟨gL, oL, none⟩) (m + 2) cL) (pbOf l H) base w bk [] (.slice none 0 0) ((w.setCell ⟨q, 1, none⟩ (.int .i64 0)).alloc (.cells #[.int .i64 (bk : Int)] 3))) :=
            ⟨hW, WRow.nil _ _, (fun k hk => by cases hk), ((Kpt.refl (fun k => k = q) w).setCell (fun _ => rfl)).alloc _, hce, Int.le_refl _, Int.le_refl _, by simp [hsz0]⟩
          clear hW hce hsz0 hkx hx0
          go_wp2
          go_loopw [13, 75] (fun lf i wr => ∃ j : Nat, j ≤ mb ∧ i = .int .i64 j ∧ Hid (CS q (.slice AB mb cB) (.slice (some ⟨gL, oL, none⟩) (m + 2) cL) (pbOf l H) base w bk ((bx.take j).filter (· < bk)) lf wr)) (fun _ i _ => mb - (intOf i).toNat)
          case atStart => exact ⟨0, Nat.zero_le _, rfl, HC⟩
          case round =>
            clear HC z1 zf d0 c0 c1 c2 c3 c4 c5 e0 e1 hpx hxs
            obtain ⟨j, hj, rfl, HC⟩ := hrel
            have hkc := HC.out.k
            have hszc := hkc.size
            have hbM : Below M w wr := hkc.below (by omega) (fun k hk => by subst hk; exact hMq)
            have t12 := HC.out.ce
            have hneB : (Value.slice AB mb cB).ownBlock ≠ some q := HRB.out.ne HS.out.fb ne_int
            by_cases hlt : j < mb
            · obtain ⟨i0, hi0⟩ := get_of (l := bx) (k := j) (by rw [HMB.out]; exact hlt)
              obtain ⟨g3, o3, hA3, _, f0⟩ := (HRB.out.keep hkc (fun k hk e => hneB (by rw [hk, e]))).int (nints_at hi0)
              subst hA3
              have hi0n : i0 < n := by have := HS.out.lb i0 (List.mem_of_getElem? hi0); have := HS.out.pn; omega
              have j1 : (0 : Int) ≤ (i0 : Int) := by omega
              have j2 : (i0 : Int) < (n : Int) := by omega
              by_cases hy : i0 < bk
              · obtain ⟨pi, hpi⟩ := get_of (l := l) (k := i0) (by rw [HL.out]; exact hi0n)
                have hph := hh pi (List.mem_of_getElem? hpi)
                have hd : decide ((i0 : Int) < (bk : Int)) = true := by simp; omega
                have HTK := Lib.hid (ftake_in hi0 hy)
                have hol : ((bx.take j).filter (· < bk)).length ≤ j := Nat.le_trans (List.length_filter_le _ _) (List.length_take_le _ _)
                generalize (bx.take j).filter (· < bk) = out at *
                go_wp2_with (at_builtin; refine wpList_appW rfl _ _ rfl wr base u13 (nints out) (i0 : Int) HC.out.ro rfl rfl ?c2 ?c3 ?_)
                case c2 => rw [nints_len]; omega
                case c3 => omega
                intro v1 w1 hB1 hk1 hn1
                rw [nints_snoc] at hB1
                obtain ⟨AF, cF, rfl, _⟩ := hB1.form
                generalize (nints (out ++ [i0])).length = mF at *
                have hnq : u13.ownBlock ≠ some q := fun e => by have := HC.out.nf q e; omega
                have hfb1 := HC.out.fb.keep hk1 hnq
                have d1 := hfb1.c1
                have df := hfb1.ff (i := 1)
                have hb1 : Below M w w1 := hbM.trans (hk1.below (by omega) (fun k hk => by have := HC.out.nf k hk; omega))
                obtain ⟨g4, o4, hA4, _, _, b1, _⟩ := (hx.below hb1).at6 hpi
                injection hA4 with hA4
                injection hA4 with hA4 hA5 _
                subst hA4 hA5
                have s0 := HC.out.h0
                have s1 := HC.out.h1
                have hw : IntKind.i64.wrap (sumH (pbOf l H) out + pi.h) = sumH (pbOf l H) out + pi.h := wrap_in (by omega) (by omega)
                have HN := Lib.hid (HC.out.push hql hB1 hk1 hn1 (x := sumH (pbOf l H) out + pi.h) (by rw [pb_h hpi]) (by rw [pb_h hpi]; omega) (by rw [pb_h hpi]; exact hph.2))
                generalize sumH (pbOf l H) out = sm at *
                clear hB1 hk1 hn1 hfb1 hb1 hnq hneB hbM hkc f0 HC t12 hpi hd
                go_wp2
                go_region_with (fail)
                all_goals
                  try rw [hw]
                  go_wp2
                  go_roundw
                  case rel => exact ⟨j + 1, by omega, by go_num, by rw [HTK.out]; exact HN⟩
                  case measure => simp [intOf] <;> omega
              · have hd : decide ((i0 : Int) < (bk : Int)) = false := by simp; omega
                have HTK := Lib.hid (ftake_out hi0 hy)
                have HN : Hid (CS q (.slice (some ⟨g3, o3, none⟩) mb cB) (.slice (some ⟨gL, oL, none⟩) (m + 2) cL) (pbOf l H) base w bk ((bx.take (j + 1)).filter (· < bk)) u13 wr) := by rw [HTK.out]; exact HC
                clear HC HTK
                go_wp2
                go_roundw
                case rel => exact ⟨j + 1, by omega, by go_num, HN⟩
                case measure => simp [intOf] <;> omega
            · have e : (bx.take j).filter (· < bk) = bx.filter (· < bk) := by rw [List.take_of_length_le (by rw [HMB.out]; omega)]
              rw [e] at HC
              clear e
              have hnq : u13.ownBlock ≠ some q := fun e => by have := HC.out.nf q e; omega
              obtain ⟨AF, cF, rfl, _⟩ := HC.out.ro.form
              generalize (nints (bx.filter (· < bk))).length = mF at *
              have z0 := HC.out.fb.c0
              have zf := HC.out.fb.ff (i := 0)
              have hltH := HC.out.lt
              have hneW : (Value.slice AW mw cW).ownBlock ≠ some q := HS.out.rw.ne HS.out.fb ne_int
              have hWlt := fun k hk => (HS.out.rw.lt k hk).2
              have hk3 : Kpt (fun k => k = q) w (wr.setCell ⟨q, 0, none⟩ (.slice AF mF cF)) := hkc.setCell (fun _ => rfl)
              have hce3 : (wr.setCell ⟨q, 0, none⟩ (.slice AF mF cF)).cell? ⟨w.heap.size, 0, none⟩ = some (.int .i64 (bk : Int)) :=
                (((Kpt.refl (fun k => k = q) wr).setCell (i := 0) (u := .slice AF mF cF) (fun _ => rfl)).cell (p := ⟨w.heap.size, 0, none⟩) hltH (fun e => by have e : w.heap.size = q := e; omega)).trans t12
              have hrw3 := HS.out.rw.keep hk3 (fun k hk e => hneW (by rw [hk, e]))
              have hfb3 := HC.out.fb.set0 (u := .slice AF mF cF)
              have hro3 := HC.out.ro.keep (R := fun k => k = q) ((Kpt.refl (fun k => k = q) wr).setCell (i := 0) (u := .slice AF mF cF) (fun _ => rfl)) (fun k hk e => hnq (by rw [hk, e]))
              have hnf := HC.out.nf
              have HD := Lib.hid (delete_any _ wt base bk w.heap.size _ hrw3 HS.out.sw (by have := HS.out.nw; omega) hce3)
              have HFB3 := Lib.hid hfb3
              have HRO3 := Lib.hid hro3
              have HK3 := Lib.hid hk3
              clear hfb3 hro3 hk3 hrw3 HC hkc hbM hneB
              go_wp2_with fail
              refine HD.out.mono ?_
              rintro e w2 ⟨vW2, rfl, hrw2, hk2, ho2⟩
              have hltW : w.heap.size < (wr.setCell ⟨q, 0, none⟩ (.slice AF mF cF)).heap.size := by simp [World.setCell]; exact hltH
              have t12' : w2.cell? ⟨w.heap.size, 0, none⟩ = some (.int .i64 (bk : Int)) := (hk2.cell (p := ⟨w.heap.size, 0, none⟩) hltW (fun e => by have := hWlt _ e; exact absurd this (Nat.lt_irrefl _))).trans hce3
              have HPP : Hid (CutPost q (.slice AB mb cB) (.slice (some ⟨gL, oL, none⟩) (m + 2) cL) (.slice AW mw cW) (cutS (pbOf l H) bk bx wt) base w (.returned (.tuple #[.int .i64 (bk : Int), vW2])) w2) := by
                refine ⟨.slice AF mF cF, vW2, rfl, HFB3.out.keep hk2 hneW, HRO3.out.keep hk2 (fun k hk e => ?_), hrw2, (HK3.out.mono (S := fun k => k = q ∨ (Value.slice AB mb cB).ownBlock = some k ∨ (Value.slice AW mw cW).ownBlock = some k) (fun k _ e => .inl e)).trans2 hk2 (fun k _ e => .inr (.inr e)), fun k hk => .inr (by have := hnf k hk; omega), ho2⟩
                have h1 := hnf k hk
                have h2 := hWlt k e
                omega
              clear HD HFB3 HRO3 HK3 hrw2 hk2 ho2 hce3 t12
              go_wp2
              go_ret2
              exact HPP.out
        · rw [hkx] at c3
          have HX : Hid (bk = searchS (pbOf l H) ln p s) := by rw [hx0.out, searchS, getD_of hxs, pb_kp hpx, hkx]; rfl
          clear hkx hx0
          go_wp2
          go_roundw
          case rel =>
            cases s with
            | zero => exact ⟨-1, 0, by go_num, rfl, by trivial, .inl ⟨rfl, HX⟩⟩
            | succ s => exact ⟨(s : Int), s, by go_num, rfl, by trivial, .inr ⟨rfl, by omega, HX⟩⟩
          case measure => simp [intOf] <;> omega
end Go.Proofs.YtpgpkgpiengmkaaDoor
