/-
  Layer 40 (page), the chapter's: below, back.
-/
import Derived.Test.YtpgpkgpiengmkaaDoorPgRh
import Derived.Test.YtpgpkgpiengmkaaDoorPgG
namespace Go.Proofs.YtpgpkgpiengmkaaDoor
open Go.RowKit
set_option linter.unusedVariables false
set_option linter.unusedSimpArgs false
attribute [local go_sem] B_data B_size

def RowPost (base : Nat) (l : List Nat) (w : World) (e : Ending) (w' : World) : Prop :=
  ∃ A m c, e = .returned (.slice A m c) ∧ WRow w' base (.slice A m c) (nints l) ∧ Below w.heap.size w w'
set_option maxHeartbeats 8000000 in
set_option maxRecDepth 100000 in
theorem rbelow_any (A : Option Addr) (m c : Nat) (wt : List Nat) (y base : Nat) (w : World) (hW : WRow w base (.slice A m c) (nints wt)) (hn : wt.length ≤ 1000000) (hbase : base ≤ w.heap.size) :
    Calls Tryd.prog 63 #[.slice A m c, .int .i64 (y : Nat)] w (RowPost base (wt.filter (· < y)) w) := by
  have hm := hW.cnt
  have HM : Hid (wt.length = m) := hm.symm
  have HW := Lib.hid hW
  have hm6 : m ≤ 1000000 := by omega
  clear hW hm hn
  go_enter Tryd.func63, Tryd.ntmps63
  go_wp2
  go_loopw [5, 6] (fun ov iv wr => ∃ (j : Nat) (A1 : Option Addr) (m1 c1 : Nat), j ≤ m ∧ iv = .int .i64 j ∧ ov = .slice A1 m1 c1 ∧ Below w.heap.size w wr ∧ Hid (WRow wr w.heap.size (.slice A1 m1 c1) (nints ((wt.take j).filter (· < y))))) (fun _ iv _ => m - (intOf iv).toNat)
  case atStart => exact ⟨0, none, 0, 0, Nat.zero_le _, rfl, rfl, Below.refl _ _, WRow.nil _ _⟩
  case round =>
    obtain ⟨j, A1, m1, c1, hj, rfl, rfl, hbw, HC⟩ := hrel
    have hsz := hbw.size
    by_cases hlt : j < m
    · obtain ⟨i0, hi0⟩ := get_of (l := wt) (k := j) (by rw [HM.out]; exact hlt)
      obtain ⟨g3, o3, hA3, _, f0⟩ := (HW.out.step hbw).int (nints_at hi0)
      subst hA3
      by_cases hy : i0 < y
      · have hd : decide ((i0 : Int) < (y : Int)) = true := by simp; omega
        have HTK := Lib.hid (ftake_in hi0 hy)
        have hol : ((wt.take j).filter (· < y)).length ≤ j := Nat.le_trans (List.length_filter_le _ _) (List.length_take_le _ _)
        generalize (wt.take j).filter (· < y) = out at *
        go_wp2_with (at_builtin; refine wpList_appW rfl _ _ rfl wr w.heap.size (.slice A1 m1 c1) (nints out) (i0 : Int) HC.out rfl rfl ?c2 ?c3 ?_)
        case c2 => rw [nints_len]; omega
        case c3 => omega
        intro v1 w1 hB1 hk1 hn1
        rw [nints_snoc] at hB1
        obtain ⟨AF, cF, rfl, _⟩ := hB1.form
        generalize (nints (out ++ [i0])).length = mF at *
        have hb1 := hbw.trans (hk1.below hsz (fun k hk => (HC.out.lt k hk).1))
        have HN := Lib.hid hB1
        clear hB1 hk1 hn1 HC f0
        go_wp2
        go_roundw
        case rel => exact ⟨j + 1, _, _, _, by omega, by go_num, rfl, hb1, by rw [HTK.out]; exact HN⟩
        case measure => simp [intOf] <;> omega
      · have hd : decide ((i0 : Int) < (y : Int)) = false := by simp; omega
        have HTK := Lib.hid (ftake_out hi0 hy)
        have HN : Hid (WRow wr w.heap.size (.slice A1 m1 c1) (nints ((wt.take (j + 1)).filter (· < y)))) := by rw [HTK.out]; exact HC
        clear HC HTK
        go_wp2
        go_roundw
        case rel => exact ⟨j + 1, _, _, _, by omega, by go_num, rfl, hbw, HN⟩
        case measure => simp [intOf] <;> omega
    · have e : (wt.take j).filter (· < y) = wt.filter (· < y) := by rw [List.take_of_length_le (by rw [HM.out]; omega)]
      rw [e] at HC
      clear e
      go_wp2
      go_ret
      exact ⟨_, _, _, rfl, HC.out.mono hbase, hbw⟩
/-- the line of a page while it is made -/
structure LS (q base : Nat) (P0 : Option Addr) (np cp : Nat) (B : Option Addr) (nb cb : Nat) (ht : Int) (W : Option Addr) (nw cw : Nat) (p first : Nat) (b : Pb) (bx : List Nat) (w wr : World) (j : Nat) (L : Option Addr) (m cl : Nat) : Prop where
  fx : FX q (.slice P0 np cp) (.slice B nb cb) ht (first : Nat) (.slice W nw cw) (p : Nat) wr
  rb : WRow wr base (.slice B nb cb) (nints bx)
  rl : WRow wr (q + 1) (.slice L m cl) (nints (lineOf b first (bx.take j)))
  b : Below w.heap.size w wr
theorem LS.step {q base np cp nb cb nw cw p first j m cl : Nat} {P0 B W L : Option Addr} {ht : Int} {b : Pb} {bx : List Nat} {w wr w3 : World} (h : LS q base P0 np cp B nb cb ht W nw cw p first b bx w wr j L m cl) (hb : Below wr.heap.size wr w3) : LS q base P0 np cp B nb cb ht W nw cw p first b bx w w3 j L m cl :=
  ⟨h.fx.step hb, h.rb.step hb, h.rl.step hb, h.b.trans (hb.mono h.b.size)⟩
theorem line_take {b : Pb} {first : Nat} {bx : List Nat} {j x : Nat} (h : bx[j]? = some x) (hf : first ≤ j) : lineOf b first (bx.take (j + 1)) = if b.fl x then lineOf b first (bx.take j) else lineOf b first (bx.take j) ++ [x] := by
  have hj := (List.getElem?_eq_some_iff.1 h).1
  rw [take_one h, line_push _ _ _ _ (by rw [List.length_take]; omega)]
theorem line_start {b : Pb} {first : Nat} {bx : List Nat} : lineOf b first (bx.take first) = [] := by
  unfold lineOf; rw [List.drop_of_length_le (List.length_take_le _ _)]; rfl
theorem line_len {b : Pb} {first : Nat} {bx : List Nat} : (lineOf b first bx).length ≤ bx.length := by
  unfold lineOf
  have h1 := List.length_filter_le (fun i => !b.fl i) (bx.drop first)
  rw [List.length_drop] at h1
  omega
theorem line_sub {b : Pb} {first : Nat} {bx : List Nat} {P : Nat → Prop} (h : ∀ i ∈ bx, P i) : ∀ i ∈ lineOf b first bx, P i := fun i hi => by
  unfold lineOf at hi
  exact h i (List.mem_of_mem_drop (List.mem_filter.1 hi).1)
set_option maxHeartbeats 8000000 in
set_option maxRecDepth 100000 in
theorem rback_any (A : Option Addr) (n c M : Nat) (l : List Bx) (H : Int) (base : Nat) (P0 : Option Addr) (np cp : Nat) (B0 : Option Addr) (nb cb : Nat) (W0 : Option Addr) (nw cw : Nat) (bx : List Nat) (ht : Int) (first p : Nat) (w : World)
    (hx : BxAt w M A n l) (hM : M ≤ w.heap.size) (hB : WRow w base (.slice B0 nb cb) (nints bx)) (hn : bx.length ≤ 1000) (hf : first ≤ bx.length) (hlt : ∀ i ∈ bx, i < n) :
    Calls Tryd.prog 50 #[.slice A n c, .agg #[.slice P0 np cp, .slice B0 nb cb, .int .i64 ht, .int .i64 (first : Nat), .slice W0 nw cw, .int .i64 (p : Nat)]] w fun e w' => e = .returned (.int .i64 (backS (pbOf l H) (lineOf (pbOf l H) first bx) p : Nat)) ∧ Below w.heap.size w w' := by
  have HL := Lib.hid hx.len
  generalize hbk0 : backS (pbOf l H) (lineOf (pbOf l H) first bx) p = bk
  have HB0 := Lib.hid hbk0
  clear hbk0
  have hnb := hB.cnt
  have HNB : Hid (bx.length = nb) := hnb.symm
  have hnb3 : nb ≤ 1000 := by omega
  have hfn : first ≤ nb := by omega
  have hst := below_alloc w (.cells #[.slice P0 np cp, .slice B0 nb cb, .int .i64 ht, .int .i64 (first : Nat), .slice W0 nw cw, .int .i64 (p : Nat)] 55)
  have HS : Hid (LS w.heap.size base P0 np cp B0 nb cb ht W0 nw cw p first (pbOf l H) bx w (w.alloc (.cells #[.slice P0 np cp, .slice B0 nb cb, .int .i64 ht, .int .i64 (first : Nat), .slice W0 nw cw, .int .i64 (p : Nat)] 55)) first none 0 0) :=
    ⟨heap_alloc_new w _, hB.step hst, by rw [line_start]; exact WRow.nil _ _, hst⟩
  have y2 := HS.out.fx.c3
  have HBL := Lib.hid (fun k hk => (hB.lt k hk).2)
  clear hB hn hf hst hnb
  go_enter Tryd.func50, Tryd.ntmps50
  go_wp2
  go_loopw [5, 6] (fun lv iv wr => ∃ (j : Nat) (L : Option Addr) (m cl : Nat), first ≤ j ∧ j ≤ nb ∧ iv = .int .i64 j ∧ lv = .slice L m cl ∧ Hid (LS w.heap.size base P0 np cp B0 nb cb ht W0 nw cw p first (pbOf l H) bx w wr j L m cl)) (fun _ iv _ => nb - (intOf iv).toNat)
  case atStart => exact ⟨first, none, 0, 0, Nat.le_refl _, hfn, rfl, rfl, HS⟩
  case round =>
    clear HS y2
    obtain ⟨j, L, m, cl, hfj, hj, rfl, rfl, HS⟩ := hrel
    have hbw := HS.out.b
    have hsz := hbw.size
    have d1 := HS.out.fx.c1
    by_cases hjl : j < nb
    · obtain ⟨i0, hi0⟩ := get_of (l := bx) (k := j) (by rw [HNB.out]; exact hjl)
      obtain ⟨g3, o3, hA3, _, f0⟩ := HS.out.rb.int (nints_at hi0)
      subst hA3
      have hin := hlt i0 (List.mem_of_getElem? hi0)
      obtain ⟨pb, hp⟩ := get_of (l := l) (k := i0) (by rw [HL.out]; exact hin)
      obtain ⟨gb, ob, hA, hgb, c0, c1, c2, c3, c4, c5⟩ := (hx.below (hbw.mono hM)).at6 hp
      subst hA
      have j1 : (0 : Int) ≤ (i0 : Int) := by omega
      have j2 : (i0 : Int) < (n : Int) := by omega
      have HT := Lib.hid (line_take (b := pbOf l H) hi0 hfj)
      cases hfl : pb.fl
      · rw [pb_fl hp, hfl] at HT
        rw [hfl] at c4
        have HTK : Hid (lineOf (pbOf l H) first (bx.take (j + 1)) = lineOf (pbOf l H) first (bx.take j) ++ [i0]) := HT.out
        have hll : (lineOf (pbOf l H) first (bx.take j)).length ≤ j := Nat.le_trans line_len (List.length_take_le _ _)
        have HRL := Lib.hid HS.out.rl
        generalize lineOf (pbOf l H) first (bx.take j) = out at *
        have hq1 : w.heap.size + 1 ≤ wr.heap.size := by have := HS.out.fx.lt; omega
        clear c0 c1 c2 c3 c5 hfl HT
        go_wp2_with (at_builtin; refine wpList_appW rfl _ _ rfl wr (w.heap.size + 1) (.slice L m cl) (nints out) (i0 : Int) HRL.out rfl rfl ?c2 ?c3 ?_)
        case c2 => rw [nints_len]; omega
        case c3 => exact hq1
        intro v1 w1 hB1 hk1 hn1
        rw [nints_snoc, ← HTK.out] at hB1
        obtain ⟨AF, cF, rfl, _⟩ := hB1.form
        generalize (nints (lineOf (pbOf l H) first (bx.take (j + 1)))).length = mF at *
        have HN : Hid (LS w.heap.size base P0 np cp (some ⟨g3, o3, none⟩) nb cb ht W0 nw cw p first (pbOf l H) bx w w1 (j + 1) AF mF cF) :=
          ⟨HS.out.fx.keep hk1 (fun e => by have := (HRL.out.lt _ e).1; omega), HS.out.rb.keep hk1 (fun k e e2 => by have := HBL.out k e; have := (HRL.out.lt _ e2).1; omega), hB1, hbw.trans (hk1.below hsz (fun k hk => by have := (HRL.out.lt k hk).1; omega))⟩
        clear hB1 hk1 hn1 HS HRL HTK f0 c4 d1
        go_wp2
        go_roundw
        case rel => exact ⟨j + 1, _, _, _, by omega, by omega, by go_num, rfl, HN⟩
        case measure => simp [intOf] <;> omega
      · rw [pb_fl hp, hfl] at HT
        rw [hfl] at c4
        have HTK : Hid (lineOf (pbOf l H) first (bx.take (j + 1)) = lineOf (pbOf l H) first (bx.take j)) := HT.out
        have HN : Hid (LS w.heap.size base P0 np cp (some ⟨g3, o3, none⟩) nb cb ht W0 nw cw p first (pbOf l H) bx w wr (j + 1) L m cl) :=
          ⟨HS.out.fx, HS.out.rb, by rw [HTK.out]; exact HS.out.rl, hbw⟩
        clear HS HT HTK hfl
        go_wp2
        go_roundw
        case rel => exact ⟨j + 1, _, _, _, by omega, by omega, by go_num, rfl, HN⟩
        case measure => simp [intOf] <;> omega
    · have hje : j = nb := by omega
      subst hje
      have e : bx.take j = bx := List.take_of_length_le (by rw [HNB.out]; omega)
      have hrl := HS.out.rl
      rw [e] at hrl
      have hml : m = (lineOf (pbOf l H) first bx).length := hrl.cnt
      have hm3 : m ≤ 1000 := by rw [hml]; exact Nat.le_trans line_len (by rw [HNB.out]; exact hnb3)
      have hll := line_sub (b := pbOf l H) (first := first) hlt
      clear e
      have hb0 := HB0.out
      clear HB0
      generalize hln : lineOf (pbOf l H) first bx = ln at *
      have HML : Hid (ln.length = m) := hml.symm
      have HRL := Lib.hid hrl
      have hfx := HS.out.fx
      have d5 := hfx.c5
      have hxw := hx.below (hbw.mono hM)
      clear hml hln hrl HS hfx HBL
      by_cases h2 : m < 2
      · have HBK : Hid (bk = p) := by rw [← hb0]; exact back_lt2 (b := pbOf l H) (ln := ln) (p := p) (by rw [HML.out]; exact h2)
        clear hb0
        go_wp2
        go_ret
        exact ⟨by rw [HBK.out]; rfl, hbw⟩
      · obtain ⟨m2, rfl⟩ : ∃ m2, m = m2 + 2 := ⟨m - 2, by omega⟩
        obtain ⟨z, hz⟩ := get_of (l := ln) (k := m2 + 1) (by rw [HML.out]; omega)
        have hzn := hll z (List.mem_of_getElem? hz)
        obtain ⟨pz, hpz⟩ := get_of (l := l) (k := z) (by rw [HL.out]; exact hzn)
        obtain ⟨gL, oL, hAL, hgL, e0⟩ := HRL.out.int (nints_at hz)
        subst hAL
        obtain ⟨gb, ob, hA, hgb, c0, c1, c2, c3, c4, c5⟩ := hxw.at6 hpz
        subst hA
        have i1 : (0 : Int) ≤ (z : Int) := by omega
        have i2 : (z : Int) < (n : Int) := by omega
        have h2' : ¬ ln.length < 2 := by rw [HML.out]; exact h2
        cases hkz : pz.kp
        · have HBK : Hid (bk = p) := by rw [← hb0]; exact back_loose (b := pbOf l H) (ln := ln) (p := p) h2' (by rw [HML.out, show m2 + 2 - 1 = m2 + 1 from rfl, getD_of hz, pb_kp hpz]; exact hkz)
          clear hb0
          rw [hkz] at c3
          clear hkz h2' c0 c1 c2 c4 c5
          go_wp2
          go_ret
          exact ⟨by rw [HBK.out]; rfl, hbw⟩
        · have hbk := back_kept (b := pbOf l H) (ln := ln) (p := p) h2' (by rw [HML.out, show m2 + 2 - 1 = m2 + 1 from rfl, getD_of hz, pb_kp hpz]; exact hkz)
          rw [HML.out, show m2 + 2 - 1 = m2 + 1 from rfl] at hbk
          rw [hb0] at hbk
          have HBK := Lib.hid hbk
          clear hb0
          rw [hkz] at c3
          clear hkz hbk h2' c0 c1 c2 c4 c5 hpz
          go_wp2
          go_loopw [8] (fun kv w1 => ∃ s : Nat, kv = .int .i64 s ∧ w1 = wr ∧ s ≤ m2 + 1 ∧ Hid (bk = searchS (pbOf l H) ln p s)) (fun kv _ => (intOf kv).toNat)
          case atStart => exact ⟨m2 + 1, by go_num, rfl, Nat.le_refl _, HBK⟩
          case round =>
            clear HBK e0 c3 hz hzn i1 i2
            obtain ⟨s, rfl, rfl, hs, HK⟩ := hrel
            cases s with
            | zero =>
              have HX : Hid (bk = p) := HK.out
              clear HK
              go_wp2
              go_ret
              exact ⟨by rw [HX.out]; rfl, hbw⟩
            | succ s =>
              obtain ⟨x, hxs⟩ := get_of (l := ln) (k := s) (by rw [HML.out]; omega)
              have hxn := hll x (List.mem_of_getElem? hxs)
              obtain ⟨px, hpx⟩ := get_of (l := l) (k := x) (by rw [HL.out]; exact hxn)
              obtain ⟨g1, o1, hA1, _, e0⟩ := HRL.out.int (nints_at hxs)
              injection hA1 with hA1
              injection hA1 with hA1 hA2 _
              subst hA1 hA2
              obtain ⟨g2, o2, hA2, _, c0, c1, c2, c3, c4, c5⟩ := hxw.at6 hpx
              injection hA2 with hA2
              injection hA2 with hA2 hA3 _
              subst hA2 hA3
              have i1 : (0 : Int) ≤ (x : Int) := by omega
              have i2 : (x : Int) < (n : Int) := by omega
              cases hkx : px.kp
              · rw [hkx] at c3
                obtain ⟨y, hys⟩ := get_of (l := ln) (k := s + 1) (by rw [HML.out]; omega)
                obtain ⟨g1, o1, hA1, _, e1⟩ := HRL.out.int (nints_at hys)
                injection hA1 with hA1
                injection hA1 with hA1 hA2 _
                subst hA1 hA2
                have HX : Hid (bk = y) := by rw [HK.out, searchS, getD_of hxs, pb_kp hpx, hkx, if_neg (by decide), getD_of hys]; rfl
                clear hkx HK c0 c1 c2 c4 c5
                go_wp2
                go_ret
                exact ⟨by rw [HX.out]; rfl, hbw⟩
              · rw [hkx] at c3
                have HX : Hid (bk = searchS (pbOf l H) ln p s) := by rw [HK.out, searchS, getD_of hxs, pb_kp hpx, hkx]; rfl
                clear hkx HK c0 c1 c2 c4 c5
                go_wp2
                go_roundw
                case rel => exact ⟨s, by go_num, by trivial, by omega, HX⟩
                case measure => simp [intOf] <;> omega
end Go.Proofs.YtpgpkgpiengmkaaDoor
