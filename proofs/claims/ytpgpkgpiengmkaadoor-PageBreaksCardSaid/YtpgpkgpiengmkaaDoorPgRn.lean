/-
  Layer 40 (page), the chapter's: Break.
-/
import Derived.Test.YtpgpkgpiengmkaaDoorPgRl
import Derived.Test.YtpgpkgpiengmkaaDoorPgL
namespace Go.Proofs.YtpgpkgpiengmkaaDoor
open Go.RowKit
set_option linter.unusedVariables false
set_option linter.unusedSimpArgs false
attribute [local go_sem] B_data B_size

/-- the state of the chapter's Break's loop -/
structure RB (q : Nat) (l : List Bx) (H : Int) (w : World) (p : Nat) (wt dn : List Nat) (ps : List Pg) (m k : Nat) (A : Option Addr) (c : Nat) (B : Option Addr) (nb cb : Nat) (ht f : Int) (W : Option Addr) (nw cw : Nat) (wr : World) : Prop where
  fx : FX q (.slice A m c) (.slice B nb cb) ht f (.slice W nw cw) (p : Nat) wr
  q0 : w.heap.size ≤ q
  b : Below w.heap.size w wr
  rb : ∃ bx0, WRow wr w.heap.size (.slice B nb cb) (nints bx0)
  rw : WRow wr w.heap.size (.slice W nw cw) (nints wt)
  ro : wr.ownsRow w.heap.size 42 2 (.slice A m c) m (ps.flatMap pgF)
  pg : ∀ x ∈ ps, WRow wr w.heap.size (.slice x.A x.nb x.cb) x.bs
  inv : Inv (pbOf l H) dn p wt
  kk : (pbOf l H).n - p + wt.length ≤ k
  r : (breakS (pbOf l H) l.length 0 []).map nat2 = ps.map pgD ++ (breakS (pbOf l H) k p wt).map nat2
  n : m ≤ dn.length
section
variable {q p m k c nb cb nw cw cp1 nb1 cb1 nw1 cw1 : Nat} {l : List Bx} {H ht f f1 : Int} {w wr w3 : World} {wt dn : List Nat} {ps : List Pg} {A B W P1 B1 W1 : Option Addr}
theorem RB.next (h : RB q l H w p wt dn ps m k A c B nb cb ht f W nw cw wr)
    (hh : ∀ i, i < (pbOf l H).n → 0 ≤ (pbOf l H).h i) (hf : ∀ i, i < (pbOf l H).n → (pbOf l H).h i ≤ (pbOf l H).H) (hH : 0 ≤ (pbOf l H).H) (hc : p < (pbOf l H).n ∨ wt ≠ [])
    (hB1 : WRow w3 w.heap.size (.slice B1 nb1 cb1) (nints (oneS (pbOf l H) p wt).1)) (hW1 : WRow w3 w.heap.size (.slice W1 nw1 cw1) (nints (oneS (pbOf l H) p wt).2.2.2))
    (ho : w3.ownsRow w.heap.size 42 2 (.slice P1 (m + 1) cp1) (m + 1) (ps.flatMap pgF ++ [.slice B1 nb1 cb1, .int .i64 (oneS (pbOf l H) p wt).2.1])) (hk : Kpt (fun i => (Value.slice A m c).ownBlock = some i) wr w3) :
    FX q (.slice A m c) (.slice B nb cb) ht f (.slice W nw cw) (p : Nat) w3 ∧
    RB q l H w (oneS (pbOf l H) p wt).2.2.1 (oneS (pbOf l H) p wt).2.2.2 (dn ++ (oneS (pbOf l H) p wt).1) (ps ++ [⟨nints (oneS (pbOf l H) p wt).1, (oneS (pbOf l H) p wt).2.1, B1, nb1, cb1⟩]) (m + 1) (k - 1) P1 cp1 B1 nb1 cb1 (oneS (pbOf l H) p wt).2.1 f1 W1 nw1 cw1
      (w3.setRow q #[.slice P1 (m + 1) cp1, .slice B1 nb1 cb1, .int .i64 (oneS (pbOf l H) p wt).2.1, .int .i64 f1, .slice W1 nw1 cw1, .int .i64 ((oneS (pbOf l H) p wt).2.2.1 : Nat)]) := by
  have hp := one_ok hh hH h.inv
  have hne := one_ne hf h.inv hc
  have hls := one_less hh hf hH h.inv hc
  have hkk := h.kk
  have hpn := h.inv.1
  have hk0 : k = (k - 1) + 1 := by
    rcases hc with hc | hc
    · omega
    · have := List.length_pos_iff.2 hc; omega
  have hfx := h.fx.keep hk (own_ne h.ro h.fx.bl ne_fp)
  have hkr : Kpt (fun i => i = q) w3 (w3.setRow q #[.slice P1 (m + 1) cp1, .slice B1 nb1 cb1, .int .i64 (oneS (pbOf l H) p wt).2.1, .int .i64 f1, .slice W1 nw1 cw1, .int .i64 ((oneS (pbOf l H) p wt).2.2.1 : Nat)]) := (Kpt.refl (fun i => i = q) _).setRow (fun _ => rfl) _
  have n1 := hB1.ne hfx.bl ne_fi
  have n2 := hW1.ne hfx.bl ne_fi
  have n3 := own_ne ho hfx.bl ne_fp
  have hb3 : Below w.heap.size w w3 := h.b.trans (hk.below h.b.size (fun i e => (h.ro.lt i e).1))
  refine ⟨hfx, hfx.row (vP' := .slice P1 (m + 1) cp1), h.q0, below_setRow hb3 h.q0 _, ⟨_, hB1.keep hkr (fun i e e2 => n1 (by rw [e, e2]))⟩, hW1.keep hkr (fun i e e2 => n2 (by rw [e, e2])), ?_, ?_, hp.inv, by omega, ?_, ?_⟩
  · rw [List.flatMap_append]
    exact own_keep ho hkr (fun i e e2 => n3 (by rw [e, e2]))
  · intro x hx
    rcases List.mem_append.1 hx with hx | hx
    · have h3 := (h.pg x hx).keep hk ((h.pg x hx).ne_own h.ro ne_pg)
      have n4 := h3.ne hfx.bl ne_fi
      exact h3.keep hkr (fun i e e2 => n4 (by rw [e, e2]))
    · rw [List.mem_singleton] at hx
      subst hx
      exact hB1.keep hkr (fun i e e2 => n1 (by rw [e, e2]))
  · have e1 := h.r
    rw [hk0, breakS, if_pos hc] at e1
    rw [e1, List.map_append, List.map_cons, List.append_assoc]
    rfl
  · have h3 := List.length_pos_iff.2 hne
    have := h.n
    rw [List.length_append]; omega
theorem RB.done (h : RB q l H w p wt dn ps m k A c B nb cb ht f W nw cw wr) (hc : ¬ (p < (pbOf l H).n ∨ wt ≠ [])) (hE : brkE l H = 0) :
    BrkPost l H w (.returned (.tuple #[.slice A m c, .int .i64 0])) wr := by
  refine ⟨A, m, c, ps, by rw [hE], ⟨Rd.of_own h.ro, fun x hx => (h.pg x hx).rdA⟩, ?_, h.b⟩
  unfold brkP
  rw [if_pos hE, h.r, break_nil hc]
  simp
end
set_option maxHeartbeats 8000000 in
set_option maxRecDepth 100000 in
theorem rbreak_any (A : Option Addr) (n c : Nat) (l : List Bx) (H : Int) (w : World) (hx : BxAt w w.heap.size A n l) (hf : Few l) :
    Calls Tryd.prog 12 #[.slice A n c, .int .i64 H] w (BrkPost l H w) := by
  have HL := Lib.hid hx.len
  have hn60 : n ≤ 60 := by have := hf.n; rw [hx.len] at this; exact this
  go_enter Tryd.func12, Tryd.ntmps12
  go_wp2_with fail
  refine (rbcheck_any A n c l w hx hf).mono ?_
  rintro e w1 ⟨rfl, hb1⟩
  by_cases hc : chkB [] 0 l = 0
  rotate_left
  · have HE : Hid (brkE l H = chkB [] 0 l) := by show _ = _; unfold brkE; rw [if_pos hc]
    generalize chkB [] 0 l = ce at *
    have z1 : (ce != 0) = true := by simpa using hc
    have HP := Lib.hid (BrkPost.err HE hc hb1)
    clear hc HE hb1
    go_wp2
    go_ret2
    exact HP.out
  have HE : Hid (brkE l H = if H < 1 then 9 else if l.any (fun b => decide (H < b.h)) then 19 else 0) := by show _ = _; unfold brkE; rw [if_neg (by simp [hc])]
  have hh := chk_ht l [] 0 hc
  rw [hc]
  clear hc hf
  by_cases hH : H < 1
  · have HP := Lib.hid (BrkPost.err (r := 9) (by rw [HE.out, if_pos hH]; rfl) (by decide) hb1)
    clear HE hb1
    go_wp2
    go_ret2
    exact HP.out
  have HE2 : Hid (brkE l H = if l.any (fun b => decide (H < b.h)) then 19 else 0) := by rw [HE.out, if_neg hH]; rfl
  clear HE
  go_wp2
  go_loopw [7] (fun i wr => ∃ j : Nat, j ≤ n ∧ i = .int .i64 j ∧ Below w.heap.size w wr ∧ Hid (∀ b ∈ l.take j, b.h ≤ H)) (fun i _ => n - (intOf i).toNat)
  case atStart => exact ⟨0, Nat.zero_le _, rfl, hb1, fun b hb => by simp at hb⟩
  case round =>
    obtain ⟨j, hj, rfl, hbw, hall⟩ := hrel
    have hsz := hbw.size
    by_cases hlt : j < n
    · obtain ⟨p, hp⟩ := get_of (l := l) (k := j) (by rw [HL.out]; exact hlt)
      obtain ⟨g, o, rfl, hg, c0, c1, c2, c3, c4, c5⟩ := (hx.below hbw).at6 hp
      by_cases hb : H < p.h
      · have HP := Lib.hid (BrkPost.err (r := 19) (by rw [HE2.out, any_yes (List.mem_of_getElem? hp) hb]; rfl) (by decide) hbw)
        clear HE2
        go_wp2
        go_ret2
        exact HP.out
      · have HA := Lib.hid (all_take (P := fun b : Bx => b.h ≤ H) hall.out (by omega) hp)
        clear hall
        go_wp2
        go_roundw
        case rel => exact ⟨j + 1, by omega, by go_num, hbw, HA⟩
        case measure => simp [intOf]; omega
    · have hall2 : ∀ b ∈ l, b.h ≤ H := by have h := hall.out; rwa [List.take_of_length_le (by rw [HL.out]; omega)] at h
      have HE0 : Hid (brkE l H = 0) := by rw [HE2.out, any_no hall2]; rfl
      have HN : Hid ((pbOf l H).n = n) := HL.out
      have hstp := below_alloc wr (.cells #[.slice none 0 0, .slice none 0 0, .int .i64 0, .int .i64 0, .slice none 0 0, .int .i64 0] 55)
      have HS : Hid (RB wr.heap.size l H w 0 [] [] [] 0 l.length none 0 none 0 0 0 0 none 0 0 (wr.alloc (.cells #[.slice none 0 0, .slice none 0 0, .int .i64 0, .int .i64 0, .slice none 0 0, .int .i64 0] 55))) :=
        ⟨heap_alloc_new wr _, hsz, hbw.trans (hstp.mono hsz), ⟨[], WRow.nil _ _⟩, WRow.nil _ _, World.ownsRow_nil .., (fun x hx => by cases hx), inv_start _, (by show l.length - 0 + 0 ≤ l.length; omega), rfl, Nat.le_refl _⟩
      clear HE2 hall hb1 hstp
      go_wp2
      generalize hq : wr.heap.size = q at *
      go_loopw [] (fun w1 => ∃ (p : Nat) (wt dn : List Nat) (ps : List Pg) (m k : Nat) (A : Option Addr) (c : Nat) (B : Option Addr) (nb cb : Nat) (ht f : Int) (W : Option Addr) (nw cw : Nat), Hid (RB q l H w p wt dn ps m k A c B nb cb ht f W nw cw w1)) (fun w1 => n - (cellInt q 5 w1).toNat + cellLen q 4 w1)
      case atStart => exact ⟨0, [], [], [], 0, l.length, none, 0, none, 0, 0, 0, 0, none, 0, 0, HS⟩
      case round =>
        clear HS hbw hsz
        obtain ⟨p, wt, dn, ps, m, k, A9, c9, B, nb, cb, ht, f, W, nw, cw, HS⟩ := hrel
        have hbw := HS.out.b
        have hsz := hbw.size
        have d0 := HS.out.fx.c0
        have d1 := HS.out.fx.c1
        have d2 := HS.out.fx.c2
        have d3 := HS.out.fx.c3
        have d4 := HS.out.fx.c4
        have d5 := HS.out.fx.c5
        have HNW := Lib.hid HS.out.rw.cnt
        obtain ⟨bx0, hrb0⟩ := HS.out.rb
        have hil := inv_len HS.out.inv
        have hpn := HS.out.inv.1
        rw [HN.out] at hpn
        have hmd := HS.out.n
        have M4 := Lib.hid (cellLen_of d4)
        have M5 := Lib.hid (cellInt_of d5)
        by_cases hcnd : p < n ∨ wt ≠ []
        · have HON := Lib.hid (rone_any A n c w.heap.size l H w.heap.size A9 m c9 (ps.flatMap pgF) B nb cb bx0 dn W nw cw wt ht f p wr (hx.below hbw) hh (by omega) hsz hsz HS.out.ro (by omega) hrb0 HS.out.rw HS.out.inv)
          have HOL := Lib.hid (one_less (pb_in (H := H) (P := fun x => 0 ≤ x) (fun b hb => by have := hh b hb; omega)) (pb_in (P := fun x => x ≤ H) hall2) (show (0 : Int) ≤ H by omega) HS.out.inv (by rw [HN.out]; exact hcnd))
          have HNX := Lib.hid (fun (w3 : World) (P1 : Option Addr) (cp1 : Nat) (B1 : Option Addr) (nb1 cb1 : Nat) (f1 : Int) (W1 : Option Addr) (nw1 cw1 : Nat) h1 h2 h3 h4 => HS.out.next (w3 := w3) (P1 := P1) (cp1 := cp1) (B1 := B1) (nb1 := nb1) (cb1 := cb1) (f1 := f1) (W1 := W1) (nw1 := nw1) (cw1 := cw1) (pb_in (P := fun x => 0 ≤ x) (fun b hb => by have := hh b hb; omega)) (pb_in (P := fun x => x ≤ H) hall2) (show (0 : Int) ≤ H by omega) (by rw [HN.out]; exact hcnd) h1 h2 h3 h4)
          clear HS hrb0
          by_cases hlt : p < n
          · have i1 : (p : Int) < (n : Int) := by omega
            clear hcnd
            go_wp2_with fail
            refine HON.out.mono ?_
            rintro e w3 ⟨P1, cp1, B1, nb1, cb1, f1, W1, nw1, cw1, rfl, hB1, hW1, ho1, hk1⟩
            obtain ⟨hfx, hN⟩ := HNX.out w3 P1 cp1 B1 nb1 cb1 f1 W1 nw1 cw1 hB1 hW1 ho1 hk1
            have HFX := Lib.hid hfx
            have HN1 := Lib.hid hN
            clear hfx hN hB1 hW1 ho1 hk1 HON HNX d0 d1 d2 d3 d4 d5
            generalize oneS (pbOf l H) p wt = r at *
            go_wp2_with (refine wpList_fxT rfl _ _ rfl rfl _ _ HFX.out _ _ _ _ _ _ _ _ _ _ _ _ rfl rfl ?_)
            go_roundw
            case rel => exact ⟨r.2.2.1, r.2.2.2, dn ++ r.1, _, m + 1, k - 1, P1, cp1, B1, nb1, cb1, _, f1, W1, nw1, cw1, HN1⟩
            case measure =>
              have e4 := cellLen_of HN1.out.fx.c4
              have e5 := cellInt_of HN1.out.fx.c5
              have e6 := HN1.out.rw.cnt
              have hms := HOL.out
              rw [HN.out] at hms
              rw [e4, e5, e6, M4.out, M5.out, HNW.out]
              omega
          · have i1 : ¬ (p : Int) < (n : Int) := by omega
            have i2 : (0 : Int) < (nw : Int) := by
              have := List.length_pos_iff.2 (hcnd.resolve_left hlt)
              rw [HNW.out]; omega
            clear hcnd
            go_wp2_with fail
            refine HON.out.mono ?_
            rintro e w3 ⟨P1, cp1, B1, nb1, cb1, f1, W1, nw1, cw1, rfl, hB1, hW1, ho1, hk1⟩
            obtain ⟨hfx, hN⟩ := HNX.out w3 P1 cp1 B1 nb1 cb1 f1 W1 nw1 cw1 hB1 hW1 ho1 hk1
            have HFX := Lib.hid hfx
            have HN1 := Lib.hid hN
            clear hfx hN hB1 hW1 ho1 hk1 HON HNX d0 d1 d2 d3 d4 d5
            generalize oneS (pbOf l H) p wt = r at *
            go_wp2_with (refine wpList_fxT rfl _ _ rfl rfl _ _ HFX.out _ _ _ _ _ _ _ _ _ _ _ _ rfl rfl ?_)
            go_roundw
            case rel => exact ⟨r.2.2.1, r.2.2.2, dn ++ r.1, _, m + 1, k - 1, P1, cp1, B1, nb1, cb1, _, f1, W1, nw1, cw1, HN1⟩
            case measure =>
              have e4 := cellLen_of HN1.out.fx.c4
              have e5 := cellInt_of HN1.out.fx.c5
              have e6 := HN1.out.rw.cnt
              have hms := HOL.out
              rw [HN.out] at hms
              rw [e4, e5, e6, M4.out, M5.out, HNW.out]
              omega
        · have hw0 : wt = [] := by
            cases wt with
            | nil => rfl
            | cons a r => exact absurd (Or.inr (by simp)) hcnd
          have hnw0 : nw = 0 := by rw [HNW.out, hw0]; rfl
          have e : p = n := by have : ¬ p < n := fun h => hcnd (.inl h)
                               omega
          have HP := Lib.hid (HS.out.done (by rw [HN.out]; exact hcnd) HE0.out)
          subst hnw0
          subst e
          clear HS hrb0 HNW hw0 hcnd
          go_wp2
          go_ret2
          exact HP.out
end Go.Proofs.YtpgpkgpiengmkaaDoor
