/-
  Layer 25 (collate), the chapter's: Check of a valid collation, Same of equal ones.
-/
import Derived.Test.YtkndgkiglaacnaaDoorLocP
import Derived.Laws.StructEq
namespace Go.Proofs.YtkndgkiglaacnaaDoor
open Go.RowKit
set_option linter.unusedVariables false
set_option linter.unusedSimpArgs false
attribute [local go_sem] B_data B_size

theorem rd_pr {w : World} {M n k : Nat} {A : Option Addr} {P : List (List UInt8 × List UInt8)} {p : List UInt8 × List UInt8} (h : Rd w M 2 A n (prs P)) (hk : P[k]? = some p) :
    ∃ b o, A = some ⟨b, o, none⟩ ∧ b < M ∧ w.cell? ⟨b, o + k * 2, none⟩ = some (.string (B p.1)) ∧ w.cell? ⟨b, o + k * 2 + 1, none⟩ = some (.string (B p.2)) := by
  have hat : ∀ (l : List (List UInt8 × List UInt8)) (k : Nat), l[k]? = some p → (prs l)[k * 2]? = some (.string (B p.1)) ∧ (prs l)[k * 2 + 1]? = some (.string (B p.2)) := by
    intro l
    induction l with
    | nil => intro k h; simp at h
    | cons a r ih =>
      intro k h
      cases k with
      | zero =>
        have e : a = p := by simpa using h
        subst e
        simp [prs]
      | succ k =>
        have := ih k (by simpa using h)
        rw [show (k + 1) * 2 = k * 2 + 2 from by omega]
        simpa [prs, List.flatMap_cons] using this
  have hl := h.1
  rw [prs_len] at hl
  have hkl := (List.getElem?_eq_some_iff.1 hk).1
  obtain ⟨ad, e, hb, hc⟩ := h.2 (by omega)
  obtain ⟨b, o, spot⟩ := ad
  have h0 := hc (k * 2) _ (hat P k hk).1
  have h1 := hc (k * 2 + 1) _ (hat P k hk).2
  have hx0 := hc 0 _ (List.getElem?_eq_getElem (by rw [prs_len]; omega))
  have hsp : spot = none := by simpa [Addr.add] using World.cell?_spot hx0
  subst hsp
  rw [addr_lit] at h0 h1
  exact ⟨b, o, e, hb, h0, h1⟩
theorem Rd.prs_length {w : World} {M n : Nat} {A : Option Addr} {P : List (List UInt8 × List UInt8)} (h : Rd w M 2 A n (prs P)) : P.length = n := by
  have := h.1; rw [prs_len] at this; omega
theorem rd_strG {w : World} {M n k : Nat} {A : Option Addr} {ls : List (List UInt8)} {x : List UInt8} (h : Rd w M 1 A n (strs ls)) (hk : ls[k]? = some x) :
    ∃ b o, A = some ⟨b, o, none⟩ ∧ b < M ∧ w.cell? ⟨b, o + k, none⟩ = some (.string (B x)) := by
  have hkl := (List.getElem?_eq_some_iff.1 hk).1
  obtain ⟨b, o, e, hb, hc⟩ := rd_strb h (k := k) (by rw [← h.strs_length]; exact hkl)
  refine ⟨b, o, e, hb, ?_⟩
  rw [hc]; simp [hk]

theorem goodO_len {l : List Nat} {r : List (List UInt8)} {lf : List Nat} (h : goodO l r = some lf) : l.length ≤ lf.length := by
  induction r generalizing l with
  | nil => simp [goodO] at h; rw [h]; exact Nat.le_refl _
  | cons x r ih =>
    obtain ⟨ps, _, _, h2⟩ := goodO_step h
    have := ih h2
    rw [List.length_append] at this
    omega
set_option maxHeartbeats 8000000 in
set_option maxRecDepth 100000 in
theorem check_ok (A A2 : Option Addr) (n c n2 c2 : Nat) (L : List (List UInt8)) (P : List (List UInt8 × List UInt8)) (w : World) (hL : Rd w w.heap.size 1 A n (strs L)) (hP : Rd w w.heap.size 2 A2 n2 (prs P)) (hg : goodC L P = true) (hn : n ≤ 1000) (hll : ∀ lf, goodO [] L = some lf → lf.length ≤ 500) :
    Calls Tryd.prog 25 #[.agg #[.slice A2 n2 c2, .slice A n c, .string ⟨#[]⟩]] w fun e w' => e = .returned (.int .i64 0) ∧ Below w.heap.size w w' := by
  have HL := Lib.hid hL.strs_length
  have HP := Lib.hid hP.prs_length
  unfold goodC at hg
  cases hgo : goodO [] L with
  | none => rw [hgo] at hg; cases hg
  | some lf =>
  rw [hgo] at hg
  simp only [Bool.and_eq_true, decide_eq_true_eq] at hg
  obtain ⟨⟨hn1, hn2⟩, hgr⟩ := hg
  rw [HL.out] at hn1
  rw [HP.out] at hn2
  have HLL := Lib.hid (hll lf hgo)
  have HGO := Lib.hid hgo
  have HGR := Lib.hid hgr
  clear hgo hgr hll
  have d1 : decide ((128 : Int) < (n : Int)) = false := decide_eq_false (by omega)
  have d2 : decide ((128 : Int) < (n2 : Int)) = false := decide_eq_false (by omega)
  go_enter Tryd.func25, Tryd.ntmps25
  obtain ⟨wa, hwa⟩ : ∃ wa, wa = w.alloc (.cells #[.slice A2 n2 c2, .slice A n c, .string ⟨#[]⟩] 42) := ⟨_, rfl⟩
  have hba : Below w.heap.size w wa := by rw [hwa]; exact below_alloc _ _
  have hza : wa.heap.size = w.heap.size + 1 := by rw [hwa]; simp
  have HQ := Lib.hid (fun (W : World) (hb : Below wa.heap.size wa W) => (⟨(hb.cell (p := ⟨w.heap.size, 0, none⟩) (by show w.heap.size < _; omega)).trans (by rw [hwa]; simp), (hb.cell (p := ⟨w.heap.size, 1, none⟩) (by show w.heap.size < _; omega)).trans (by rw [hwa]; simp), (hb.cell (p := ⟨w.heap.size, 2, none⟩) (by show w.heap.size < _; omega)).trans (by rw [hwa]; simp)⟩ :
    W.cell? ⟨w.heap.size, 0, none⟩ = some (.slice A2 n2 c2) ∧ W.cell? ⟨w.heap.size, 1, none⟩ = some (.slice A n c) ∧ W.cell? ⟨w.heap.size, 2, none⟩ = some (.string ⟨#[]⟩)))
  go_wp2
  rw [← hwa]
  clear hwa
  go_loopw [3, 4, 5] (fun v tw i wr => ∃ (k : Nat) (l : List Nat) (A1 : Option Addr) (c1 : Nat), k ≤ n ∧ i = .int .i64 k ∧ v = .slice A1 l.length c1 ∧ tw = .bool false ∧ Rd wr wr.heap.size 1 A1 l.length (nums l) ∧ Below wa.heap.size wa wr ∧ Hid (goodO l (L.drop k) = some lf)) (fun _ _ i _ => n - (intOf i).toNat)
  case atStart => exact ⟨0, [], none, 0, Nat.zero_le _, rfl, rfl, rfl, Rd.nil, Below.refl _ _, HGO.out⟩
  case round =>
    obtain ⟨k, l, A1, c1, hk, rfl, rfl, rfl, hrr, hbw, hr⟩ := hrel
    have hbs := hbw.size
    obtain ⟨q0, q1, q2⟩ := HQ.out wr hbw
    have hlen : l.length ≤ 500 := by have := goodO_len hr.out; have := HLL.out; omega
    by_cases hlt : k < n
    · obtain ⟨x, hx⟩ := get_of (l := L) (k := k) (by rw [HL.out]; exact hlt)
      have hst := hr.out
      rw [drop_get hx] at hst
      obtain ⟨ps, hrp, hfr, hrest⟩ := goodO_step hst
      obtain ⟨b, o, rfl, hm, hcx⟩ := rd_strG ((hL.below hba).below (hbw.mono hba.size)) hx
      have HR := Lib.hid hrest
      have CR := Lib.hid (rule_ok x ps wr hrp)
      have CW := Lib.hid (fun (W : World) (hb : Below wr.heap.size wr W) => with_ok A1 l.length c1 l ps x W ((hrr.below hb).more hb.size) (by have := hrp.hi; omega) hrp.d hfr (by omega))
      have HX := Lib.hid (fun (W : World) (hb : Below wr.heap.size wr W) => ((hb.cell (p := ⟨b, o + k, none⟩) (by show b < _; have := hba.size; omega)).trans hcx : W.cell? ⟨b, o + k, none⟩ = some (.string (B x))))
      clear hst hrest hfr hrp hx
      go_wp2_with fail
      refine CR.out.mono ?_
      rintro e w2 ⟨rfl, hb2⟩
      have hbw2 := hbw.trans (hb2.mono hbs)
      obtain ⟨p0, p1, p2⟩ := HQ.out w2 hbw2
      have px := HX.out w2 hb2
      clear CR
      go_wp2_with fail
      refine (CW.out w2 hb2).mono ?_
      rintro e w3 ⟨A3, c3, rfl, hr3, hb3⟩
      have hbw3 := hbw2.trans (hb3.mono hbw2.size)
      clear CW HX
      go_wp2
      go_roundw
      case rel => exact ⟨k + 1, l ++ ps, A3, c3, by omega, by go_num, by rw [List.length_append], rfl, by rw [List.length_append]; exact hr3, hbw3, HR.out⟩
      case measure => simp [intOf]; omega
    · have hll : l = lf := by
        have := hr.out
        rw [List.drop_of_length_le (by rw [HL.out]; omega)] at this
        simpa [goodO] using this
      subst hll
      rename World => wo
      go_wp2
      go_loopw [3, 4, 6] (fun v tw i wr => ∃ (k : Nat) (l : List Nat) (A1 : Option Addr) (c1 : Nat), k ≤ n2 ∧ i = .int .i64 k ∧ v = .slice A1 l.length c1 ∧ tw = .bool false ∧ Rd wr wr.heap.size 1 A1 l.length (nums l) ∧ Below wa.heap.size wa wr ∧ l.length ≤ 500 + k ∧ Hid (goodR l (P.drop k) = true)) (fun _ _ i _ => n2 - (intOf i).toNat)
      case atStart => exact ⟨0, l, A1, c1, Nat.zero_le _, rfl, rfl, rfl, hrr, hbw, by omega, HGR.out⟩
      case round =>
        clear hrr hbw hbs q0 q1 q2 hlen hr HGR
        obtain ⟨k, l, A1, c1, hk, rfl, rfl, rfl, hrr, hbw, hlen, hr⟩ := hrel
        have hbs := hbw.size
        obtain ⟨q0, q1, q2⟩ := HQ.out wr hbw
        by_cases hlt : k < n2
        · obtain ⟨⟨x, y⟩, hx⟩ := get_of (l := P) (k := k) (by rw [HP.out]; exact hlt)
          have hst := hr.out
          rw [drop_get hx] at hst
          obtain ⟨a, b4, hra, hrb, hal, hbl, hfr, hrest⟩ := goodR_step hst
          obtain ⟨b, o, rfl, hm, hcx, hcy⟩ := rd_pr ((hP.below hba).below (hbw.mono hba.size)) hx
          have HR := Lib.hid hrest
          obtain ⟨wb, hwb⟩ : ∃ wb, wb = wr.alloc (.cells #[.string (B x), .string (B y)] 68) := ⟨_, rfl⟩
          have hbb : Below wr.heap.size wr wb := by rw [hwb]; exact below_alloc _ _
          have hzb : wb.heap.size = wr.heap.size + 1 := by rw [hwb]; simp
          have HY := Lib.hid (fun (W : World) (hb : Below wb.heap.size wb W) => (⟨(hb.cell (p := ⟨wr.heap.size, 0, none⟩) (by show wr.heap.size < _; omega)).trans (by rw [hwb]; simp), (hb.cell (p := ⟨wr.heap.size, 1, none⟩) (by show wr.heap.size < _; omega)).trans (by rw [hwb]; simp)⟩ :
            W.cell? ⟨wr.heap.size, 0, none⟩ = some (.string (B x)) ∧ W.cell? ⟨wr.heap.size, 1, none⟩ = some (.string (B y))))
          have CA := Lib.hid (fun W => rule_ok x a W hra)
          have CB := Lib.hid (fun W => rule_ok y b4 W hrb)
          have LA := Lib.hid (fun W => letters_ok (B x) a W (by rw [B_size]; have := hra.hi; omega) (by rw [B_data]; exact hra.d))
          have LB := Lib.hid (fun W => letters_ok (B y) b4 W (by rw [B_size]; have := hrb.hi; omega) (by rw [B_data]; exact hrb.d))
          have CW := Lib.hid (fun (W : World) (hb : Below wr.heap.size wr W) => with_ok A1 l.length c1 l a x W ((hrr.below hb).more hb.size) (by have := hra.hi; omega) hra.d hfr (by omega))
          have e1 : decide ((1 : Int) < (a.length : Int)) = false := decide_eq_false (by omega)
          have e4 : decide ((4 : Int) < (b4.length : Int)) = false := decide_eq_false (by omega)
          have HAL := Lib.hid hal
          clear hst hrest hfr hra hrb hx hal hbl
          have y0 := (HY.out wb (Below.refl _ _)).1
          go_wp2_with fail
          rw [← hwb]
          clear hwb
          refine (CA.out wb).mono ?_
          rintro e w2 ⟨rfl, hb2⟩
          have y1 := (HY.out w2 hb2).2
          clear y0
          go_wp2_with fail
          refine (CB.out w2).mono ?_
          rintro e w3 ⟨rfl, hb3'⟩
          have hb3 := hb2.trans (hb3'.mono hb2.size)
          have y0 := (HY.out w3 hb3).1
          clear y1
          go_wp2_with fail
          refine (LA.out w3).mono ?_
          rintro e w4 ⟨A4, c4, rfl, _, hb4'⟩
          have hb4 := hb3.trans (hb4'.mono hb3.size)
          have y1 := (HY.out w4 hb4).2
          clear y0
          go_wp2_with fail
          refine (LB.out w4).mono ?_
          rintro e w5 ⟨A5, c5, rfl, _, hb5'⟩
          have hb5 := hb4.trans (hb5'.mono hb4.size)
          have y0 := (HY.out w5 hb5).1
          clear y1
          go_wp2_with fail
          have hb5r := hbb.trans (hb5.mono hbb.size)
          refine (CW.out w5 hb5r).mono ?_
          rintro e w6 ⟨A6, c6, rfl, hr6, hb6'⟩
          have hbw6 := (hbw.trans (hb5r.mono hbs)).trans (hb6'.mono (Nat.le_trans hbs hb5r.size))
          clear CW HY CA CB LA LB
          go_wp2
          go_roundw
          case rel => exact ⟨k + 1, l ++ a, A6, c6, by omega, by go_num, by rw [List.length_append], rfl, by rw [List.length_append]; exact hr6, hbw6, by rw [List.length_append]; have := HAL.out; omega, HR.out⟩
          case measure => simp [intOf]; omega
        · go_wp2
          go_ret
          exact ⟨rfl, hba.trans (hbw.mono hba.size)⟩
end Go.Proofs.YtkndgkiglaacnaaDoor
