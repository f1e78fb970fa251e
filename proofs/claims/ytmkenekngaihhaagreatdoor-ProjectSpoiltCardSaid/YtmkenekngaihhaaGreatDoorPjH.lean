/-
  Layer 49 (project): the text of a project: the chapter's.
-/
import Derived.Test.YtmkenekngaihhaaGreatDoorPjG
namespace Go.Proofs.YtmkenekngaihhaaGreatDoor
open Go.RowKit
set_option linter.unusedVariables false
set_option linter.unusedSimpArgs false
attribute [local go_sem] B_data B_size

theorem quiet_left {P : Program} {f : FuncId} {args : Array Value} {w : World} {n : Nat} {v : Value}
    (h : Calls P f args (w.drewN n) fun e w' => e = .returned v ∧ w.drewN n = w') : Calls P f args (w.drewN n) fun e w'' => e = .returned v ∧ ∃ m, w'' = w.drewN m :=
  h.mono fun _ _ ⟨he, hm⟩ => ⟨he, n, hm.symm⟩
theorem Bx8.drewN {w : World} {b : Nat} {p : Pj} {c : PC} (h : Bx8 w b p c) (n : Nat) : Bx8 (w.drewN n) b p c := h
def txtE (p : Pj) : List UInt8 := if checkE pkG p = 0 then textP p else []
def TxPost (p : Pj) (w : World) (e : Ending) (w' : World) : Prop := e = .returned (.tuple #[.string (B (txtE p)), .int .i64 (checkE pkG p)]) ∧ Below w.heap.size w w'
theorem tx_bad {p : Pj} {w w' : World} (h : Hid (checkE pkG p ≠ 0)) (hb : Below w.heap.size w w') : TxPost p w (.returned (.tuple #[.string ⟨#[]⟩, .int .i64 (checkE pkG p)])) w' := ⟨by unfold txtE; rw [if_neg h.out]; rfl, hb⟩
theorem tx_ok {p : Pj} {l : List UInt8} {w w' : World} (h : Hid (checkE pkG p = 0)) (hl : Hid (l = textP p)) (hb : Below w.heap.size w w') : TxPost p w (.returned (.tuple #[.string (B l), .int .i64 0])) w' := ⟨by unfold txtE; rw [h.out, if_pos rfl, hl.out], hb⟩
theorem pages_num {t : Tg} (h : kindE t = 0) (hk : t.kd = kPages) : ∃ a b : Nat, t.pg = a ∧ t.wd = b ∧ a ≤ 1000 ∧ b ≤ 100000 ∧ tgL t = [116, 97, 114, 103, 101, 116, 32] ++ t.nm ++ [32] ++ kPages ++ [32] ++ numS a ++ [32] ++ numS b ++ [10] := by
  rcases kind_cases h with ⟨_, h2, h3, h4, h5⟩ | ⟨h1, _⟩
  · refine ⟨t.pg.toNat, t.wd.toNat, (Int.toNat_of_nonneg (by omega)).symm, (Int.toNat_of_nonneg (by omega)).symm, by omega, by omega, ?_⟩
    unfold tgL targetL
    rw [if_pos hk, hk]
    simp only [List.append_assoc]
  · exact absurd hk h1
theorem other_tgL {t : Tg} (hk : t.kd ≠ kPages) : tgL t = [116, 97, 114, 103, 101, 116, 32] ++ t.nm ++ [32] ++ t.kd ++ [10] := by
  unfold tgL targetL
  rw [if_neg hk]
  simp only [List.append_assoc, List.append_nil]
theorem tgL_len {t : Tg} (h : kindE t = 0) (h1 : t.nm.length ≤ 1000000) (h2 : t.kd.length ≤ 1000000) : (tgL t).length ≤ 3000000 := by
  by_cases hk : t.kd = kPages
  · obtain ⟨a, b, _, _, ha, hb, e⟩ := pages_num h hk
    have := numS_len a
    have := numS_len b
    have h5 : kPages.length = 5 := rfl
    rw [e]
    simp only [List.length_append, List.length_cons, List.length_nil]
    omega
  · rw [other_tgL hk]
    simp only [List.length_append, List.length_cons, List.length_nil]
    omega
set_option maxHeartbeats 16000000 in
set_option maxRecDepth 100000 in
theorem rtext_any (p : Pj) (c : PC) (w : World) (hs : PjSm p) (hp : PjAt w w.heap.size p c) :
    Calls Tryz.prog 12 #[.agg #[.string (B p.ti), .string (B p.la), .string (B p.ma), .string (B p.so), .string (B p.st), .slice c.A c.na c.ca, .slice c.F c.nf c.cf, .slice c.T c.nt c.ct]] w (TxPost p w) := by
  have hbx := Bx8.new w p c
  have hbw := below_alloc w (.cells #[.string (B p.ti), .string (B p.la), .string (B p.ma), .string (B p.so), .string (B p.st), .slice c.A c.na c.ca, .slice c.F c.nf c.cf, .slice c.T c.nt c.ct] 26)
  have HH := Lib.hid (rcheck_any p c _ hs (hp.step hbw))
  have HLV := Lib.hid (hp.vs.count prF 2 prF_len (by omega))
  have HLF := Lib.hid hp.fs.strs_length
  have HLT := Lib.hid (hp.ts.count tgF 4 tgF_len (by omega))
  go_enter Tryz.func12, Tryz.ntmps12
  go_wp2_with fail
  refine HH.out.mono ?_
  rintro e w1 ⟨rfl, hbn⟩
  have hbx := hbx.below hbn hbx.lt
  have hbw := hbw.trans (hbn.mono hbw.size)
  clear hbn HH
  by_cases h0 : ¬ checkE pkG p = 0
  · have HX := Lib.hid h0
    have z1 : (checkE pkG p != 0) = true := by simpa using h0
    clear h0
    go_wp2
    go_ret2
    exact tx_bad HX hbw
  simp only [Decidable.not_not] at h0
  obtain ⟨_, _, _, ht4, nv, nf, nt, _⟩ := check_parts h0
  have HTM := Lib.hid (fun t ht => (targetsE_mem p.ts [] ht4 t ht).2)
  rw [HLV.out] at nv
  rw [HLF.out] at nf
  rw [HLT.out] at nt
  have H0 := Lib.hid h0
  rw [h0]
  clear h0 ht4
  have hdl := hd5_len hs
  obtain ⟨L1, hL1⟩ : ∃ l, l = lnL [116, 105, 116, 108, 101] p.ti := ⟨_, rfl⟩
  obtain ⟨L2, hL2⟩ : ∃ l, l = lnL [108, 97, 110, 103] p.la := ⟨_, rfl⟩
  obtain ⟨L3, hL3⟩ : ∃ l, l = lnL [109, 97, 105, 110] p.ma := ⟨_, rfl⟩
  obtain ⟨L4, hL4⟩ : ∃ l, l = lnL [115, 111, 117, 114, 99, 101, 115] p.so := ⟨_, rfl⟩
  obtain ⟨L5, hL5⟩ : ∃ l, l = lnL [115, 116, 121, 108, 101] p.st := ⟨_, rfl⟩
  have HD : Hid (hd5 p = L1 ++ L2 ++ L3 ++ L4 ++ L5) := by rw [hL1, hL2, hL3, hL4, hL5]; rfl
  have hdl2 := hdl
  rw [HD.out] at hdl2
  simp only [List.length_append] at hdl2
  have C1 : Hid (∀ V, Calls Tryz.prog 33 #[.string ⟨#[116, 105, 116, 108, 101]⟩, .string (B p.ti)] V fun e w' => e = .returned (.string (B L1)) ∧ V = w') := by rw [hL1]; exact fun V => assigned_any [116, 105, 116, 108, 101] p.ti V (by decide) (by have := hs.ti; omega)
  have C2 : Hid (∀ V, Calls Tryz.prog 33 #[.string ⟨#[108, 97, 110, 103]⟩, .string (B p.la)] V fun e w' => e = .returned (.string (B L2)) ∧ V = w') := by rw [hL2]; exact fun V => assigned_any [108, 97, 110, 103] p.la V (by decide) (by have := hs.la; omega)
  have C3 : Hid (∀ V, Calls Tryz.prog 33 #[.string ⟨#[109, 97, 105, 110]⟩, .string (B p.ma)] V fun e w' => e = .returned (.string (B L3)) ∧ V = w') := by rw [hL3]; exact fun V => assigned_any [109, 97, 105, 110] p.ma V (by decide) (by have := hs.ma; omega)
  have C4 : Hid (∀ V, Calls Tryz.prog 33 #[.string ⟨#[115, 111, 117, 114, 99, 101, 115]⟩, .string (B p.so)] V fun e w' => e = .returned (.string (B L4)) ∧ V = w') := by rw [hL4]; exact fun V => assigned_any [115, 111, 117, 114, 99, 101, 115] p.so V (by decide) (by have := hs.so; omega)
  have C5 : Hid (∀ V, Calls Tryz.prog 33 #[.string ⟨#[115, 116, 121, 108, 101]⟩, .string (B p.st)] V fun e w' => e = .returned (.string (B L5)) ∧ V = w') := by rw [hL5]; exact fun V => assigned_any [115, 116, 121, 108, 101] p.st V (by decide) (by have := hs.st; omega)
  clear hL1 hL2 hL3 hL4 hL5
  have l0 := hbx.c0
  have l1 := hbx.c1
  have l2 := hbx.c2
  have l3 := hbx.c3
  have l4 := hbx.c4
  go_wp2
  go_quiet ((go_at_call 33; first | (with_reducible exact quiet_left (C1.out _)) | (with_reducible exact quiet_left (C2.out _)) | (with_reducible exact quiet_left (C3.out _)) | (with_reducible exact quiet_left (C4.out _)) | (with_reducible exact quiet_left (C5.out _))))
  clear l0 l1 l2 l3 l4 C1 C2 C3 C4 C5
  go_wp2
  have hbx1 := hbx.drewN nq
  have hbw1 := below_drewN hbw nq
  have HS0 : Hid (B L1 ++ B L2 ++ B L3 ++ B L4 ++ B L5 = B (hd5 p)) := by rw [HD.out, B_cat, B_cat, B_cat, B_cat]; rfl
  rw [HS0.out]
  clear hdl2 HD HS0
  generalize hh5 : hd5 p = H5 at hdl ⊢
  have HH5 := Lib.hid hh5
  clear hh5
  have HVS := Lib.hid hs.vs
  go_loopw [5, 6] (fun s i wr => ∃ (j : Nat) (l : List UInt8), j ≤ c.na ∧ i = .int .i64 j ∧ s = .string (B l) ∧ l.length ≤ 5000100 + 2000100 * j ∧ Hid (l = H5 ++ (p.vs.take j).flatMap varL) ∧ Hid (Bx8 wr w.heap.size p c) ∧ Hid (Below w.heap.size w wr)) (fun _ i _ => c.na - (intOf i).toNat)
  case atStart => exact ⟨0, H5, Nat.zero_le _, rfl, rfl, by omega, by simp [Hid], hbx1, hbw1⟩
  case round =>
    clear hbx hbw hbx1 hbw1
    obtain ⟨j, l, hj, rfl, rfl, hll, hl, hbx, hbw⟩ := hrel
    have l5 := hbx.out.c5
    by_cases hlt : j < c.na
    · obtain ⟨v, hv⟩ := get_of (l := p.vs) (k := j) (by rw [HLV.out]; exact hlt)
      obtain ⟨b2, o, hAe, hbm, hcell⟩ := (hp.vs.below hbw.out).elem prF 2 prF_len (by omega) hv
      have HT := Lib.hid (flat_take (f := varL) hv)
      have hvl := varL_len (HVS.out v (List.mem_of_getElem? hv))
      have hv1 := (HVS.out v (List.mem_of_getElem? hv)).1
      have hv2 := (HVS.out v (List.mem_of_getElem? hv)).2
      have d0 : wr.cell? ⟨b2, o + j * 2, none⟩ = some (.string (B v.1)) := hcell 0 _ rfl
      have d1 : wr.cell? ⟨b2, o + j * 2 + 1, none⟩ = some (.string (B v.2)) := hcell 1 _ rfl
      rw [hAe] at l5
      have hb1 := B_size l
      have hb2 := B_size v.1
      have CA : Hid (∀ V, Calls Tryz.prog 33 #[.string (⟨#[118, 97, 114, 32]⟩ ++ B v.1), .string (B v.2)] V fun e w' => e = .returned (.string (B (varL v))) ∧ V = w') := by
        intro V
        have := assigned_any ([118, 97, 114, 32] ++ v.1) v.2 V (by simp; omega) (by omega)
        rw [← B_cat] at this
        exact this
      have HL2 : Hid (l ++ varL v = H5 ++ (p.vs.take (j + 1)).flatMap varL) := by rw [hl.out, HT.out, List.append_assoc]; rfl
      generalize varL v = L at CA HL2 hvl
      have hb3 := B_size L
      clear hcell hAe hl HT
      have i1 : (0 : Int) ≤ (j : Int) := by omega
      have i2 : (j : Int) < (c.na : Int) := by omega
      go_wp2
      go_quiet ((go_at_call 33; with_reducible exact quiet_left (CA.out _)))
      clear d0 d1 CA l5
      go_wp2
      rw [B_cat]
      go_roundw
      case rel => exact ⟨j + 1, l ++ L, by omega, by go_num, rfl, by rw [List.length_append]; omega, HL2, hbx, below_drewN hbw.out _⟩
      case measure => simp [intOf]; omega
    · have hV : Hid (l = H5 ++ p.vs.flatMap varL) := by rw [hl.out, List.take_of_length_le (by rw [HLV.out]; omega)]; rfl
      obtain ⟨H6, hH6⟩ : ∃ H6, H6 = H5 ++ p.vs.flatMap varL := ⟨_, rfl⟩
      obtain rfl : l = H6 := by rw [hV.out, hH6]
      have HH6 : Hid (l = hd5 p ++ p.vs.flatMap varL) := by rw [HH5.out]; exact hH6
      clear hV hl hH6
      have hl6 : l.length ≤ 70000000 := by omega
      have l6 := hbx.out.c6
      go_wp2
      clear l5 l6 hlt
      obtain ⟨wo, rfl⟩ : ∃ wo : World, wo = wr := ⟨_, rfl⟩
      have HFS := Lib.hid hs.fs
      go_loopw [5, 7] (fun s i wr => ∃ (j : Nat) (q : List UInt8), j ≤ c.nf ∧ i = .int .i64 j ∧ s = .string (B q) ∧ q.length ≤ 70000000 + 1000100 * j ∧ Hid (q = l ++ (p.fs.take j).flatMap flL) ∧ Hid (Bx8 wr w.heap.size p c) ∧ Hid (Below w.heap.size w wr)) (fun _ i _ => c.nf - (intOf i).toNat)
      case atStart => exact ⟨0, l, Nat.zero_le _, rfl, rfl, by omega, by simp [Hid], hbx, hbw⟩
      case round =>
        clear hbx hbw hll hj
        obtain ⟨j, q, hj, rfl, rfl, hll, hl, hbx, hbw⟩ := hrel
        have l6 := hbx.out.c6
        by_cases hlt : j < c.nf
        · obtain ⟨v, hv⟩ := get_of (l := p.fs) (k := j) (by rw [HLF.out]; exact hlt)
          obtain ⟨ad, hAe, d0⟩ := (hp.fs.below hbw.out).str hlt
          have hgd : p.fs.getD j [] = v := by rw [List.getD_eq_getElem?_getD, hv]; rfl
          rw [hgd] at d0
          have HT := Lib.hid (flat_take (f := flL) hv)
          have hv1 := HFS.out v (List.mem_of_getElem? hv)
          rw [hAe] at l6
          have hb1 := B_size q
          have hb2 := B_size v
          have HL2 : Hid (q ++ flL v = l ++ (p.fs.take (j + 1)).flatMap flL) := by rw [hl.out, HT.out, List.append_assoc]; rfl
          have hfl := flL_len hv1
          have HS2 : Hid (B q ++ ⟨#[102, 108, 97, 103, 32]⟩ ++ B v ++ ⟨#[10]⟩ = B (q ++ flL v)) := by
            show B q ++ B [102, 108, 97, 103, 32] ++ B v ++ B [10] = _
            rw [B_cat, B_cat, B_cat]; simp [flL]
          clear hAe hl HT hgd
          go_wp2
          rw [HS2.out]
          go_roundw
          case rel => exact ⟨j + 1, q ++ flL v, by omega, by go_num, rfl, by rw [List.length_append]; omega, HL2, hbx, hbw⟩
          case measure => simp [intOf]; omega
        · have HV2 : Hid (q = l ++ p.fs.flatMap flL) := by rw [hl.out, List.take_of_length_le (by rw [HLF.out]; omega)]; rfl
          obtain ⟨H7, hH7⟩ : ∃ H7, H7 = l ++ p.fs.flatMap flL := ⟨_, rfl⟩
          obtain rfl : q = H7 := by rw [HV2.out, hH7]
          have HH7 : Hid (q = hd5 p ++ p.vs.flatMap varL ++ p.fs.flatMap flL) := by rw [← HH6.out]; exact hH7
          clear HV2 hl hH7
          have hl7 : q.length ≤ 103000000 := by omega
          have l7 := hbx.out.c7
          go_wp2
          clear l6 l7 hlt
          obtain ⟨wo3, rfl⟩ : ∃ wo3 : World, wo3 = wr := ⟨_, rfl⟩
          go_loopw [5, 8] (fun s i wr => ∃ (j : Nat) (x : List UInt8), j ≤ c.nt ∧ i = .int .i64 j ∧ s = .string (B x) ∧ x.length ≤ 103000000 + 3000000 * j ∧ Hid (x = q ++ (p.ts.take j).flatMap tgL) ∧ Hid (Bx8 wr w.heap.size p c) ∧ Hid (Below w.heap.size w wr)) (fun _ i _ => c.nt - (intOf i).toNat)
          case atStart => exact ⟨0, q, Nat.zero_le _, rfl, rfl, by omega, by simp [Hid], hbx, hbw⟩
          case round =>
            clear hbx hbw hll hj
            obtain ⟨j, x, hj, rfl, rfl, hll, hl, hbx, hbw⟩ := hrel
            have l7 := hbx.out.c7
            by_cases hlt : j < c.nt
            · obtain ⟨t, ht⟩ := get_of (l := p.ts) (k := j) (by rw [HLT.out]; exact hlt)
              obtain ⟨b2, o, hAe, hbm, hcell⟩ := (hp.ts.below hbw.out).elem tgF 4 tgF_len (by omega) ht
              have HT := Lib.hid (flat_take (f := tgL) ht)
              obtain ⟨hv1, hv2⟩ := hs.ts t (List.mem_of_getElem? ht)
              have hk0 := HTM.out t (List.mem_of_getElem? ht)
              have htl := tgL_len hk0 hv1 hv2
              have HL2 : Hid (x ++ tgL t = q ++ (p.ts.take (j + 1)).flatMap tgL) := by rw [hl.out, HT.out, List.append_assoc]; rfl
              have hxl : (x ++ tgL t).length ≤ 103000000 + 3000000 * (j + 1) := by rw [List.length_append]; omega
              have d0 : wr.cell? ⟨b2, o + j * 4, none⟩ = some (.string (B t.nm)) := hcell 0 _ rfl
              have d1 : wr.cell? ⟨b2, o + j * 4 + 1, none⟩ = some (.string (B t.kd)) := hcell 1 _ rfl
              have d2 : wr.cell? ⟨b2, o + j * 4 + 2, none⟩ = some (.int .i64 t.pg) := hcell 2 _ rfl
              have d3 : wr.cell? ⟨b2, o + j * 4 + 3, none⟩ = some (.int .i64 t.wd) := hcell 3 _ rfl
              rw [hAe] at l7
              have hb1 := B_size x
              have hb2 := B_size t.nm
              have hb3 := B_size t.kd
              clear hcell hAe hl HT ht
              have hbx' := Lib.hid (hbx.out.alloc (.cells #[.string (B t.nm), .string (B t.kd), .int .i64 t.pg, .int .i64 t.wd] 38))
              have hbw' := Lib.hid (hbw.out.alloc hbw.out.size (.cells #[.string (B t.nm), .string (B t.kd), .int .i64 t.pg, .int .i64 t.wd] 38))
              by_cases hk : t.kd = kPages
              · obtain ⟨a, b, ea, eb, ha, hb, et⟩ := pages_num hk0 hk
                obtain ⟨nm, kd, pg, wd⟩ := t
                simp only at *
                subst hk ea eb
                have CN := Lib.hid (fun n V h => rnum_any n V h)
                have hna := numS_len a
                have hnb := numS_len b
                have hb4 := B_size (numS a)
                have hb5 := B_size (numS b)
                have HS3 : Hid (B x ++ ⟨#[116, 97, 114, 103, 101, 116, 32]⟩ ++ B nm ++ ⟨#[32]⟩ ++ B kPages ++ ⟨#[32]⟩ ++ B (numS a) ++ ⟨#[32]⟩ ++ B (numS b) ++ ⟨#[10]⟩ = B (x ++ tgL ⟨nm, kPages, a, b⟩)) := by
                  show B x ++ B [116, 97, 114, 103, 101, 116, 32] ++ B nm ++ B [32] ++ B kPages ++ B [32] ++ B (numS a) ++ B [32] ++ B (numS b) ++ B [10] = _
                  rw [et, B_cat, B_cat, B_cat, B_cat, B_cat, B_cat, B_cat, B_cat, B_cat]
                  simp only [List.append_assoc]
                clear et hk0
                go_wp2
                go_quiet ((go_at_call 34; first | (with_reducible exact quiet_left (CN.out a _ (by omega))) | (with_reducible exact quiet_left (CN.out b _ (by omega)))))
                go_wp2
                rw [HS3.out]
                go_roundw
                case rel => exact ⟨j + 1, _, by omega, by go_num, rfl, hxl, HL2, hbx', below_drewN hbw'.out _⟩
                case measure => simp [intOf]; omega
              · have e1 : (t.kd == [112, 97, 103, 101, 115]) = false := by simpa [kPages] using hk
                have et := other_tgL hk
                have HS3 : Hid (B x ++ ⟨#[116, 97, 114, 103, 101, 116, 32]⟩ ++ B t.nm ++ ⟨#[32]⟩ ++ B t.kd ++ ⟨#[10]⟩ = B (x ++ tgL t)) := by
                  show B x ++ B [116, 97, 114, 103, 101, 116, 32] ++ B t.nm ++ B [32] ++ B t.kd ++ B [10] = _
                  rw [et, B_cat, B_cat, B_cat, B_cat, B_cat]
                  simp only [List.append_assoc]
                clear et hk hk0
                go_wp2
                rw [HS3.out]
                go_roundw
                case rel => exact ⟨j + 1, _, by omega, by go_num, rfl, hxl, HL2, hbx', hbw'⟩
                case measure => simp [intOf]; omega
            · have HV3 : Hid (x = textP p) := by rw [hl.out, List.take_of_length_le (by rw [HLT.out]; omega), textP_eq, HH7.out]; rfl
              clear hl
              go_wp2
              go_ret2
              exact tx_ok H0 HV3 hbw.out
end Go.Proofs.YtmkenekngaihhaaGreatDoor
