/-
  Layer 49 (project): the text of a project: the program's.
-/
import Derived.Test.YtmkenekngaihhaaGreatDoorPjH
namespace Go.Proofs.YtmkenekngaihhaaGreatDoor
open Go.RowKit
set_option linter.unusedVariables false
set_option linter.unusedSimpArgs false
attribute [local go_sem] B_data B_size

theorem BuilderAtF_below {T e : TypeId} {B b : Nat} {p : Value} {bs : List Value} {w w' : World} (h : Lib.BuilderAtF T e B b p bs w) (hb : Below w.heap.size w w') : Lib.BuilderAtF T e B b p bs w' := by
  obtain ⟨hB, v, hbk, hown, hne⟩ := h
  refine ⟨hB, v, (hb.block b (Array.getElem?_eq_some_iff.1 hbk).1).trans hbk, ?_, hne⟩
  exact hown.kept (grown_of_below hb none) (by cases hv : v.ownBlock <;> simp)
theorem Bd.below {w w' : World} {b : Nat} {l : List UInt8} (h : Bd w b l) (hb : Below w.heap.size w w') : Bd w' b l := by
  rcases h with h | h
  · exact .inl (BuilderAtF_below h hb)
  · exact .inr (BuilderAtF_below h hb)
/-- a block that is no row of bytes is kept by a builder -/
theorem kept_cell {b : Nat} {w w' : World} (h : Bkeep b w w') {k : Nat} {C : Array Value} {t : TypeId} (hk : w.heap[k]? = some (.cells C t (0, 0))) (hne : k ≠ b) (ht : t ≠ 5) : w'.heap[k]? = some (.cells C t (0, 0)) :=
  h.2 k _ hk (fun e => hne (Option.some.inj e)) (fun c fz e => by injection e with _ e2 _; exact ht e2)
/-- the builder at bb holds l; the project's box stands -/
structure BI (w : World) (p : Pj) (c : PC) (bb : Nat) (l : List UInt8) (wr : World) : Prop where
  bx : Bx8 wr w.heap.size p c
  bw : Below w.heap.size w wr
  bd : Bd wr bb l
  lt : w.heap.size < bb
theorem BI.write {w : World} {p : Pj} {c : PC} {bb : Nat} {l l' : List UInt8} {wr w' : World} (h : BI w p c bb l wr) (hd : Bd w' bb l') (hk : Bkeep bb wr w') : BI w p c bb l' w' :=
  ⟨h.bx.below hk.1 h.lt, h.bw.trans (hk.1.mono (Nat.le_of_lt h.lt)), hd, h.lt⟩
theorem BI.step {w : World} {p : Pj} {c : PC} {bb : Nat} {l : List UInt8} {wr w' : World} (h : BI w p c bb l wr) (hb : Below wr.heap.size wr w') : BI w p c bb l w' :=
  ⟨h.bx.below hb h.bx.lt, h.bw.trans (hb.mono h.bw.size), h.bd.below hb, h.lt⟩
theorem BI.drew {w : World} {p : Pj} {c : PC} {bb : Nat} {l : List UInt8} {wr : World} (h : BI w p c bb l wr) : BI w p c bb l wr.drew := ⟨h.bx, h.bw.drew, h.bd.drewN 1, h.lt⟩
/-- besides, a target's box at q -/
structure BT (w : World) (p : Pj) (c : PC) (bb q : Nat) (t : Tg) (l : List UInt8) (wr : World) : Prop where
  i : BI w p c bb l wr
  bq : wr.heap[q]? = some (.cells #[.string (B t.nm), .string (B t.kd), .int .i64 t.pg, .int .i64 t.wd] 38 (0, 0))
  ne : q ≠ bb
theorem BT.write {w : World} {p : Pj} {c : PC} {bb q : Nat} {t : Tg} {l l' : List UInt8} {wr w' : World} (h : BT w p c bb q t l wr) (hd : Bd w' bb l') (hk : Bkeep bb wr w') : BT w p c bb q t l' w' :=
  ⟨h.i.write hd hk, kept_cell hk h.bq h.ne (by decide), h.ne⟩
theorem BT.step {w : World} {p : Pj} {c : PC} {bb q : Nat} {t : Tg} {l : List UInt8} {wr w' : World} (h : BT w p c bb q t l wr) (hb : Below wr.heap.size wr w') : BT w p c bb q t l w' :=
  ⟨h.i.step hb, (hb.block q (Array.getElem?_eq_some_iff.1 h.bq).1).trans h.bq, h.ne⟩
theorem BT.drew {w : World} {p : Pj} {c : PC} {bb q : Nat} {t : Tg} {l : List UInt8} {wr : World} (h : BT w p c bb q t l wr) : BT w p c bb q t l wr.drew := ⟨h.i.drew, h.bq, h.ne⟩
theorem BT.c0 {w : World} {p : Pj} {c : PC} {bb q : Nat} {t : Tg} {l : List UInt8} {wr : World} (h : BT w p c bb q t l wr) : wr.cell? ⟨q, 0, none⟩ = some (.string (B t.nm)) := by have := h.bq; simp [World.cell?, this]
theorem BT.c1 {w : World} {p : Pj} {c : PC} {bb q : Nat} {t : Tg} {l : List UInt8} {wr : World} (h : BT w p c bb q t l wr) : wr.cell? ⟨q, 1, none⟩ = some (.string (B t.kd)) := by have := h.bq; simp [World.cell?, this]
theorem BT.c2 {w : World} {p : Pj} {c : PC} {bb q : Nat} {t : Tg} {l : List UInt8} {wr : World} (h : BT w p c bb q t l wr) : wr.cell? ⟨q, 2, none⟩ = some (.int .i64 t.pg) := by have := h.bq; simp [World.cell?, this]
theorem BT.c3 {w : World} {p : Pj} {c : PC} {bb q : Nat} {t : Tg} {l : List UInt8} {wr : World} (h : BT w p c bb q t l wr) : wr.cell? ⟨q, 3, none⟩ = some (.int .i64 t.wd) := by have := h.bq; simp [World.cell?, this]
set_option maxHeartbeats 16000000 in
set_option maxRecDepth 100000 in
theorem text_any (p : Pj) (c : PC) (w : World) (hs : PjSm p) (hp : PjAt w w.heap.size p c) (hG : GlobL w) :
    Calls Tryz.prog 11 #[.agg #[.string (B p.ti), .string (B p.la), .string (B p.ma), .string (B p.so), .string (B p.st), .slice c.A c.na c.ca, .slice c.F c.nf c.cf, .slice c.T c.nt c.ct]] w (TxPost p w) := by
  have hbx := Bx8.new w p c
  have hbw := below_alloc w (.cells #[.string (B p.ti), .string (B p.la), .string (B p.ma), .string (B p.so), .string (B p.st), .slice c.A c.na c.ca, .slice c.F c.nf c.cf, .slice c.T c.nt c.ct] 26)
  have hG1 : Fil.Glob (w.alloc (.cells #[.string (B p.ti), .string (B p.la), .string (B p.ma), .string (B p.so), .string (B p.st), .slice c.A c.na c.ca, .slice c.F c.nf c.cf, .slice c.T c.nt c.ct] 26)) := (hG.below hbw).1
  have HH := Lib.hid (check_any p c _ hs (hp.step hbw) hG1)
  have HLV := Lib.hid (hp.vs.count prF 2 prF_len (by omega))
  have HLF := Lib.hid hp.fs.strs_length
  have HLT := Lib.hid (hp.ts.count tgF 4 tgF_len (by omega))
  clear hG1
  go_enter Tryz.func11, Tryz.ntmps11
  go_wp2_with fail
  refine HH.out.mono ?_
  rintro e w1 ⟨rfl, hbn⟩
  have hbx := hbx.below hbn hbx.lt
  have hbw := hbw.trans (hbn.mono hbw.size)
  clear hbn HH
  by_cases h0 : ¬ checkE pkG p = 0
  · have HX := Lib.hid h0
    have z1 : (checkE pkG p != 0) = true := by simpa using h0
    clear h0
    go_wp2
    go_ret2
    exact tx_bad HX hbw
  simp only [Decidable.not_not] at h0
  obtain ⟨_, _, _, ht4, nv, nf, nt, _⟩ := check_parts h0
  have HTM := Lib.hid (fun t ht => (targetsE_mem p.ts [] ht4 t ht).2)
  rw [HLV.out] at nv
  rw [HLF.out] at nf
  rw [HLT.out] at nt
  have H0 := Lib.hid h0
  rw [h0]
  clear h0 ht4
  have hdl := hd5_len hs
  obtain ⟨L1, hL1⟩ : ∃ l, l = lnL [116, 105, 116, 108, 101] p.ti := ⟨_, rfl⟩
  obtain ⟨L2, hL2⟩ : ∃ l, l = lnL [108, 97, 110, 103] p.la := ⟨_, rfl⟩
  obtain ⟨L3, hL3⟩ : ∃ l, l = lnL [109, 97, 105, 110] p.ma := ⟨_, rfl⟩
  obtain ⟨L4, hL4⟩ : ∃ l, l = lnL [115, 111, 117, 114, 99, 101, 115] p.so := ⟨_, rfl⟩
  obtain ⟨L5, hL5⟩ : ∃ l, l = lnL [115, 116, 121, 108, 101] p.st := ⟨_, rfl⟩
  have HD : Hid (hd5 p = L1 ++ L2 ++ L3 ++ L4 ++ L5) := by rw [hL1, hL2, hL3, hL4, hL5]; rfl
  have hdl2 := hdl
  rw [HD.out] at hdl2
  simp only [List.length_append] at hdl2
  have C1 : Hid (∀ V, Calls Tryz.prog 30 #[.string ⟨#[116, 105, 116, 108, 101]⟩, .string (B p.ti)] V fun e w' => e = .returned (.string (B L1)) ∧ V = w') := by rw [hL1]; exact fun V => setting_any [116, 105, 116, 108, 101] p.ti V (by decide) (by have := hs.ti; omega)
  have C2 : Hid (∀ V, Calls Tryz.prog 30 #[.string ⟨#[108, 97, 110, 103]⟩, .string (B p.la)] V fun e w' => e = .returned (.string (B L2)) ∧ V = w') := by rw [hL2]; exact fun V => setting_any [108, 97, 110, 103] p.la V (by decide) (by have := hs.la; omega)
  have C3 : Hid (∀ V, Calls Tryz.prog 30 #[.string ⟨#[109, 97, 105, 110]⟩, .string (B p.ma)] V fun e w' => e = .returned (.string (B L3)) ∧ V = w') := by rw [hL3]; exact fun V => setting_any [109, 97, 105, 110] p.ma V (by decide) (by have := hs.ma; omega)
  have C4 : Hid (∀ V, Calls Tryz.prog 30 #[.string ⟨#[115, 111, 117, 114, 99, 101, 115]⟩, .string (B p.so)] V fun e w' => e = .returned (.string (B L4)) ∧ V = w') := by rw [hL4]; exact fun V => setting_any [115, 111, 117, 114, 99, 101, 115] p.so V (by decide) (by have := hs.so; omega)
  have C5 : Hid (∀ V, Calls Tryz.prog 30 #[.string ⟨#[115, 116, 121, 108, 101]⟩, .string (B p.st)] V fun e w' => e = .returned (.string (B L5)) ∧ V = w') := by rw [hL5]; exact fun V => setting_any [115, 116, 121, 108, 101] p.st V (by decide) (by have := hs.st; omega)
  clear hL1 hL2 hL3 hL4 hL5
  have hI : BI w p c w1.heap.size [] (w1.alloc (.cells #[.pointer none, .slice none 0 0] 54)) := ⟨hbx.alloc _, hbw.alloc hbw.size _, Bd.new w1, hbx.lt⟩
  have l0 := hI.bx.c0
  clear hbx hbw
  go_wp2_with fail
  refine (C1.out _).mono ?_
  rintro e wa ⟨rfl, rfl⟩
  go_wp2_with fail
  refine (writeString_any _ _ (B L1) _ hI.bd (by rw [B_size]; simp only [List.length_append, List.length_nil]; omega)).mono ?_
  rintro e v1 ⟨rfl, hd, hk⟩
  rw [B_data] at hd
  have hI := hI.write hd hk
  clear hd hk l0
  have l1 := hI.bx.c1
  go_wp2_with fail
  refine (C2.out _).mono ?_
  rintro e wa ⟨rfl, rfl⟩
  go_wp2_with fail
  refine (writeString_any _ _ (B L2) _ hI.bd (by rw [B_size]; simp only [List.length_append, List.length_nil]; omega)).mono ?_
  rintro e v2 ⟨rfl, hd, hk⟩
  rw [B_data] at hd
  have hI := hI.write hd hk
  clear hd hk l1
  have l2 := hI.bx.c2
  go_wp2_with fail
  refine (C3.out _).mono ?_
  rintro e wa ⟨rfl, rfl⟩
  go_wp2_with fail
  refine (writeString_any _ _ (B L3) _ hI.bd (by rw [B_size]; simp only [List.length_append, List.length_nil]; omega)).mono ?_
  rintro e v3 ⟨rfl, hd, hk⟩
  rw [B_data] at hd
  have hI := hI.write hd hk
  clear hd hk l2
  have l3 := hI.bx.c3
  go_wp2_with fail
  refine (C4.out _).mono ?_
  rintro e wa ⟨rfl, rfl⟩
  go_wp2_with fail
  refine (writeString_any _ _ (B L4) _ hI.bd (by rw [B_size]; simp only [List.length_append, List.length_nil]; omega)).mono ?_
  rintro e v4 ⟨rfl, hd, hk⟩
  rw [B_data] at hd
  have hI := hI.write hd hk
  clear hd hk l3
  have l4 := hI.bx.c4
  go_wp2_with fail
  refine (C5.out _).mono ?_
  rintro e wa ⟨rfl, rfl⟩
  go_wp2_with fail
  refine (writeString_any _ _ (B L5) _ hI.bd (by rw [B_size]; simp only [List.length_append, List.length_nil]; omega)).mono ?_
  rintro e v5 ⟨rfl, hd, hk⟩
  rw [B_data] at hd
  have hI := hI.write hd hk
  clear hd hk l4
  clear C1 C2 C3 C4 C5
  have hI : BI w p c w1.heap.size (hd5 p) v5 := by rw [HD.out]; simpa using hI
  clear hdl2 HD
  generalize hbb : w1.heap.size = bb at *
  generalize hh5 : hd5 p = H5 at *
  have HH5 := Lib.hid hh5
  clear hh5 hbb
  have HVS := Lib.hid hs.vs
  have l5 := hI.bx.c5
  go_wp2
  clear l5
  have hpv := hp.vs
  generalize c.A = A0 at hpv ⊢
  go_loopw [40] (fun i wr => ∃ (j : Nat) (l : List UInt8), j ≤ c.na ∧ i = .int .i64 j ∧ l.length ≤ 5000100 + 2000100 * j ∧ Hid (l = H5 ++ (p.vs.take j).flatMap varL) ∧ Hid (BI w p c bb l wr)) (fun i _ => c.na - (intOf i).toNat)
  case atStart => exact ⟨0, H5, Nat.zero_le _, rfl, by omega, by simp [Hid], hI⟩
  case round =>
    clear hI
    obtain ⟨j, l, hj, rfl, hll, hl, hI⟩ := hrel
    by_cases hlt : j < c.na
    · obtain ⟨v, hv⟩ := get_of (l := p.vs) (k := j) (by rw [HLV.out]; exact hlt)
      obtain ⟨b2, o, rfl, hbm, hcell⟩ := (hpv.below hI.out.bw).elem prF 2 prF_len (by omega) hv
      have HT := Lib.hid (flat_take (f := varL) hv)
      have hvl := varL_len (HVS.out v (List.mem_of_getElem? hv))
      have hv1 := (HVS.out v (List.mem_of_getElem? hv)).1
      have hv2 := (HVS.out v (List.mem_of_getElem? hv)).2
      have d0 : wr.cell? ⟨b2, o + j * 2, none⟩ = some (.string (B v.1)) := hcell 0 _ rfl
      have d1 : wr.cell? ⟨b2, o + j * 2 + 1, none⟩ = some (.string (B v.2)) := hcell 1 _ rfl
      have hb1 := B_size l
      have hb2 := B_size v.1
      have CA : Hid (∀ V, Calls Tryz.prog 30 #[.string (⟨#[118, 97, 114, 32]⟩ ++ B v.1), .string (B v.2)] V fun e w' => e = .returned (.string (B (varL v))) ∧ V = w') := by
        intro V
        have := setting_any ([118, 97, 114, 32] ++ v.1) v.2 V (by simp; omega) (by omega)
        rw [← B_cat] at this
        exact this
      have HL2 : Hid (l ++ varL v = H5 ++ (p.vs.take (j + 1)).flatMap varL) := by rw [hl.out, HT.out, List.append_assoc]; rfl
      generalize varL v = L at CA HL2 hvl
      have hb3 := B_size L
      have hI2 := Lib.hid (hI.out.step (below_alloc wr (.cells #[.string (B v.1), .string (B v.2)] 40)))
      clear hcell hl HT
      go_wp2_with fail
      refine (CA.out _).mono ?_
      rintro e wa ⟨rfl, rfl⟩
      go_wp2_with fail
      refine (writeString_any bb l (B L) _ hI2.out.bd (by rw [B_size]; omega)).mono ?_
      rintro e wb ⟨rfl, hd, hk⟩
      rw [B_data] at hd
      have hI3 := Lib.hid (hI2.out.write hd hk)
      clear hd hk CA d0 d1
      go_wp2
      go_roundw
      case rel => exact ⟨j + 1, l ++ L, by omega, by go_num, by rw [List.length_append]; omega, HL2, hI3⟩
      case measure => simp [intOf]; omega
    · have hV : Hid (l = H5 ++ p.vs.flatMap varL) := by rw [hl.out, List.take_of_length_le (by rw [HLV.out]; omega)]; rfl
      obtain ⟨H6, hH6⟩ : ∃ H6, H6 = H5 ++ p.vs.flatMap varL := ⟨_, rfl⟩
      obtain rfl : l = H6 := by rw [hV.out, hH6]
      have HH6 : Hid (l = hd5 p ++ p.vs.flatMap varL) := by rw [HH5.out]; exact hH6
      clear hV hl hH6
      have hl6 : l.length ≤ 70000000 := by omega
      have l6 := hI.out.bx.c6
      go_wp2
      clear l6 hlt hpv
      have HFS := Lib.hid hs.fs
      obtain ⟨wo, rfl⟩ : ∃ wo : World, wo = wr := ⟨_, rfl⟩
      have hpf := hp.fs
      generalize c.F = F0 at hpf ⊢
      go_loopw [55] (fun i wr => ∃ (j : Nat) (q : List UInt8), j ≤ c.nf ∧ i = .int .i64 j ∧ q.length ≤ 70000000 + 1000100 * j ∧ Hid (q = l ++ (p.fs.take j).flatMap flL) ∧ Hid (BI w p c bb q wr)) (fun i _ => c.nf - (intOf i).toNat)
      case atStart => exact ⟨0, l, Nat.zero_le _, rfl, by omega, by simp [Hid], hI⟩
      case round =>
        clear hI hll hj
        obtain ⟨j, q, hj, rfl, hll, hl, hI⟩ := hrel
        by_cases hlt : j < c.nf
        · obtain ⟨v, hv⟩ := get_of (l := p.fs) (k := j) (by rw [HLF.out]; exact hlt)
          obtain ⟨ad, rfl, d0⟩ := (hpf.below hI.out.bw).str hlt
          have hgd : p.fs.getD j [] = v := by rw [List.getD_eq_getElem?_getD, hv]; rfl
          rw [hgd] at d0
          have HT := Lib.hid (flat_take (f := flL) hv)
          have hv1 := HFS.out v (List.mem_of_getElem? hv)
          have hb1 := B_size q
          have hb2 := B_size v
          have HL2 : Hid (q ++ flL v = l ++ (p.fs.take (j + 1)).flatMap flL) := by rw [hl.out, HT.out, List.append_assoc]; rfl
          have hfl := flL_len hv1
          have HS2 : Hid ((⟨#[102, 108, 97, 103, 32]⟩ : ByteArray) ++ B v ++ ⟨#[10]⟩ = B (flL v)) := by
            show B [102, 108, 97, 103, 32] ++ B v ++ B [10] = _
            rw [B_cat, B_cat]; rfl
          clear hl HT hgd
          go_wp2_with fail
          rw [HS2.out]
          refine (writeString_any bb q (B (flL v)) _ hI.out.bd (by rw [B_size]; omega)).mono ?_
          rintro e wb ⟨rfl, hd, hk⟩
          rw [B_data] at hd
          have hI3 := Lib.hid (hI.out.write hd hk)
          clear hd hk d0
          go_wp2
          go_roundw
          case rel => exact ⟨j + 1, q ++ flL v, by omega, by go_num, by rw [List.length_append]; omega, HL2, hI3⟩
          case measure => simp [intOf]; omega
        · have HV2 : Hid (q = l ++ p.fs.flatMap flL) := by rw [hl.out, List.take_of_length_le (by rw [HLF.out]; omega)]; rfl
          obtain ⟨H7, hH7⟩ : ∃ H7, H7 = l ++ p.fs.flatMap flL := ⟨_, rfl⟩
          obtain rfl : q = H7 := by rw [HV2.out, hH7]
          have HH7 : Hid (q = hd5 p ++ p.vs.flatMap varL ++ p.fs.flatMap flL) := by rw [← HH6.out]; exact hH7
          clear HV2 hl hH7
          have hl7 : q.length ≤ 103000000 := by omega
          have l7 := hI.out.bx.c7
          go_wp2
          clear l7 hlt hpf
          obtain ⟨wo3, rfl⟩ : ∃ wo3 : World, wo3 = wr := ⟨_, rfl⟩
          have hpt := hp.ts
          generalize c.T = T0 at hpt ⊢
          go_loopw [67] (fun i wr => ∃ (j : Nat) (x : List UInt8), j ≤ c.nt ∧ i = .int .i64 j ∧ x.length ≤ 103000000 + 3000000 * j ∧ Hid (x = q ++ (p.ts.take j).flatMap tgL) ∧ Hid (BI w p c bb x wr)) (fun i _ => c.nt - (intOf i).toNat)
          case atStart => exact ⟨0, q, Nat.zero_le _, rfl, by omega, by simp [Hid], hI⟩
          case round =>
            clear hI hll hj
            obtain ⟨j, x, hj, rfl, hll, hl, hI⟩ := hrel
            by_cases hlt : j < c.nt
            · obtain ⟨t, ht⟩ := get_of (l := p.ts) (k := j) (by rw [HLT.out]; exact hlt)
              obtain ⟨b2, o, rfl, hbm, hcell⟩ := (hpt.below hI.out.bw).elem tgF 4 tgF_len (by omega) ht
              have HT := Lib.hid (flat_take (f := tgL) ht)
              obtain ⟨hv1, hv2⟩ := hs.ts t (List.mem_of_getElem? ht)
              have hk0 := HTM.out t (List.mem_of_getElem? ht)
              have htl := tgL_len hk0 hv1 hv2
              have HL2 : Hid (x ++ tgL t = q ++ (p.ts.take (j + 1)).flatMap tgL) := by rw [hl.out, HT.out, List.append_assoc]; rfl
              have hxl : (x ++ tgL t).length ≤ 103000000 + 3000000 * (j + 1) := by rw [List.length_append]; omega
              have d0 : wr.cell? ⟨b2, o + j * 4, none⟩ = some (.string (B t.nm)) := hcell 0 _ rfl
              have d1 : wr.cell? ⟨b2, o + j * 4 + 1, none⟩ = some (.string (B t.kd)) := hcell 1 _ rfl
              have d2 : wr.cell? ⟨b2, o + j * 4 + 2, none⟩ = some (.int .i64 t.pg) := hcell 2 _ rfl
              have d3 : wr.cell? ⟨b2, o + j * 4 + 3, none⟩ = some (.int .i64 t.wd) := hcell 3 _ rfl
              have hb1 := B_size x
              have hb2 := B_size t.nm
              have hb3 := B_size t.kd
              have hlb := hI.out.bd.lt
              have hD : BT w p c bb wr.heap.size t x (wr.alloc (.cells #[.string (B t.nm), .string (B t.kd), .int .i64 t.pg, .int .i64 t.wd] 38)) := ⟨hI.out.step (below_alloc wr _), heap_alloc_new wr _, by omega⟩
              obtain ⟨m1, hm1⟩ : ∃ m, m = ([116, 97, 114, 103, 101, 116, 32] ++ t.nm ++ [32] ++ t.kd : List UInt8) := ⟨_, rfl⟩
              have hml : m1.length ≤ 2000100 := by rw [hm1]; simp only [List.length_append, List.length_cons, List.length_nil]; omega
              have HS1 : Hid ((⟨#[116, 97, 114, 103, 101, 116, 32]⟩ : ByteArray) ++ B t.nm ++ ⟨#[32]⟩ ++ B t.kd = B m1) := by
                show B [116, 97, 114, 103, 101, 116, 32] ++ B t.nm ++ B [32] ++ B t.kd = _
                rw [B_cat, B_cat, B_cat, hm1]
              have HM1 := Lib.hid hm1
              clear hcell hl HT ht hm1
              generalize hqq : wr.heap.size = qq at *
              go_wp2_with fail
              rw [HS1.out]
              refine (writeString_any bb x (B m1) _ hD.i.bd (by rw [B_size]; omega)).mono ?_
              rintro e wb ⟨rfl, hd, hk⟩
              rw [B_data] at hd
              have hD := hD.write hd hk
              have f1 := hD.c1
              clear hd hk d0 d1 d2 d3 hI hqq hlb
              by_cases hk : t.kd = kPages
              · obtain ⟨a, b, ea, eb, ha, hb, et⟩ := pages_num hk0 hk
                have e1 : (t.kd == [112, 97, 103, 101, 115]) = true := by rw [hk]; rfl
                have hna := numS_len a
                have hnb := numS_len b
                have hb4 := B_size (numS a)
                have hb5 := B_size (numS b)
                obtain ⟨m2, hm2⟩ : ∃ m, m = ([32] ++ numS a ++ [32] ++ numS b : List UInt8) := ⟨_, rfl⟩
                have hml2 : m2.length ≤ 200100 := by rw [hm2]; simp only [List.length_append, List.length_cons, List.length_nil]; omega
                have HS2 : Hid ((⟨#[32]⟩ : ByteArray) ++ B (numS a) ++ ⟨#[32]⟩ ++ B (numS b) = B m2) := by
                  show B [32] ++ B (numS a) ++ B [32] ++ B (numS b) = _
                  rw [B_cat, B_cat, B_cat, hm2]
                have HTG : Hid (x ++ m1 ++ m2 ++ [10] = x ++ tgL t) := by
                  show _ = _
                  rw [et, HM1.out, hm2, hk]
                  simp only [List.append_assoc]
                have HEA := Lib.hid ea
                have HEB := Lib.hid eb
                have f2 : wb.cell? ⟨qq, 2, none⟩ = some (.int .i64 (a : Int)) := by rw [← ea]; exact hD.c2
                have f3 : wb.cell? ⟨qq, 3, none⟩ = some (.int .i64 (b : Int)) := by rw [← eb]; exact hD.c3
                have hgl := Lib.hid (fun V (h : Below w.heap.size w V) => hG.below h)
                have HSZ : Hid (∀ l : List UInt8, l.length ≤ 130000000 → l.length + ((⟨#[32]⟩ : ByteArray) ++ B (numS a) ++ ⟨#[32]⟩ ++ B (numS b)).size ≤ 140737488355328) := by
                  intro l hl
                  rw [HS2.out, B_size]; omega
                have hxm : (x ++ m1).length ≤ 130000000 := by rw [List.length_append]; omega
                have k1 : ¬ (9223372036854775807 : Nat) < 1 + (numS a).length := by omega
                have k2 : ¬ (9223372036854775807 : Nat) < 1 + (numS a).length + 1 := by omega
                have k3 : ¬ (9223372036854775807 : Nat) < 1 + (numS a).length + 1 + (numS b).length := by omega
                clear et hk hk0 hm2 ea eb
                go_wp2
                have hD := hD.drew
                go_region_held3 (fun w' => w'.cell? ⟨qq, 2, none⟩ = some (.int .i64 (a : Int)) ∧ w'.cell? ⟨qq, 3, none⟩ = some (.int .i64 (b : Int)))
                  (first | exact HSW | exact ⟨HEA.out ▸ hD.c2, HEB.out ▸ hD.c3⟩)
                  (first
                    | (go_at_call 31; refine (itoaS_any _ _ (by omega) (hgl.out _ hD.i.bw)).mono ?_; rintro e w' ⟨rfl, hb⟩; have hD' := hD.step hb; clear hD hb; have hD := hD'; clear hD')
                    | (go_at_call 29; refine (writeString_any bb (x ++ m1) _ _ hD.i.bd (HSZ.out _ hxm)).mono ?_; rintro e w' ⟨rfl, hd', hkp⟩; have hD2 := hD.write hd' hkp; have HSW : w'.cell? ⟨qq, 2, none⟩ = some (.int .i64 (a : Int)) ∧ w'.cell? ⟨qq, 3, none⟩ = some (.int .i64 (b : Int)) := ⟨HEA.out ▸ hD2.c2, HEB.out ▸ hD2.c3⟩))
                obtain ⟨f4, f5⟩ := HSW
                have hD3 : BT w p c bb qq t (x ++ m1 ++ m2) w' := by have h := hD2; rw [HS2.out, B_data] at h; exact h
                have hxm2 : (x ++ m1 ++ m2).length ≤ 140000000 := by simp only [List.length_append] at hxm ⊢; omega
                clear hD hD2 hd' hkp f2 f3 f1
                go_wp2_with fail
                refine (writeString_any bb (x ++ m1 ++ m2) ⟨#[10]⟩ _ hD3.i.bd (by show _ + 1 ≤ _; omega)).mono ?_
                rintro e wc ⟨rfl, hd, hk⟩
                rw [show (⟨#[10]⟩ : ByteArray).toList = [10] from B_data [10], HTG.out] at hd
                have hI5 := Lib.hid (hD3.i.write hd hk)
                clear hd hk hD3 k1 k2 k3 f4 f5
                go_wp2
                go_roundw
                case rel => exact ⟨j + 1, x ++ tgL t, by omega, by go_num, hxl, HL2, hI5⟩
                case measure => simp [intOf]; omega
              · have e1 : (t.kd == [112, 97, 103, 101, 115]) = false := by simpa [kPages] using hk
                have HTG : Hid (x ++ m1 ++ [10] = x ++ tgL t) := by
                  show _ = _
                  rw [other_tgL hk, HM1.out]
                  simp only [List.append_assoc]
                have hxm : (x ++ m1).length ≤ 130000000 := by rw [List.length_append]; omega
                clear hk hk0
                go_wp2_with fail
                refine (writeString_any bb (x ++ m1) ⟨#[10]⟩ _ hD.i.bd (by show _ + 1 ≤ _; omega)).mono ?_
                rintro e wc ⟨rfl, hd, hk⟩
                rw [show (⟨#[10]⟩ : ByteArray).toList = [10] from B_data [10], HTG.out] at hd
                have hI5 := Lib.hid (hD.i.write hd hk)
                clear hd hk hD f1
                go_wp2
                go_roundw
                case rel => exact ⟨j + 1, x ++ tgL t, by omega, by go_num, hxl, HL2, hI5⟩
                case measure => simp [intOf]; omega
            · have HV3 : Hid (x = textP p) := by rw [hl.out, List.take_of_length_le (by rw [HLT.out]; omega), textP_eq, HH7.out]; rfl
              clear hl
              go_wp2_with fail
              refine (string_any bb x _ hI.out.bd).mono ?_
              rintro e wz ⟨rfl, hd, hk⟩
              have hI6 := hI.out.write hd hk
              go_wp2
              go_ret2
              exact tx_ok H0 HV3 hI6.bw
end Go.Proofs.YtmkenekngaihhaaGreatDoor
