/-
  Layer 33 (markup): the first error of a node, the program's.
-/
import Derived.Test.YtejjidbodfoiiaaGreatDoorMkH
namespace Go.Proofs.YtejjidbodfoiiaaGreatDoor
open Go.RowKit
set_option linter.unusedVariables false
set_option linter.unusedSimpArgs false
attribute [local go_sem] B_data B_size

/-- does a text stand ahead of the kid j? -/
def tx0 (ks : List Nd) (j : Nat) : Bool := match j with
  | 0 => false
  | i + 1 => match ks[i]? with
    | some k => decide (k.nm = [])
    | none => false
theorem tx0_succ {ks : List Nd} {i : Nat} {k : Nd} (h : ks[i]? = some k) : tx0 ks (i + 1) = decide (k.nm = []) := by simp [tx0, h]
theorem NdB.name {w : World} {M : Nat} {n : Nd} {c : NC} (h : NdB w M n c) : c.nm = n.nm := by
  obtain ⟨nm, tx, ats, ks⟩ := n
  exact h.parts.1

set_option maxHeartbeats 8000000 in
set_option maxRecDepth 100000 in
theorem check_any : ∀ (n : Nd) (c : NC) (w : World), NdB w w.heap.size n c → okN 1000000000 n →
    Calls Tryz.prog 67 #[.agg #[.string (B c.nm), .string (B c.tx), .slice c.A c.na c.ca, .slice c.K c.nk c.ck]] w (IPost (chk n) w) := by
  refine Nd.ind ?_
  intro nm tx ats ks IH c w h hok
  obtain ⟨e1, e2, hA, cs, hK, hkc, hks⟩ := h.parts
  obtain ⟨o1, o2, o3, o4, o5, o6⟩ := hok.parts
  obtain ⟨nm', tx', A, na, ca, K, nk, ck⟩ := c
  have e1 : nm' = nm := e1
  have e2 : tx' = tx := e2
  subst e1 e2
  have hA : Rd w w.heap.size 2 A na (ats.flatMap prF) := hA
  have hK : Rd w w.heap.size 4 K nk (cs.flatMap NC.cells) := hK
  have hna : ats.length = na := hA.count prF 2 prF_len (by omega)
  have hnk : cs.length = nk := hK.count NC.cells 4 NC.cells_len (by omega)
  rw [hna] at o3
  rw [hkc, hnk] at o4
  have HNA := Lib.hid hna
  have HNK := Lib.hid (hkc.trans hnk)
  have HE : Hid (chk (.mk nm' tx' ats ks) = if nm' = [] then (if ats ≠ [] ∨ ks ≠ [] then 5 else if tx' = [] ∨ validB tx' = false then 17 else 0) else if nameB nm' = false then 6 else if tx' ≠ [] ∨ (emptyB nm' = true ∧ ks ≠ []) then 5 else if chkAs [] ats ≠ 0 then chkAs [] ats else chkKs false ks) := by rw [chk]; rfl
  have HKS := Lib.hid hks
  have HIH := Lib.hid IH
  have HOK := Lib.hid o6
  have HO5 := Lib.hid o5
  have HB := Bx.new w ⟨nm', tx', A, na, ca, K, nk, ck⟩
  clear hna hkc hnk hks IH h hok o5 o6
  have hbW := below_alloc w (.cells #[.string (B nm'), .string (B tx'), .slice A na ca, .slice K nk ck] 65)
  by_cases h0 : nm' = []
  · subst h0
    by_cases h1 : 0 < na
    · have HX : Hid (chk (.mk [] tx' ats ks) = 5) := by
        rw [HE.out, if_pos rfl, if_pos (.inl (by intro e; rw [e] at HNA; have := HNA.out; simp at this; omega))]; rfl
      go_enter Tryz.func67, Tryz.ntmps67
      go_wp2
      go_ret
      exact ⟨ret_int HX.out.symm, hbW⟩
    obtain rfl : 0 = na := by omega
    by_cases h2 : 0 < nk
    · have HX : Hid (chk (.mk [] tx' ats ks) = 5) := by
        rw [HE.out, if_pos rfl, if_pos (.inr (by intro e; rw [e] at HNK; have := HNK.out; simp at this; omega))]; rfl
      go_enter Tryz.func67, Tryz.ntmps67
      go_wp2
      go_ret
      exact ⟨ret_int HX.out.symm, hbW⟩
    obtain rfl : 0 = nk := by omega
    have ha0 : ats = [] := List.eq_nil_of_length_eq_zero HNA.out
    have hk0 : ks = [] := List.eq_nil_of_length_eq_zero HNK.out
    have HE2 : Hid (chk (.mk [] tx' ats ks) = if tx' = [] ∨ validB tx' = false then 17 else 0) := by rw [HE.out, if_pos rfl, if_neg (by simp [ha0, hk0])]; rfl
    clear HE h1 h2 ha0 hk0
    by_cases ht : tx' = []
    · have HX : Hid (chk (.mk [] tx' ats ks) = 17) := by rw [HE2.out, if_pos (.inl ht)]; rfl
      clear HE2
      subst ht
      go_enter Tryz.func67, Tryz.ntmps67
      go_wp2
      go_ret
      exact ⟨ret_int HX.out.symm, hbW⟩
    have t1 : (tx' == []) = false := by simpa using ht
    have t2 : tx'.isEmpty = false := by simpa using ht
    cases hv : validB tx'
    · have HX : Hid (chk (.mk [] tx' ats ks) = 17) := by rw [HE2.out, if_pos (.inr hv)]; rfl
      clear HE2 ht
      go_enter Tryz.func67, Tryz.ntmps67
      go_wp2_with fail
      refine (valid_any (B tx') _ (by rw [B_size]; omega)).mono ?_
      rintro e w1 ⟨rfl, m, rfl⟩
      rw [B_data, hv]
      go_wp2
      go_ret
      exact ⟨ret_int HX.out.symm, below_drewN hbW m⟩
    · have HX : Hid (chk (.mk [] tx' ats ks) = 0) := by rw [HE2.out, if_neg (by simp [ht, hv])]; rfl
      clear HE2 ht
      go_enter Tryz.func67, Tryz.ntmps67
      go_wp2_with fail
      refine (valid_any (B tx') _ (by rw [B_size]; omega)).mono ?_
      rintro e w1 ⟨rfl, m, rfl⟩
      rw [B_data, hv]
      go_wp2
      go_ret
      exact ⟨ret_int HX.out.symm, below_drewN hbW m⟩
  have n1 : (nm' == []) = false := by simpa using h0
  have n2 : nm'.isEmpty = false := by simpa using h0
  have HE2 : Hid (chk (.mk nm' tx' ats ks) = if nameB nm' = false then 6 else if tx' ≠ [] ∨ (emptyB nm' = true ∧ ks ≠ []) then 5 else if chkAs [] ats ≠ 0 then chkAs [] ats else chkKs false ks) := by rw [HE.out, if_neg h0]; rfl
  clear HE h0
  cases hn : nameB nm'
  · have HX : Hid (chk (.mk nm' tx' ats ks) = 6) := by rw [HE2.out, if_pos hn]; rfl
    clear HE2
    go_enter Tryz.func67, Tryz.ntmps67
    go_wp2_with fail
    refine (isName_any (B nm') _ (by rw [B_size]; omega)).mono ?_
    rintro e w1 ⟨rfl, rfl⟩
    rw [B_data, hn]
    go_wp2
    go_ret
    exact ⟨ret_int HX.out.symm, hbW⟩
  by_cases ht : tx' = []
  · subst ht
    cases hem : emptyB nm'
    · have HE3 : Hid (chk (.mk nm' [] ats ks) = if chkAs [] ats ≠ 0 then chkAs [] ats else chkKs false ks) := by rw [HE2.out, if_neg (by simp [hn]), if_neg (by simp [hem])]; rfl
      clear HE2
      go_enter Tryz.func67, Tryz.ntmps67
      go_wp2_with fail
      refine (isName_any (B nm') _ (by rw [B_size]; omega)).mono ?_
      rintro e w1 ⟨rfl, rfl⟩
      rw [B_data, hn]
      go_wp2_with fail
      refine (isEmpty_any (B nm') _).mono ?_
      rintro e w1 ⟨rfl, rfl⟩
      rw [B_data, hem]
      have hA1 : Rd (w.alloc (.cells #[.string (B nm'), .string (B []), .slice A na ca, .slice K nk ck] 65)) (w.alloc (.cells #[.string (B nm'), .string (B []), .slice A na ca, .slice K nk ck] 65)).heap.size 2 A na (ats.flatMap prF) := (hA.below hbW).more hbW.size
      go_wp2_with fail
      refine (checkAttrs_any A na ca ats _ hA1 (by omega) HO5.out).mono ?_
      rintro e w1 ⟨rfl, hb1⟩
      have hB1 := hbW.trans (hb1.mono hbW.size)
      have HB1 : Bx w1 w.heap.size ⟨nm', [], A, na, ca, K, nk, ck⟩ := HB.below hb1 HB.lt
      clear hA1 hb1 HB hbW
      by_cases ha : chkAs [] ats = 0
      · have HE4 : Hid (chk (.mk nm' [] ats ks) = chkKs false ks) := by rw [HE3.out, if_neg (by simp [ha])]; rfl
        clear HE3
        rw [ha]
        have b0 := HB1.c0
        have b1 := HB1.c1
        have b3 := HB1.c3
        go_wp2
        clear b0 b1 b3
        go_loopw [56] (fun i wr => ∃ (j : Nat) (t : Bool), j ≤ nk ∧ i = .int .i64 j ∧ Below w.heap.size w wr ∧ Bx wr w.heap.size ⟨nm', [], A, na, ca, K, nk, ck⟩ ∧ Hid (t = tx0 ks j) ∧ Hid (chkKs false ks = chkKs t (ks.drop j))) (fun i _ => nk - (intOf i).toNat)
        case atStart => exact ⟨0, false, Nat.zero_le _, rfl, hB1, HB1, rfl, rfl⟩
        case round =>
          obtain ⟨j, t, hj, rfl, hbw, HBw, ht, hr⟩ := hrel
          have hbs := hbw.size
          have b0 := HBw.c0
          have b3 := HBw.c3
          by_cases hlt : j < nk
          · obtain ⟨k, hk⟩ := get_of (l := ks) (k := j) (by rw [HNK.out]; exact hlt)
            obtain ⟨kc, hkc, hkd⟩ := HKS.out j k hk
            obtain ⟨b, o, rfl, hbm, hcell⟩ := (hK.below hbw).elem NC.cells 4 NC.cells_len (by omega) hkc
            have hkn : kc.nm = k.nm := NdB.name hkd
            have HKN := Lib.hid hkn
            have HKC := Lib.hid hkc
            have hbl : w.heap.size < wr.heap.size := HBw.lt
            have hbl2 : b < wr.heap.size := by omega
            have hrr : Hid (chkKs false ks = if t = true ∧ k.nm = [] then 5 else if chk k ≠ 0 then chk k else chkKs (decide (k.nm = [])) (ks.drop (j + 1))) := by rw [hr.out, drop_get hk, chkKs]; rfl
            clear hr hkn hkc
            rcases Nat.eq_zero_or_pos j with hj0 | hj0
            · have ht0 : t = false := by rw [ht.out, hj0]; rfl
              have hrr : Hid (chkKs false ks = if chk k ≠ 0 then chk k else chkKs (decide (k.nm = [])) (ks.drop (j + 1))) := by rw [hrr.out, if_neg (by simp [ht0])]; rfl
              have HJ0 := Lib.hid hj0
              have d0 : decide ((0 : Int) < (j : Int)) = false := by simp; omega
              have d1 : decide (0 < j) = false := by simp; omega
              clear hj0 ht ht0
              have g0 : wr.cell? ⟨b, o + j * 4, none⟩ = some (.string (B kc.nm)) := hcell 0 _ rfl
              have g1 : wr.cell? ⟨b, o + j * 4 + 1, none⟩ = some (.string (B kc.tx)) := hcell 1 _ rfl
              have g2 : wr.cell? ⟨b, o + j * 4 + 2, none⟩ = some (.slice kc.A kc.na kc.ca) := hcell 2 _ rfl
              have g3 : wr.cell? ⟨b, o + j * 4 + 3, none⟩ = some (.slice kc.K kc.nk kc.ck) := hcell 3 _ rfl
              clear hcell
              have hbk := hbw.alloc hbs (.cells #[.string (B kc.nm), .string (B kc.tx), .slice kc.A kc.na kc.ca, .slice kc.K kc.nk kc.ck] 65)
              have hkB : NdB (wr.alloc (.cells #[.string (B kc.nm), .string (B kc.tx), .slice kc.A kc.na kc.ca, .slice kc.K kc.nk kc.ck] 65)) (wr.alloc (.cells #[.string (B kc.nm), .string (B kc.tx), .slice kc.A kc.na kc.ca, .slice kc.K kc.nk kc.ck] 65)).heap.size k kc := ((hkd.below hbw).below (below_alloc wr _ |>.mono hbs)).more (by simp; omega)
              have HBk : Bx (wr.alloc (.cells #[.string (B kc.nm), .string (B kc.tx), .slice kc.A kc.na kc.ca, .slice kc.K kc.nk kc.ck] 65)) w.heap.size ⟨nm', [], A, na, ca, some ⟨b, o, none⟩, nk, ck⟩ := HBw.alloc _
              have C := Lib.hid (HIH.out k (List.mem_of_getElem? hk) kc (wr.alloc (.cells #[.string (B kc.nm), .string (B kc.tx), .slice kc.A kc.na kc.ca, .slice kc.K kc.nk kc.ck] 65)) hkB (HOK.out k (List.mem_of_getElem? hk)))
              clear hkB
              go_wp2_with fail
              refine C.out.mono ?_
              rintro e w2 ⟨rfl, hb2⟩
              have hB2 := hbk.trans (hb2.mono hbk.size)
              have HBx := HBk.below hb2 HBk.lt
              clear C
              by_cases hz : chk k = 0
              · have HF : Hid (chkKs false ks = chkKs (decide (k.nm = [])) (ks.drop (j + 1))) := by rw [hrr.out, if_neg (by simp [hz])]; rfl
                have HT : Hid ((decide (k.nm = [])) = tx0 ks (j + 1)) := by rw [tx0_succ hk]; rfl
                rw [hz]
                clear hz
                go_wp2
                go_roundw
                case rel => exact ⟨j + 1, _, by omega, by go_num, hB2, HBx, HT, HF⟩
                case measure => simp [intOf]; omega
              · have HX : Hid (chk (.mk nm' [] ats ks) = chk k) := by rw [HE4.out, hrr.out, if_pos hz]; rfl
                generalize chk k = x at *
                have z1 : (x != 0) = true := by simpa using hz
                have z2 : (x == 0) = false := by simpa using hz
                clear hz
                go_wp2
                go_ret
                exact ⟨ret_int HX.out.symm, hB2⟩
            · obtain ⟨j, rfl⟩ : ∃ q, j = q + 1 := ⟨j - 1, by omega⟩
              obtain ⟨pk, hpk⟩ := get_of (l := ks) (k := j) (by rw [HNK.out]; omega)
              obtain ⟨pc, hpc, hpd⟩ := HKS.out j pk hpk
              obtain ⟨b', o', hbb, _, hcell'⟩ := (hK.below hbw).elem NC.cells 4 NC.cells_len (by omega) hpc
              obtain ⟨rfl, rfl⟩ : b = b' ∧ o = o' := by injection hbb with h; injection h with h1 h2 _; exact ⟨h1, h2⟩
              have p0 : wr.cell? ⟨b, o + j * 4, none⟩ = some (.string (B pc.nm)) := hcell' 0 _ rfl
              have HPN := Lib.hid (NdB.name hpd)
              have htt : t = decide (pk.nm = []) := by rw [ht.out, tx0_succ hpk]
              have HTT := Lib.hid htt
              clear hbb hcell' hpc hpd ht htt hj0
              have g0 : wr.cell? ⟨b, o + (j + 1) * 4, none⟩ = some (.string (B kc.nm)) := hcell 0 _ rfl
              have g1 : wr.cell? ⟨b, o + (j + 1) * 4 + 1, none⟩ = some (.string (B kc.tx)) := hcell 1 _ rfl
              have g2 : wr.cell? ⟨b, o + (j + 1) * 4 + 2, none⟩ = some (.slice kc.A kc.na kc.ca) := hcell 2 _ rfl
              have g3 : wr.cell? ⟨b, o + (j + 1) * 4 + 3, none⟩ = some (.slice kc.K kc.nk kc.ck) := hcell 3 _ rfl
              clear hcell
              by_cases hkn : k.nm = []
              · by_cases hpn : pk.nm = []
                · have HX : Hid (chk (.mk nm' [] ats ks) = 5) := by rw [HE4.out, hrr.out, if_pos ⟨by rw [HTT.out]; simp [hpn], hkn⟩]; rfl
                  have x1 : kc.nm = [] := HKN.out.trans hkn
                  have x2 : pc.nm = [] := HPN.out.trans hpn
                  rw [x1] at g0
                  rw [x2] at p0
                  clear x2 hkn hpn
                  obtain ⟨n0, t0, A0, na0, ca0, K0, nk0, ck0⟩ := kc
                  obtain rfl : n0 = [] := x1
                  go_wp2
                  go_ret
                  exact ⟨ret_int HX.out.symm, hbw.alloc hbs _⟩
                · have hrr : Hid (chkKs false ks = if chk k ≠ 0 then chk k else chkKs (decide (k.nm = [])) (ks.drop (j + 1 + 1))) := by rw [hrr.out, if_neg (by rw [HTT.out]; simp [hpn])]; rfl
                  have x2 : pc.nm ≠ [] := fun e => hpn (HPN.out.symm.trans e)
                  have y1 : (pc.nm == []) = false := by simpa using x2
                  have y2 : pc.nm.isEmpty = false := by simpa using x2
                  have x1 : kc.nm = [] := HKN.out.trans hkn
                  rw [x1] at g0
                  clear x2 hkn hpn
                  generalize pc.nm = pn at *
                  obtain ⟨n0, t0, A0, na0, ca0, K0, nk0, ck0⟩ := kc
                  obtain rfl : n0 = [] := x1
                  have hbk := hbw.alloc hbs (.cells #[.string (B []), .string (B t0), .slice A0 na0 ca0, .slice K0 nk0 ck0] 65)
                  have hkB : NdB (wr.alloc (.cells #[.string (B []), .string (B t0), .slice A0 na0 ca0, .slice K0 nk0 ck0] 65)) (wr.alloc (.cells #[.string (B []), .string (B t0), .slice A0 na0 ca0, .slice K0 nk0 ck0] 65)).heap.size k ⟨[], t0, A0, na0, ca0, K0, nk0, ck0⟩ := ((hkd.below hbw).below (below_alloc wr _ |>.mono hbs)).more (by simp; omega)
                  have HBk : Bx (wr.alloc (.cells #[.string (B []), .string (B t0), .slice A0 na0 ca0, .slice K0 nk0 ck0] 65)) w.heap.size ⟨nm', [], A, na, ca, some ⟨b, o, none⟩, nk, ck⟩ := HBw.alloc _
                  have C := Lib.hid (HIH.out k (List.mem_of_getElem? hk) ⟨[], t0, A0, na0, ca0, K0, nk0, ck0⟩ (wr.alloc (.cells #[.string (B []), .string (B t0), .slice A0 na0 ca0, .slice K0 nk0 ck0] 65)) hkB (HOK.out k (List.mem_of_getElem? hk)))
                  clear hkB
                  go_wp2_with fail
                  refine C.out.mono ?_
                  rintro e w2 ⟨rfl, hb2⟩
                  have hB2 := hbk.trans (hb2.mono hbk.size)
                  have HBx := HBk.below hb2 HBk.lt
                  clear C
                  by_cases hz : chk k = 0
                  · have HF : Hid (chkKs false ks = chkKs (decide (k.nm = [])) (ks.drop ((j + 1) + 1))) := by rw [hrr.out, if_neg (by simp [hz])]; rfl
                    have HT : Hid ((decide (k.nm = [])) = tx0 ks ((j + 1) + 1)) := by rw [tx0_succ hk]; rfl
                    rw [hz]
                    clear hz
                    go_wp2
                    go_roundw
                    case rel => exact ⟨(j + 1) + 1, _, by omega, by go_num, hB2, HBx, HT, HF⟩
                    case measure => simp [intOf]; omega
                  · have HX : Hid (chk (.mk nm' [] ats ks) = chk k) := by rw [HE4.out, hrr.out, if_pos hz]; rfl
                    generalize chk k = x at *
                    have z1 : (x != 0) = true := by simpa using hz
                    have z2 : (x == 0) = false := by simpa using hz
                    clear hz
                    go_wp2
                    go_ret
                    exact ⟨ret_int HX.out.symm, hB2⟩
              · have hrr : Hid (chkKs false ks = if chk k ≠ 0 then chk k else chkKs (decide (k.nm = [])) (ks.drop (j + 1 + 1))) := by rw [hrr.out, if_neg (by simp [hkn])]; rfl
                have x2 : kc.nm ≠ [] := fun e => hkn (HKN.out.symm.trans e)
                have y1 : (kc.nm == []) = false := by simpa using x2
                have y2 : kc.nm.isEmpty = false := by simpa using x2
                clear x2 hkn
                have hbk := hbw.alloc hbs (.cells #[.string (B kc.nm), .string (B kc.tx), .slice kc.A kc.na kc.ca, .slice kc.K kc.nk kc.ck] 65)
                have hkB : NdB (wr.alloc (.cells #[.string (B kc.nm), .string (B kc.tx), .slice kc.A kc.na kc.ca, .slice kc.K kc.nk kc.ck] 65)) (wr.alloc (.cells #[.string (B kc.nm), .string (B kc.tx), .slice kc.A kc.na kc.ca, .slice kc.K kc.nk kc.ck] 65)).heap.size k kc := ((hkd.below hbw).below (below_alloc wr _ |>.mono hbs)).more (by simp; omega)
                have HBk : Bx (wr.alloc (.cells #[.string (B kc.nm), .string (B kc.tx), .slice kc.A kc.na kc.ca, .slice kc.K kc.nk kc.ck] 65)) w.heap.size ⟨nm', [], A, na, ca, some ⟨b, o, none⟩, nk, ck⟩ := HBw.alloc _
                have C := Lib.hid (HIH.out k (List.mem_of_getElem? hk) kc (wr.alloc (.cells #[.string (B kc.nm), .string (B kc.tx), .slice kc.A kc.na kc.ca, .slice kc.K kc.nk kc.ck] 65)) hkB (HOK.out k (List.mem_of_getElem? hk)))
                clear hkB
                go_wp2_with fail
                refine C.out.mono ?_
                rintro e w2 ⟨rfl, hb2⟩
                have hB2 := hbk.trans (hb2.mono hbk.size)
                have HBx := HBk.below hb2 HBk.lt
                clear C
                by_cases hz : chk k = 0
                · have HF : Hid (chkKs false ks = chkKs (decide (k.nm = [])) (ks.drop ((j + 1) + 1))) := by rw [hrr.out, if_neg (by simp [hz])]; rfl
                  have HT : Hid ((decide (k.nm = [])) = tx0 ks ((j + 1) + 1)) := by rw [tx0_succ hk]; rfl
                  rw [hz]
                  clear hz
                  go_wp2
                  go_roundw
                  case rel => exact ⟨(j + 1) + 1, _, by omega, by go_num, hB2, HBx, HT, HF⟩
                  case measure => simp [intOf]; omega
                · have HX : Hid (chk (.mk nm' [] ats ks) = chk k) := by rw [HE4.out, hrr.out, if_pos hz]; rfl
                  generalize chk k = x at *
                  have z1 : (x != 0) = true := by simpa using hz
                  have z2 : (x == 0) = false := by simpa using hz
                  clear hz
                  go_wp2
                  go_ret
                  exact ⟨ret_int HX.out.symm, hB2⟩
          · have HX : Hid (chk (.mk nm' [] ats ks) = 0) := by rw [HE4.out, hr.out, List.drop_of_length_le (by rw [HNK.out]; omega), chkKs]; rfl
            go_wp2
            go_ret
            exact ⟨ret_int HX.out.symm, hbw⟩
      · have HX : Hid (chk (.mk nm' [] ats ks) = chkAs [] ats) := by rw [HE3.out, if_pos ha]; rfl
        generalize chkAs [] ats = x at *
        have z1 : (x != 0) = true := by simpa using ha
        have z2 : (x == 0) = false := by simpa using ha
        clear ha
        have b0 := HB1.c0
        have b1 := HB1.c1
        have b3 := HB1.c3
        go_wp2
        go_ret
        exact ⟨ret_int HX.out.symm, hB1⟩
    · by_cases hk0 : 0 < nk
      · have HX : Hid (chk (.mk nm' [] ats ks) = 5) := by
          rw [HE2.out, if_neg (by simp [hn]), if_pos (.inr ⟨hem, by intro e; rw [e] at HNK; have := HNK.out; simp at this; omega⟩)]; rfl
        clear HE2
        go_enter Tryz.func67, Tryz.ntmps67
        go_wp2_with fail
        refine (isName_any (B nm') _ (by rw [B_size]; omega)).mono ?_
        rintro e w1 ⟨rfl, rfl⟩
        rw [B_data, hn]
        go_wp2_with fail
        refine (isEmpty_any (B nm') _).mono ?_
        rintro e w1 ⟨rfl, rfl⟩
        rw [B_data, hem]
        go_wp2
        go_ret
        exact ⟨ret_int HX.out.symm, hbW⟩
      · have HE3 : Hid (chk (.mk nm' [] ats ks) = if chkAs [] ats ≠ 0 then chkAs [] ats else chkKs false ks) := by
          have : ks = [] := List.eq_nil_of_length_eq_zero (by rw [HNK.out]; omega)
          rw [HE2.out, if_neg (by simp [hn]), if_neg (by simp [this])]; rfl
        have dk : decide (0 < nk) = false := by simp; omega
        have dk2 : decide ((0 : Int) < (nk : Int)) = false := by simp; omega
        clear HE2
        go_enter Tryz.func67, Tryz.ntmps67
        go_wp2_with fail
        refine (isName_any (B nm') _ (by rw [B_size]; omega)).mono ?_
        rintro e w1 ⟨rfl, rfl⟩
        rw [B_data, hn]
        go_wp2_with fail
        refine (isEmpty_any (B nm') _).mono ?_
        rintro e w1 ⟨rfl, rfl⟩
        rw [B_data, hem]
        have hA1 : Rd (w.alloc (.cells #[.string (B nm'), .string (B []), .slice A na ca, .slice K nk ck] 65)) (w.alloc (.cells #[.string (B nm'), .string (B []), .slice A na ca, .slice K nk ck] 65)).heap.size 2 A na (ats.flatMap prF) := (hA.below hbW).more hbW.size
        go_wp2_with fail
        refine (checkAttrs_any A na ca ats _ hA1 (by omega) HO5.out).mono ?_
        rintro e w1 ⟨rfl, hb1⟩
        have hB1 := hbW.trans (hb1.mono hbW.size)
        have HB1 : Bx w1 w.heap.size ⟨nm', [], A, na, ca, K, nk, ck⟩ := HB.below hb1 HB.lt
        clear hA1 hb1 HB hbW
        by_cases ha : chkAs [] ats = 0
        · have HE4 : Hid (chk (.mk nm' [] ats ks) = chkKs false ks) := by rw [HE3.out, if_neg (by simp [ha])]; rfl
          clear HE3
          rw [ha]
          have b0 := HB1.c0
          have b1 := HB1.c1
          have b3 := HB1.c3
          go_wp2
          clear b0 b1 b3
          go_loopw [56] (fun i wr => ∃ (j : Nat) (t : Bool), j ≤ nk ∧ i = .int .i64 j ∧ Below w.heap.size w wr ∧ Bx wr w.heap.size ⟨nm', [], A, na, ca, K, nk, ck⟩ ∧ Hid (t = tx0 ks j) ∧ Hid (chkKs false ks = chkKs t (ks.drop j))) (fun i _ => nk - (intOf i).toNat)
          case atStart => exact ⟨0, false, Nat.zero_le _, rfl, hB1, HB1, rfl, rfl⟩
          case round =>
            obtain ⟨j, t, hj, rfl, hbw, HBw, ht, hr⟩ := hrel
            have hbs := hbw.size
            have b0 := HBw.c0
            have b3 := HBw.c3
            by_cases hlt : j < nk
            · exfalso; omega
            · have HX : Hid (chk (.mk nm' [] ats ks) = 0) := by rw [HE4.out, hr.out, List.drop_of_length_le (by rw [HNK.out]; omega), chkKs]; rfl
              go_wp2
              go_ret
              exact ⟨ret_int HX.out.symm, hbw⟩
        · have HX : Hid (chk (.mk nm' [] ats ks) = chkAs [] ats) := by rw [HE3.out, if_pos ha]; rfl
          generalize chkAs [] ats = x at *
          have z1 : (x != 0) = true := by simpa using ha
          have z2 : (x == 0) = false := by simpa using ha
          clear ha
          have b0 := HB1.c0
          have b1 := HB1.c1
          have b3 := HB1.c3
          go_wp2
          go_ret
          exact ⟨ret_int HX.out.symm, hB1⟩
  · have HX : Hid (chk (.mk nm' tx' ats ks) = 5) := by rw [HE2.out, if_neg (by simp [hn]), if_pos (.inl ht)]; rfl
    have t1 : (tx' == []) = false := by simpa using ht
    have t2 : tx'.isEmpty = false := by simpa using ht
    have t3 : (tx' != []) = true := by simpa using ht
    clear HE2 ht
    go_enter Tryz.func67, Tryz.ntmps67
    go_wp2_with fail
    refine (isName_any (B nm') _ (by rw [B_size]; omega)).mono ?_
    rintro e w1 ⟨rfl, rfl⟩
    rw [B_data, hn]
    go_wp2
    go_ret
    exact ⟨ret_int HX.out.symm, hbW⟩

end Go.Proofs.YtejjidbodfoiiaaGreatDoor
