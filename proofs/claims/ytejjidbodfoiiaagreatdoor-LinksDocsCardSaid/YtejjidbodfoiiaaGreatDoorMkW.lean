/-
  Layer 33 (markup): Values, the chapter's.
-/
import Derived.Test.YtejjidbodfoiiaaGreatDoorMkV
namespace Go.Proofs.YtejjidbodfoiiaaGreatDoor
open Go.RowKit
set_option linter.unusedVariables false
set_option linter.unusedSimpArgs false
attribute [local go_sem] B_data B_size

set_option maxHeartbeats 8000000 in
set_option maxRecDepth 100000 in
theorem rvalues_any (key : List UInt8) : ∀ (n : Nd) (c : NC) (w : World), NdB w w.heap.size n c → okN 1000000000 n → szN n ≤ 1000000000 →
    Calls Tryz.prog 49 #[.agg #[.string (B c.nm), .string (B c.tx), .slice c.A c.na c.ca, .slice c.K c.nk c.ck], .string (B key)] w (LPost (vals key n) w) := by
  refine Nd.ind ?_
  intro nm tx ats ks IH c w h hok hsz
  obtain ⟨e1, e2, hA, cs, hK, hkc, hks⟩ := h.parts
  obtain ⟨o1, o2, o3, o4, o5, o6⟩ := hok.parts
  obtain ⟨nm', tx', A, na, ca, K, nk, ck⟩ := c
  have e1 : nm' = nm := e1
  have e2 : tx' = tx := e2
  subst e1 e2
  have hA : Rd w w.heap.size 2 A na (ats.flatMap prF) := hA
  have hK : Rd w w.heap.size 4 K nk (cs.flatMap NC.cells) := hK
  have hna : ats.length = na := hA.count prF 2 prF_len (by omega)
  have hnk : cs.length = nk := hK.count NC.cells 4 NC.cells_len (by omega)
  rw [hna] at o3
  rw [hkc, hnk] at o4
  have HNA := Lib.hid hna
  have HNK := Lib.hid (hkc.trans hnk)
  rw [szN] at hsz
  have HE : Hid (vals key (.mk nm' tx' ats ks) = if nm' = [] then [] else valAs key ats ++ valsL key ks) := by rw [vals]; rfl
  have HKS := Lib.hid hks
  have HIH := Lib.hid IH
  have HOK := Lib.hid o6
  have HVL := Lib.hid (fun j => valAs_len key ats j)
  have HKM := Lib.hid (fun k (hk : k ∈ ks) => szL_mem hk)
  have HB := Bx.new w ⟨nm', tx', A, na, ca, K, nk, ck⟩
  have hbW := below_alloc w (.cells #[.string (B nm'), .string (B tx'), .slice A na ca, .slice K nk ck] 65)
  clear hna hkc hnk hks IH h hok o5 o6
  by_cases h0 : nm' = []
  · have HX : Hid (vals key (.mk nm' tx' ats ks) = []) := by rw [HE.out, if_pos h0]; rfl
    subst h0
    clear HE
    go_enter Tryz.func49, Tryz.ntmps49
    go_wp2
    go_ret
    rw [HX.out]
    exact ⟨none, 0, rfl, Rd.nil, hbW⟩
  have n1 : (nm' == []) = false := by simpa using h0
  have n2 : nm'.isEmpty = false := by simpa using h0
  have HE2 : Hid (vals key (.mk nm' tx' ats ks) = valAs key ats ++ valsL key ks) := by rw [HE.out, if_neg h0]; rfl
  clear HE h0
  go_enter Tryz.func49, Tryz.ntmps49
  go_wp2
  generalize w.alloc (.cells #[.string (B nm'), .string (B tx'), .slice A na ca, .slice K nk ck] 65) = W at *
  go_loopw [5, 6] (fun v i wr => ∃ j : Nat, j ≤ na ∧ i = .int .i64 j ∧ wr.ownsRow (w.heap.size + 1) 9 1 v (valAs key (ats.take j)).length (strs (valAs key (ats.take j))) ∧ Below w.heap.size w wr ∧ Bx wr w.heap.size ⟨nm', tx', A, na, ca, K, nk, ck⟩) (fun _ i _ => na - (intOf i).toNat)
  case atStart => exact ⟨0, Nat.zero_le _, rfl, ⟨rfl, .inl ⟨rfl, rfl⟩⟩, hbW, HB⟩
  case round =>
    obtain ⟨j, hj, rfl, hown, hbw, HBw⟩ := hrel
    have hbs := hbw.size
    have hwl := HBw.lt
    have hvl := HVL.out j
    have b2 := HBw.c2
    obtain ⟨A1, c1', rfl, hnc⟩ := own_form hown
    by_cases hlt : j < na
    · obtain ⟨p, hp⟩ := get_of (l := ats) (k := j) (by rw [HNA.out]; exact hlt)
      obtain ⟨bb, o, rfl, hbm, hcell⟩ := (hA.below hbw).elem prF 2 prF_len (by omega) hp
      have HT := Lib.hid (valAs_take (key := key) hp)
      obtain ⟨k, x⟩ := p
      have c0 : wr.cell? ⟨bb, o + j * 2, none⟩ = some (.string (B k)) := hcell 0 _ rfl
      have c1 : wr.cell? ⟨bb, o + j * 2 + 1, none⟩ = some (.string (B x)) := hcell 1 _ rfl
      clear hcell
      by_cases hkk : k = key
      · have HT2 : Hid (valAs key (ats.take (j + 1)) = valAs key (ats.take j) ++ [x]) := by
          rw [HT.out]; simp [hkk, Hid]
        subst hkk
        have ek : (k == k) = true := by simp
        generalize valAs k (ats.take j) = V2 at *
        go_wp2_with (at_builtin; (refine wpList_app rfl (.tmp 27) (.tmp 34) 25 rfl 9 (.string ⟨#[]⟩) 1 16 Tryz.underlying25 Tryz.info9 rfl (by omega) wr [.string (B x)] rfl (by simp; rfl) (w.heap.size + 1) (.slice A1 V2.length c1') V2.length (strs V2) hown rfl rfl (by omega) (by omega) (by omega) ?_))
        intro v' w2 hown2 hgr hb2
        have e1 : strs V2 ++ [.string (B x)] = strs (valAs k (ats.take (j + 1))) := by rw [HT2.out]; exact strs_snoc V2 x
        have e2 : V2.length + 1 = (valAs k (ats.take (j + 1))).length := by rw [HT2.out]; simp
        rw [e1, e2] at hown2
        have hB2 := hbw.trans (hb2.mono (by omega))
        have HB2 := HBw.below hb2 (by omega)
        clear hgr hb2 e1 e2 hown
        go_wp2
        go_roundw
        case rel => exact ⟨j + 1, by omega, by go_num, hown2, hB2, HB2⟩
        case measure => simp [intOf]; omega
      · have HT2 : Hid (valAs key (ats.take (j + 1)) = valAs key (ats.take j)) := by
          rw [HT.out]; simp [hkk, Hid]
        have ek : (k == key) = false := by simpa using hkk
        clear hkk
        go_wp2
        go_roundw
        case rel => exact ⟨j + 1, by omega, by go_num, by rw [HT2.out]; exact hown, hbw, HBw⟩
        case measure => simp [intOf]; omega
    · have HF : Hid (valAs key (ats.take j) = valAs key ats) := by rw [List.take_of_length_le (by rw [HNA.out]; omega)]; rfl
      rw [HF.out] at hown hvl hnc
      rw [HF.out]
      have b3 := HBw.c3
      go_wp2
      rename World => wo
      clear b2 b3
      go_loopw [5, 7] (fun v i wr => ∃ j : Nat, j ≤ nk ∧ i = .int .i64 j ∧ wr.ownsRow (w.heap.size + 1) 9 1 v (valAs key ats ++ valsL key (ks.take j)).length (strs (valAs key ats ++ valsL key (ks.take j))) ∧ Below w.heap.size w wr ∧ Bx wr w.heap.size ⟨nm', tx', A, na, ca, K, nk, ck⟩) (fun _ i _ => nk - (intOf i).toNat)
      case atStart => exact ⟨0, Nat.zero_le _, rfl, by simpa [valsL] using hown, hbw, HBw⟩
      case round =>
        obtain ⟨t, ht, rfl, hown, hbw, HBw⟩ := hrel
        have hbs := hbw.size
        have hwl := HBw.lt
        have b3 := HBw.c3
        obtain ⟨A1, c1', rfl, hnc⟩ := own_form hown
        by_cases hlt2 : t < nk
        · obtain ⟨kd, hkd⟩ := get_of (l := ks) (k := t) (by rw [HNK.out]; exact hlt2)
          obtain ⟨kc, hkc, hkn⟩ := HKS.out t kd hkd
          obtain ⟨bb, o, rfl, hbm, hcell⟩ := (hK.below hbw).elem NC.cells 4 NC.cells_len (by omega) hkc
          have HT := Lib.hid (valsL_take (key := key) hkd)
          have hmm := List.mem_of_getElem? hkd
          have hksz := HKM.out kd hmm
          have hszk := valsL_szk (key := key) hkd
          have hvk := vals_sz key kd
          have g0 : wr.cell? ⟨bb, o + t * 4, none⟩ = some (.string (B kc.nm)) := hcell 0 _ rfl
          have g1 : wr.cell? ⟨bb, o + t * 4 + 1, none⟩ = some (.string (B kc.tx)) := hcell 1 _ rfl
          have g2 : wr.cell? ⟨bb, o + t * 4 + 2, none⟩ = some (.slice kc.A kc.na kc.ca) := hcell 2 _ rfl
          have g3 : wr.cell? ⟨bb, o + t * 4 + 3, none⟩ = some (.slice kc.K kc.nk kc.ck) := hcell 3 _ rfl
          have hkB := (hkn.below hbw).more hbs
          have C := Lib.hid (HIH.out kd hmm kc wr hkB (HOK.out kd hmm) (by omega))
          have HT2 : Hid (valAs key ats ++ valsL key (ks.take t) ++ vals key kd = valAs key ats ++ valsL key (ks.take (t + 1))) := by rw [HT.out]; simp [Hid]
          have hll : (valAs key ats ++ valsL key (ks.take t)).length ≤ 2000000000 := by rw [List.length_append]; omega
          clear hcell hkB HT
          generalize valAs key ats ++ valsL key (ks.take t) = V2 at *
          generalize hvg : vals key kd = V3 at *
          go_wp2_with fail
          refine C.out.mono ?_
          rintro e w5 ⟨A5, c5, rfl, hr5, hb5⟩
          have hown5 := own_below hown hb5
          have hB6 := hbw.trans (hb5.mono hbs)
          have HB6 := HBw.below hb5 HBw.lt
          have hs5 := hb5.size
          clear C hown
          go_wp2_with (refine wpList_apps rfl (.tmp 43) (.tmp 50) 25 rfl 9 (.string ⟨#[]⟩) 1 16 Tryz.underlying25 Tryz.info9 rfl (by omega) w5 (w.heap.size + 1) (.slice A1 V2.length c1') V2.length (strs V2) hown5 rfl w5.heap.size A5 V3.length c5 (strs V3) hr5 rfl (strs_one V3) (by omega) (by omega) (by omega) ?_)
          intro v' w6 hown6 hgr hb6
          have e1 : strs V2 ++ strs V3 = strs (valAs key ats ++ valsL key (ks.take (t + 1))) := by rw [← HT2.out]; exact strs_append V2 V3
          have e2 : V2.length + V3.length = (valAs key ats ++ valsL key (ks.take (t + 1))).length := by rw [← HT2.out]; simp
          rw [e1, e2] at hown6
          have hB7 := hB6.trans (hb6.mono (by omega))
          have HB7 := HB6.below hb6 (by omega)
          clear hgr hb6 e1 e2 hown5
          go_wp2
          go_roundw
          case rel => exact ⟨t + 1, by omega, by go_num, hown6, hB7, HB7⟩
          case measure => simp [intOf]; omega
        · have HF2 : Hid (valAs key ats ++ valsL key (ks.take t) = vals key (.mk nm' tx' ats ks)) := by rw [HE2.out, List.take_of_length_le (by rw [HNK.out]; omega)]; rfl
          rw [HF2.out] at hown
          rw [HF2.out]
          have hrd := Rd.of_own hown
          go_wp2
          go_ret
          exact ⟨A1, c1', rfl, hrd, hbw⟩
end Go.Proofs.YtejjidbodfoiiaaGreatDoor
