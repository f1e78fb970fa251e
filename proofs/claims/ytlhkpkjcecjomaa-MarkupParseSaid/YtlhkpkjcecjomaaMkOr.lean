/-
  Layer 33 (markup): Same, the chapter's.
-/
import Derived.Test.YtlhkpkjcecjomaaMkO
import Derived.Laws.StructEq
namespace Go.Proofs.Ytlhkpkjcecjomaa
open Go.RowKit
set_option linter.unusedVariables false
set_option linter.unusedSimpArgs false
attribute [local go_sem] B_data B_size
attribute [local go_sem ↓] Go.wp_at_zero Go.wp_at_succ


set_option maxHeartbeats 8000000 in
set_option maxRecDepth 100000 in
theorem rsame_any : ∀ (n : Nd) (n2 : Nd) (c c2 : NC) (w : World), NdB w w.heap.size n c → NdB w w.heap.size n2 c2 → okN 1000000000 n → okN 1000000000 n2 →
    Calls Try.prog 17 #[.agg #[.string (B c.nm), .string (B c.tx), .slice c.A c.na c.ca, .slice c.K c.nk c.ck], .agg #[.string (B c2.nm), .string (B c2.tx), .slice c2.A c2.na c2.ca, .slice c2.K c2.nk c2.ck]] w (BPost (smN n n2) w) := by
  refine Nd.ind ?_
  intro nm tx ats ks IH n2 c c2 w h h2 hok hok2
  obtain ⟨nm2, tx2, ats2, ks2⟩ := n2
  obtain ⟨e1, e2, hA, cs, hK, hkc, hks⟩ := h.parts
  obtain ⟨e3, e4, hA2, cs2, hK2, hkc2, hks2⟩ := h2.parts
  obtain ⟨o1, o2, o3, o4, o5, o6⟩ := hok.parts
  obtain ⟨p1, p2, p3, p4, p5, p6⟩ := hok2.parts
  obtain ⟨nm', tx', A, na, ca, K, nk, ck⟩ := c
  obtain ⟨nm2', tx2', A2, na2, ca2, K2, nk2, ck2⟩ := c2
  have e1 : nm' = nm := e1
  have e2 : tx' = tx := e2
  have e3 : nm2' = nm2 := e3
  have e4 : tx2' = tx2 := e4
  subst e1 e2 e3 e4
  have hA : Rd w w.heap.size 2 A na (ats.flatMap prF) := hA
  have hK : Rd w w.heap.size 4 K nk (cs.flatMap NC.cells) := hK
  have hA2 : Rd w w.heap.size 2 A2 na2 (ats2.flatMap prF) := hA2
  have hK2 : Rd w w.heap.size 4 K2 nk2 (cs2.flatMap NC.cells) := hK2
  have hna : ats.length = na := hA.count prF 2 prF_len (by omega)
  have hnk : cs.length = nk := hK.count NC.cells 4 NC.cells_len (by omega)
  have hna2 : ats2.length = na2 := hA2.count prF 2 prF_len (by omega)
  have hnk2 : cs2.length = nk2 := hK2.count NC.cells 4 NC.cells_len (by omega)
  rw [hna] at o3
  rw [hkc, hnk] at o4
  rw [hna2] at p3
  rw [hkc2, hnk2] at p4
  have HNA := Lib.hid hna
  have HNK := Lib.hid (hkc.trans hnk)
  have HNA2 := Lib.hid hna2
  have HNK2 := Lib.hid (hkc2.trans hnk2)
  have HE : Hid (smN (.mk nm' tx' ats ks) (.mk nm2' tx2' ats2 ks2) = (decide (nm' = nm2') && (decide (tx' = tx2') && (decide (ats = ats2) && smL ks ks2)))) := by rw [smN]; rfl
  have HKS := Lib.hid hks
  have HKS2 := Lib.hid hks2
  have HIH := Lib.hid IH
  have HOK := Lib.hid o6
  have HOK2 := Lib.hid p6
  have HB0 := Bx.new w ⟨nm', tx', A, na, ca, K, nk, ck⟩
  have HB := HB0.alloc (.cells #[.string (B nm2'), .string (B tx2'), .slice A2 na2 ca2, .slice K2 nk2 ck2] 25)
  have HB2 := Bx.new (w.alloc (.cells #[.string (B nm'), .string (B tx'), .slice A na ca, .slice K nk ck] 25)) ⟨nm2', tx2', A2, na2, ca2, K2, nk2, ck2⟩
  have hbW0 := below_alloc w (.cells #[.string (B nm'), .string (B tx'), .slice A na ca, .slice K nk ck] 25)
  have hbW := hbW0.alloc hbW0.size (.cells #[.string (B nm2'), .string (B tx2'), .slice A2 na2 ca2, .slice K2 nk2 ck2] 25)
  have esz : (w.alloc (.cells #[.string (B nm'), .string (B tx'), .slice A na ca, .slice K nk ck] 25)).heap.size = w.heap.size + 1 := by simp
  rw [esz] at HB2
  clear hna hkc hnk hks IH h hok o5 o6 hna2 hkc2 hnk2 hks2 h2 hok2 p5 p6 HB0 hbW0 esz
  by_cases q1 : nm' = nm2'
  rotate_left
  · have HX : Hid (smN (.mk nm' tx' ats ks) (.mk nm2' tx2' ats2 ks2) = false) := by rw [HE.out]; simp [q1, Hid]
    have d1 : (nm' == nm2') = false := by simpa using q1
    have d2 : (nm' != nm2') = true := by simpa using q1
    clear HE q1
    go_enter Try.func17, Try.ntmps17
    go_wp2
    go_ret
    exact ⟨ret_bool HX.out.symm, hbW⟩
  subst q1
  have d1 : (nm' == nm') = true := by simp
  have d2 : (nm' != nm') = false := by simp
  by_cases q2 : tx' = tx2'
  rotate_left
  · have HX : Hid (smN (.mk nm' tx' ats ks) (.mk nm' tx2' ats2 ks2) = false) := by rw [HE.out]; simp [q2, Hid]
    have d3 : (tx' == tx2') = false := by simpa using q2
    have d4 : (tx' != tx2') = true := by simpa using q2
    clear HE q2
    go_enter Try.func17, Try.ntmps17
    go_wp2
    go_ret
    exact ⟨ret_bool HX.out.symm, hbW⟩
  subst q2
  have d3 : (tx' == tx') = true := by simp
  have d4 : (tx' != tx') = false := by simp
  by_cases q3 : na = na2
  rotate_left
  · have HX : Hid (smN (.mk nm' tx' ats ks) (.mk nm' tx' ats2 ks2) = false) := by
      rw [HE.out]
      have : ats ≠ ats2 := by intro e; rw [e] at HNA; have := HNA.out; have := HNA2.out; omega
      simp [this, Hid]
    have d5 : ((na : Int) != (na2 : Int)) = true := by rw [bne_iff_ne]; omega
    have d5b : (na != na2) = true := by rw [bne_iff_ne]; exact q3
    clear HE
    go_enter Try.func17, Try.ntmps17
    go_wp2
    go_ret
    exact ⟨ret_bool HX.out.symm, hbW⟩
  subst q3
  have d5 : ((na : Int) != (na : Int)) = false := by simp
  by_cases q4 : nk = nk2
  rotate_left
  · have HX : Hid (smN (.mk nm' tx' ats ks) (.mk nm' tx' ats2 ks2) = false) := by
      rw [HE.out]
      have : smL ks ks2 = false := smL_len (by rw [HNK.out, HNK2.out]; exact q4)
      simp [this, Hid]
    have d6 : ((nk : Int) != (nk2 : Int)) = true := by rw [bne_iff_ne]; omega
    have d6b : (nk != nk2) = true := by rw [bne_iff_ne]; exact q4
    clear HE
    go_enter Try.func17, Try.ntmps17
    go_wp2
    go_ret
    exact ⟨ret_bool HX.out.symm, hbW⟩
  subst q4
  have d6 : ((nk : Int) != (nk : Int)) = false := by simp
  have HE2 : Hid (smN (.mk nm' tx' ats ks) (.mk nm' tx' ats2 ks2) = (decide (ats = ats2) && smL ks ks2)) := by rw [HE.out]; simp [Hid]
  clear HE
  go_enter Try.func17, Try.ntmps17
  go_wp2
  generalize (w.alloc (.cells #[.string (B nm'), .string (B tx'), .slice A na ca, .slice K nk ck] 25)).alloc (.cells #[.string (B nm'), .string (B tx'), .slice A2 na ca2, .slice K2 nk ck2] 25) = W at *
  go_loopw [5] (fun i wr => ∃ j : Nat, j ≤ na ∧ i = .int .i64 j ∧ Below w.heap.size w wr ∧ Bx wr w.heap.size ⟨nm', tx', A, na, ca, K, nk, ck⟩ ∧ Bx wr (w.heap.size + 1) ⟨nm', tx', A2, na, ca2, K2, nk, ck2⟩ ∧ Hid (ats.take j = ats2.take j)) (fun i _ => na - (intOf i).toNat)
  case atStart => exact ⟨0, Nat.zero_le _, rfl, hbW, HB, HB2, rfl⟩
  case round =>
    obtain ⟨j, hj, rfl, hbw, HBw, HB2w, hr⟩ := hrel
    have hbs := hbw.size
    have hl2 := HB2w.lt
    by_cases hlt : j < na
    · obtain ⟨p, hp⟩ := get_of (l := ats) (k := j) (by rw [HNA.out]; exact hlt)
      obtain ⟨q, hq⟩ := get_of (l := ats2) (k := j) (by rw [HNA2.out]; exact hlt)
      obtain ⟨b, o, rfl, hbm, hcell⟩ := (hA.below hbw).elem prF 2 prF_len (by omega) hp
      obtain ⟨b2, o2, rfl, hbm2, hcell2⟩ := (hA2.below hbw).elem prF 2 prF_len (by omega) hq
      have c0 : wr.cell? ⟨b, o + j * 2, none⟩ = some (.string (B p.1)) := hcell 0 _ rfl
      have c1 : wr.cell? ⟨b, o + j * 2 + 1, none⟩ = some (.string (B p.2)) := hcell 1 _ rfl
      have c2 : wr.cell? ⟨b2, o2 + j * 2, none⟩ = some (.string (B q.1)) := hcell2 0 _ rfl
      have c3 : wr.cell? ⟨b2, o2 + j * 2 + 1, none⟩ = some (.string (B q.2)) := hcell2 1 _ rfl
      have b2c := HB2w.c2
      have b1c := HBw.c2
      have bb1 : b < wr.heap.size := by omega
      have bb2 : b2 < wr.heap.size := by omega
      have i1 : (0 : Int) ≤ (j : Int) := by omega
      have i2 : (j : Int) < (na : Int) := by omega
      have hneq := pair_neq p q
      have hB3 := hbw
      have HB3 := HBw
      have HB4 := HB2w
      clear hcell hcell2
      by_cases hpq : p = q
      · have HR : Hid (ats.take (j + 1) = ats2.take (j + 1)) := by rw [take_snoc hp, take_snoc hq, hr.out, hpq]; rfl
        subst hpq
        have eb : (!(p.1 == p.1 && p.2 == p.2)) = false := by simp
        rw [eb] at hneq
        clear eb
        go_wp2
        go_quiet (fail)
        go_wp2
        go_roundw
        case rel => exact ⟨j + 1, by omega, by go_num, below_drewN hB3 _, HB3, HB4, HR⟩
        case measure => simp [intOf]; omega
      · have HX : Hid (smN (.mk nm' tx' ats ks) (.mk nm' tx' ats2 ks2) = false) := by
          rw [HE2.out]
          have : ats ≠ ats2 := by intro e; rw [e, hq] at hp; exact hpq (Option.some.inj hp).symm
          simp [this, Hid]
        have eb : (!(p.1 == q.1 && p.2 == q.2)) = true := by
          simp only [Bool.not_eq_true', Bool.and_eq_false_iff, beq_eq_false_iff_ne]
          by_cases e1 : p.1 = q.1
          · right; intro e2; exact hpq (Prod.ext e1 e2)
          · left; exact e1
        rw [eb] at hneq
        clear eb hpq HE2
        go_wp2
        go_quiet (fail)
        go_wp2
        go_ret
        exact ⟨ret_bool HX.out.symm, below_drewN hB3 _⟩
    · have HE3 : Hid (smN (.mk nm' tx' ats ks) (.mk nm' tx' ats2 ks2) = smL ks ks2) := by
        have : ats = ats2 := by
          have h := hr.out
          rw [List.take_of_length_le (by rw [HNA.out]; omega), List.take_of_length_le (by rw [HNA2.out]; omega)] at h
          exact h
        rw [HE2.out]; simp [this, Hid]
      clear HE2 hr
      have b1c := HBw.c2
      have b1k := HBw.c3
      go_wp2
      rename World => wo
      clear b1c b1k
      go_loopw [6] (fun i wr => ∃ j : Nat, j ≤ nk ∧ i = .int .i64 j ∧ Below w.heap.size w wr ∧ Bx wr w.heap.size ⟨nm', tx', A, na, ca, K, nk, ck⟩ ∧ Bx wr (w.heap.size + 1) ⟨nm', tx', A2, na, ca2, K2, nk, ck2⟩ ∧ Hid (smL ks ks2 = smL (ks.drop j) (ks2.drop j))) (fun i _ => nk - (intOf i).toNat)
      case atStart => exact ⟨0, Nat.zero_le _, rfl, hbw, HBw, HB2w, rfl⟩
      case round =>
        obtain ⟨j, hj, rfl, hbw, HBw, HB2w, hr⟩ := hrel
        have hbs := hbw.size
        have hl2 := HB2w.lt
        have b1k := HBw.c3
        have b2k := HB2w.c3
        by_cases hlt : j < nk
        · obtain ⟨k, hk⟩ := get_of (l := ks) (k := j) (by rw [HNK.out]; exact hlt)
          obtain ⟨k2, hk2⟩ := get_of (l := ks2) (k := j) (by rw [HNK2.out]; exact hlt)
          obtain ⟨kc, hkc, hkd⟩ := HKS.out j k hk
          obtain ⟨ec, hec, hed⟩ := HKS2.out j k2 hk2
          obtain ⟨b, o, rfl, hbm, hcell⟩ := (hK.below hbw).elem NC.cells 4 NC.cells_len (by omega) hkc
          obtain ⟨b2, o2, rfl, hbm2, hcell2⟩ := (hK2.below hbw).elem NC.cells 4 NC.cells_len (by omega) hec
          have g_0 : wr.cell? ⟨b, o + j * 4, none⟩ = some (.string (B kc.nm)) := hcell 0 _ rfl
          have g_1 : wr.cell? ⟨b, o + j * 4 + 1, none⟩ = some (.string (B kc.tx)) := hcell 1 _ rfl
          have g_2 : wr.cell? ⟨b, o + j * 4 + 2, none⟩ = some (.slice kc.A kc.na kc.ca) := hcell 2 _ rfl
          have g_3 : wr.cell? ⟨b, o + j * 4 + 3, none⟩ = some (.slice kc.K kc.nk kc.ck) := hcell 3 _ rfl
          have g2_0 : wr.cell? ⟨b2, o2 + j * 4, none⟩ = some (.string (B ec.nm)) := hcell2 0 _ rfl
          have g2_1 : wr.cell? ⟨b2, o2 + j * 4 + 1, none⟩ = some (.string (B ec.tx)) := hcell2 1 _ rfl
          have g2_2 : wr.cell? ⟨b2, o2 + j * 4 + 2, none⟩ = some (.slice ec.A ec.na ec.ca) := hcell2 2 _ rfl
          have g2_3 : wr.cell? ⟨b2, o2 + j * 4 + 3, none⟩ = some (.slice ec.K ec.nk ec.ck) := hcell2 3 _ rfl
          have HR : Hid (smL ks ks2 = (smN k k2 && smL (ks.drop (j + 1)) (ks2.drop (j + 1)))) := by rw [hr.out, drop_get hk, drop_get hk2, smL]; rfl
          have hbk := hbw
          have i1 : (0 : Int) ≤ (j : Int) := by omega
          have i2 : (j : Int) < (nk : Int) := by omega
          have s0 : wr.cell? ⟨w.heap.size, 3, none⟩ = some (.slice (some ⟨b, o, none⟩) nk ck) := HBw.c3
          have s1 : wr.cell? ⟨b, o + j * 4, none⟩ = some (.string (B kc.nm)) := g_0
          have s2 : wr.cell? ⟨b, o + j * 4 + 1, none⟩ = some (.string (B kc.tx)) := g_1
          have s3 : wr.cell? ⟨b, o + j * 4 + 2, none⟩ = some (.slice kc.A kc.na kc.ca) := g_2
          have s4 : wr.cell? ⟨b, o + j * 4 + 3, none⟩ = some (.slice kc.K kc.nk kc.ck) := g_3
          have s5 : wr.cell? ⟨w.heap.size + 1, 3, none⟩ = some (.slice (some ⟨b2, o2, none⟩) nk ck2) := HB2w.c3
          have s6 : wr.cell? ⟨b2, o2 + j * 4, none⟩ = some (.string (B ec.nm)) := g2_0
          have s7 : wr.cell? ⟨b2, o2 + j * 4 + 1, none⟩ = some (.string (B ec.tx)) := g2_1
          have s8 : wr.cell? ⟨b2, o2 + j * 4 + 2, none⟩ = some (.slice ec.A ec.na ec.ca) := g2_2
          have s9 : wr.cell? ⟨b2, o2 + j * 4 + 3, none⟩ = some (.slice ec.K ec.nk ec.ck) := g2_3
          have HK := Lib.hid (And.intro s0 (And.intro s1 (And.intro s2 (And.intro s3 (And.intro s4 (And.intro s5 (And.intro s6 (And.intro s7 (And.intro s8 (s9))))))))))
          have hD : KI w wr wr.drew := ⟨hbk.drew, fun _ _ h => h⟩
          have HKA := Lib.hid (show Bx wr w.heap.size ⟨nm', tx', A, na, ca, some ⟨b, o, none⟩, nk, ck⟩ from HBw)
          have HKB := Lib.hid (show Bx wr (w.heap.size + 1) ⟨nm', tx', A2, na, ca2, some ⟨b2, o2, none⟩, nk, ck2⟩ from HB2w)
          have HKD := Lib.hid (fun (V : World) (hV : Below w.heap.size w V) => HIH.out k (List.mem_of_getElem? hk) k2 kc ec V ((hkd.below hV).more hV.size) ((hed.below hV).more hV.size) (HOK.out k (List.mem_of_getElem? hk)) (HOK2.out k2 (List.mem_of_getElem? hk2)))
          clear s0 s1 s2 s3 s4 s5 s6 s7 s8 s9 hcell hcell2 hr hkd hed HBw HB2w hbk
          have b1k := HK.out.1
          go_wp2
          clear b1k b2k g_0 g_1 g_2 g_3 g2_0 g2_1 g2_2 g2_3
          go_region_held3 (fun w' => w'.cell? ⟨w.heap.size, 3, none⟩ = some (.slice (some ⟨b, o, none⟩) nk ck) ∧ w'.cell? ⟨b, o + j * 4, none⟩ = some (.string (B kc.nm)) ∧ w'.cell? ⟨b, o + j * 4 + 1, none⟩ = some (.string (B kc.tx)) ∧ w'.cell? ⟨b, o + j * 4 + 2, none⟩ = some (.slice kc.A kc.na kc.ca) ∧ w'.cell? ⟨b, o + j * 4 + 3, none⟩ = some (.slice kc.K kc.nk kc.ck) ∧ w'.cell? ⟨w.heap.size + 1, 3, none⟩ = some (.slice (some ⟨b2, o2, none⟩) nk ck2) ∧ w'.cell? ⟨b2, o2 + j * 4, none⟩ = some (.string (B ec.nm)) ∧ w'.cell? ⟨b2, o2 + j * 4 + 1, none⟩ = some (.string (B ec.tx)) ∧ w'.cell? ⟨b2, o2 + j * 4 + 2, none⟩ = some (.slice ec.A ec.na ec.ca) ∧ w'.cell? ⟨b2, o2 + j * 4 + 3, none⟩ = some (.slice ec.K ec.nk ec.ck))
            (first | exact ⟨hD.cell (HK.out.1), hD.cell (HK.out.2.1), hD.cell (HK.out.2.2.1), hD.cell (HK.out.2.2.2.1), hD.cell (HK.out.2.2.2.2.1), hD.cell (HK.out.2.2.2.2.2.1), hD.cell (HK.out.2.2.2.2.2.2.1), hD.cell (HK.out.2.2.2.2.2.2.2.1), hD.cell (HK.out.2.2.2.2.2.2.2.2.1), hD.cell (HK.out.2.2.2.2.2.2.2.2.2)⟩)
            (first
              | (go_at_call 17; refine (HKD.out _ hD.b).mono ?_; rintro e w' ⟨rfl, hb⟩; have hD' := hD.step hb; clear hD hb; have hD := hD'; clear hD'))
          have hD1 := hD.b
          have hD2 : Bx _ w.heap.size ⟨nm', tx', A, na, ca, some ⟨b, o, none⟩, nk, ck⟩ := hD.kp _ _ HKA.out
          have hD3 : Bx _ (w.heap.size + 1) ⟨nm', tx', A2, na, ca2, some ⟨b2, o2, none⟩, nk, ck2⟩ := hD.kp _ _ HKB.out
          clear hD HK
          cases hsm : smN k k2
          · have HX : Hid (smN (.mk nm' tx' ats ks) (.mk nm' tx' ats2 ks2) = false) := by rw [HE3.out, HR.out, hsm]; rfl
            go_wp2
            go_ret
            exact ⟨ret_bool HX.out.symm, hD1⟩
          · have HF : Hid (smL ks ks2 = smL (ks.drop (j + 1)) (ks2.drop (j + 1))) := by rw [HR.out, hsm]; rfl
            clear HR
            go_wp2
            go_roundw
            case rel => exact ⟨j + 1, by omega, by go_num, hD1, hD2, hD3, HF⟩
            case measure => simp [intOf]; omega
        · have HX : Hid (smN (.mk nm' tx' ats ks) (.mk nm' tx' ats2 ks2) = true) := by
            rw [HE3.out, hr.out, List.drop_of_length_le (by rw [HNK.out]; omega), List.drop_of_length_le (by rw [HNK2.out]; omega), smL]; rfl
          go_wp2
          go_ret
          exact ⟨ret_bool HX.out.symm, hbw⟩

end Go.Proofs.Ytlhkpkjcecjomaa
