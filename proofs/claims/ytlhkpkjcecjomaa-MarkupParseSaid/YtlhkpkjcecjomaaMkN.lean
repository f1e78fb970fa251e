/-
  Layer 33 (markup): Text, the chapter's.
-/
import Derived.Test.YtlhkpkjcecjomaaMkM
import Derived.Test.YtlhkpkjcecjomaaMkL
import Derived.Test.YtlhkpkjcecjomaaMkJ
namespace Go.Proofs.Ytlhkpkjcecjomaa
open Go.RowKit
set_option linter.unusedVariables false
set_option linter.unusedSimpArgs false
attribute [local go_sem] B_data B_size
attribute [local go_sem ↓] Go.wp_at_zero Go.wp_at_succ

/-- what is known while memory is made: from the world w on, and since the world W0 -/
structure KI (w W0 : World) (W : World) : Prop where
  b : Below w.heap.size w W
  kp : ∀ (k : Nat) (o : Obj), W0.heap[k]? = some o → W.heap[k]? = some o
theorem KI.step {w W0 W w' : World} (h : KI w W0 W) (hb : Below W.heap.size W w') : KI w W0 w' :=
  ⟨h.b.trans (hb.mono h.b.size), fun k o ho => by
    have := h.kp k o ho
    exact (hb.block k (Array.getElem?_eq_some_iff.1 this).1).trans this⟩
theorem KI.cell {w W0 W : World} (h : KI w W0 W) {p : Addr} {v : Value} (hc : W0.cell? p = some v) : W.cell? p = some v := by
  have hlt := World.block_lt_of_cell? W0 _ hc
  have e := h.kp p.block W0.heap[p.block] (Array.getElem?_eq_getElem hlt)
  have e2 : W.heap[p.block]? = W0.heap[p.block]? := by rw [e, Array.getElem?_eq_getElem hlt]
  unfold World.cell? at hc ⊢
  rw [e2]; exact hc
set_option maxHeartbeats 8000000 in
set_option maxRecDepth 100000 in
theorem rmarkup_any : ∀ (n : Nd) (c : NC) (w : World), NdB w w.heap.size n c → okN 1000000000 n → szN n ≤ 1000000000 →
    Calls Try.prog 30 #[.agg #[.string (B c.nm), .string (B c.tx), .slice c.A c.na c.ca, .slice c.K c.nk c.ck]] w (SPost (mku n) w) := by
  refine Nd.ind ?_
  intro nm tx ats ks IH c w h hok hsz
  obtain ⟨e1, e2, hA, cs, hK, hkc, hks⟩ := h.parts
  obtain ⟨o1, o2, o3, o4, o5, o6⟩ := hok.parts
  obtain ⟨nm', tx', A, na, ca, K, nk, ck⟩ := c
  have e1 : nm' = nm := e1
  have e2 : tx' = tx := e2
  subst e1 e2
  have hA : Rd w w.heap.size 2 A na (ats.flatMap prF) := hA
  have hK : Rd w w.heap.size 4 K nk (cs.flatMap NC.cells) := hK
  have hna : ats.length = na := hA.count prF 2 prF_len (by omega)
  have hnk : cs.length = nk := hK.count NC.cells 4 NC.cells_len (by omega)
  rw [hna] at o3
  rw [hkc, hnk] at o4
  have HNA := Lib.hid hna
  have HNK := Lib.hid (hkc.trans hnk)
  rw [szN] at hsz
  have hel := esc_len6 tx'
  have HE : Hid (mku (.mk nm' tx' ats ks) = if nm' = [] then esc tx' else if emptyB nm' = true then [60] ++ nm' ++ mkAs ats ++ [47, 62] else [60] ++ nm' ++ mkAs ats ++ [62] ++ mkuL ks ++ [60, 47] ++ nm' ++ [62]) := by rw [mku]; rfl
  have HKS := Lib.hid hks
  have HIH := Lib.hid IH
  have HOK := Lib.hid o6
  have HO5 := Lib.hid o5
  have HML := Lib.hid (fun j => mkAs_le ats j)
  have HKL := Lib.hid (fun j => mkuL_sz ks j)
  have HKM := Lib.hid (fun k (hk : k ∈ ks) => szL_mem hk)
  have HB := Bx.new w ⟨nm', tx', A, na, ca, K, nk, ck⟩
  have hbW := below_alloc w (.cells #[.string (B nm'), .string (B tx'), .slice A na ca, .slice K nk ck] 25)
  clear hna hkc hnk hks IH h hok o5 o6
  by_cases h0 : nm' = []
  · subst h0
    have HX : Hid (mku (.mk [] tx' ats ks) = esc tx') := by rw [HE.out, if_pos rfl]; rfl
    clear HE
    go_enter Try.func30, Try.ntmps30
    go_wp2_with fail
    refine (rescape_any (B tx') _ (by rw [B_size]; omega)).mono ?_
    rintro e w1 ⟨rfl, hb1⟩
    rw [B_data, ← HX.out]
    go_wp2
    go_ret
    exact ⟨rfl, hbW.trans (hb1.mono hbW.size)⟩
  have n1 : (nm' == []) = false := by simpa using h0
  have n2 : nm'.isEmpty = false := by simpa using h0
  have HE2 : Hid (mku (.mk nm' tx' ats ks) = if emptyB nm' = true then [60] ++ nm' ++ mkAs ats ++ [47, 62] else [60] ++ nm' ++ mkAs ats ++ [62] ++ mkuL ks ++ [60, 47] ++ nm' ++ [62]) := by rw [HE.out, if_neg h0]; rfl
  clear HE h0
  obtain ⟨Z0, eZ0, lZ0, qZ0⟩ := cat_step [60] nm' ⟨#[60]⟩ (B nm') rfl rfl (by simp only [List.length]; omega)
  have HZ0 := Lib.hid eZ0
  simp only [List.length_cons, List.length_nil] at lZ0
  have lZ0' : Z0.length ≤ 1 + nm'.length := by omega
  clear eZ0 lZ0
  go_enter Try.func30, Try.ntmps30
  go_wp2
  generalize w.alloc (.cells #[.string (B nm'), .string (B tx'), .slice A na ca, .slice K nk ck] 25) = W at *
  clear qZ0
  go_loopw [3, 4] (fun s i wr => ∃ j : Nat, j ≤ na ∧ i = .int .i64 j ∧ s = .string (B (Z0 ++ mkAs (ats.take j))) ∧ Below w.heap.size w wr ∧ Bx wr w.heap.size ⟨nm', tx', A, na, ca, K, nk, ck⟩) (fun _ i _ => na - (intOf i).toNat)
  case atStart => exact ⟨0, Nat.zero_le _, rfl, by simp [mkAs], hbW, HB⟩
  case round =>
    obtain ⟨j, hj, rfl, rfl, hbw, HBw⟩ := hrel
    have hws := HBw.lt
    have hbs := hbw.size
    have hml := HML.out j
    have b2 := HBw.c2
    by_cases hlt : j < na
    · obtain ⟨p, hp⟩ := get_of (l := ats) (k := j) (by rw [HNA.out]; exact hlt)
      obtain ⟨bb, o, rfl, hbm, hcell⟩ := (hA.below hbw).elem prF 2 prF_len (by omega) hp
      have hpl := HO5.out p (List.mem_of_getElem? hp)
      have HT := Lib.hid (mkAs_take hp)
      have hml2 := HML.out (j + 1)
      obtain ⟨k, v⟩ := p
      obtain ⟨hp1, hp2⟩ := hpl
      have hp1 : k.length ≤ 1000000000 := hp1
      have hp2 : v.length ≤ 1000000000 := hp2
      have hel2 := esc_len6 v
      have c0 : wr.cell? ⟨bb, o + j * 2, none⟩ = some (.string (B k)) := hcell 0 _ rfl
      have c1 : wr.cell? ⟨bb, o + j * 2 + 1, none⟩ = some (.string (B v)) := hcell 1 _ rfl
      have hll : (Z0 ++ mkAs (ats.take j)).length ≤ 2000000000 := by rw [List.length_append]; omega
      have HT2 : Hid (Z0 ++ mkAs (ats.take j) ++ ([32] ++ k ++ [61, 34] ++ esc v ++ [34]) = Z0 ++ mkAs (ats.take (j + 1))) := by rw [HT.out, List.append_assoc]; rfl
      clear hcell HT
      generalize Z0 ++ mkAs (ats.take j) = L2 at *
      generalize hev : esc v = ev at *
      have HEV := Lib.hid hev
      clear hev
      obtain ⟨Z1, eZ1, lZ1, qZ1⟩ := cat_step L2 [32] (B L2) ⟨#[32]⟩ rfl rfl (by simp only [List.length]; omega)
      simp only [List.length_cons, List.length_nil] at lZ1
      obtain ⟨Z2, eZ2, lZ2, qZ2⟩ := cat_step Z1 k (B Z1) (B k) rfl rfl (by omega)
      obtain ⟨Z3, eZ3, lZ3, qZ3⟩ := cat_step Z2 [61, 34] (B Z2) ⟨#[61, 34]⟩ rfl rfl (by simp only [List.length]; omega)
      simp only [List.length_cons, List.length_nil] at lZ3
      obtain ⟨Z4, eZ4, lZ4, qZ4⟩ := cat_step Z3 ev (B Z3) (B ev) rfl rfl (by omega)
      obtain ⟨Z5, eZ5, lZ5, qZ5⟩ := cat_step Z4 [34] (B Z4) ⟨#[34]⟩ rfl rfl (by simp only [List.length]; omega)
      have HZ : Hid (Z5 = Z0 ++ mkAs (ats.take (j + 1))) := by rw [← HT2.out, eZ5, eZ4, eZ3, eZ2, eZ1]; simp [Hid]
      have hD : KI w wr wr.drew := ⟨hbw.drew, fun _ _ h => h⟩
      have HK := Lib.hid (And.intro b2 (And.intro c0 c1))
      have HKB := Lib.hid HBw
      have i1 : (0 : Int) ≤ (j : Int) := by omega
      have i2 : (j : Int) < (na : Int) := by omega
      clear eZ1 eZ2 eZ3 eZ4 eZ5 lZ1 lZ2 lZ3 lZ4 lZ5 HT2 c0 c1 HBw hbw
      go_wp2
      clear b2
      go_region_held3 (fun w' => w'.cell? ⟨w.heap.size, 2, none⟩ = some (.slice (some ⟨bb, o, none⟩) na ca) ∧ w'.cell? ⟨bb, o + j * 2, none⟩ = some (.string (B k)) ∧ w'.cell? ⟨bb, o + j * 2 + 1, none⟩ = some (.string (B v)))
        (first | exact ⟨hD.cell HK.out.1, hD.cell HK.out.2.1, hD.cell HK.out.2.2⟩)
        (first
          | (go_at_call 24; refine (rescape_any (B v) _ (by rw [B_size]; omega)).mono ?_; rintro e w' ⟨rfl, hb⟩; rw [B_data, HEV.out]; have hD' := hD.step hb; clear hD hb; have hD := hD'; clear hD'))
      have hD1 := hD.b
      have hD3 : Bx _ w.heap.size ⟨nm', tx', some ⟨bb, o, none⟩, na, ca, K, nk, ck⟩ := hD.kp _ _ HKB.out
      clear hD qZ1 qZ2 qZ3 qZ4 qZ5
      go_wp2
      go_roundw
      case rel => exact ⟨j + 1, by omega, by go_num, by rw [HZ.out], hD1, hD3⟩
      case measure => simp [intOf]; omega
    · have HF : Hid (Z0 ++ mkAs (ats.take j) = Z0 ++ mkAs ats) := by rw [List.take_of_length_le (by rw [HNA.out]; omega)]; rfl
      have hlM : (Z0 ++ mkAs ats).length ≤ 1 + nm'.length + (mkAs ats).length := by rw [List.length_append]; omega
      rw [HF.out]
      have b0 := HBw.c0
      have b3 := HBw.c3
      cases hem : emptyB nm'
      · have HX : Hid (mku (.mk nm' tx' ats ks) = Z0 ++ mkAs ats ++ [62] ++ mkuL ks ++ [60, 47] ++ nm' ++ [62]) := by rw [HE2.out, if_neg (by simp [hem]), HZ0.out]; rfl
        clear HE2 hml HF HZ0
        generalize Z0 ++ mkAs ats = L2 at *
        obtain ⟨Z1, eZ1, lZ1, qZ1⟩ := cat_step L2 [62] (B L2) ⟨#[62]⟩ rfl rfl (by simp only [List.length]; omega)
        simp only [List.length_cons, List.length_nil] at lZ1
        rw [← eZ1] at HX
        have lZ1' : Z1.length ≤ 2 + nm'.length + (mkAs ats).length := by omega
        clear eZ1 lZ1
        go_wp2_with fail
        refine (rEmpty_any (B nm') _).mono ?_
        rintro e w2 ⟨rfl, rfl⟩
        rw [B_data, hem]
        go_wp2
        rename World => wo
        clear qZ1
        go_loopw [3, 5] (fun s i wr => ∃ j : Nat, j ≤ nk ∧ i = .int .i64 j ∧ s = .string (B (Z1 ++ mkuL (ks.take j))) ∧ Below w.heap.size w wr ∧ Bx wr w.heap.size ⟨nm', tx', A, na, ca, K, nk, ck⟩) (fun _ i _ => nk - (intOf i).toNat)
        case atStart => exact ⟨0, Nat.zero_le _, rfl, by simp [mkuL], hbw, HBw⟩
        case round =>
          obtain ⟨t, ht, rfl, rfl, hbw, HBw⟩ := hrel
          have hws := HBw.lt
          have hbs := hbw.size
          have hkl := HKL.out t
          have b0 := HBw.c0
          have b3 := HBw.c3
          by_cases hlt2 : t < nk
          · obtain ⟨kd, hkd⟩ := get_of (l := ks) (k := t) (by rw [HNK.out]; exact hlt2)
            obtain ⟨kc, hkc, hkn⟩ := HKS.out t kd hkd
            obtain ⟨bb, o, rfl, hbm, hcell⟩ := (hK.below hbw).elem NC.cells 4 NC.cells_len (by omega) hkc
            have HT := Lib.hid (mkuL_take hkd)
            have hmm := List.mem_of_getElem? hkd
            have hksz := HKM.out kd hmm
            have hmk := mku_sz kd
            have g0 : wr.cell? ⟨bb, o + t * 4, none⟩ = some (.string (B kc.nm)) := hcell 0 _ rfl
            have g1 : wr.cell? ⟨bb, o + t * 4 + 1, none⟩ = some (.string (B kc.tx)) := hcell 1 _ rfl
            have g2 : wr.cell? ⟨bb, o + t * 4 + 2, none⟩ = some (.slice kc.A kc.na kc.ca) := hcell 2 _ rfl
            have g3 : wr.cell? ⟨bb, o + t * 4 + 3, none⟩ = some (.slice kc.K kc.nk kc.ck) := hcell 3 _ rfl
            have hkB := (hkn.below hbw).more hbs
            have C := Lib.hid (HIH.out kd hmm kc wr hkB (HOK.out kd hmm) (by omega))
            have hll : (Z1 ++ mkuL (ks.take t)).length ≤ 4000000000 := by rw [List.length_append]; omega
            have HT2 : Hid (Z1 ++ mkuL (ks.take t) ++ mku kd = Z1 ++ mkuL (ks.take (t + 1))) := by rw [HT.out]; simp [Hid]
            clear hcell hkB HT
            generalize Z1 ++ mkuL (ks.take t) = L3 at *
            obtain ⟨Z5, eZ5, lZ5, qZ5⟩ := cat_step L3 (mku kd) (B L3) (B (mku kd)) rfl rfl (by omega)
            have HZ : Hid (Z5 = Z1 ++ mkuL (ks.take (t + 1))) := by rw [← HT2.out, eZ5]; rfl
            clear eZ5 lZ5 HT2
            go_wp2_with fail
            refine C.out.mono ?_
            rintro e w5 ⟨rfl, hb5⟩
            have hB6 := hbw.trans (hb5.mono hbs)
            have HB6 := HBw.below hb5 HBw.lt
            clear C
            go_wp2
            go_roundw
            case rel => exact ⟨t + 1, by omega, by go_num, by rw [HZ.out], hB6, HB6⟩
            case measure => simp [intOf]; omega
          · have HF2 : Hid (Z1 ++ mkuL (ks.take t) = Z1 ++ mkuL ks) := by rw [List.take_of_length_le (by rw [HNK.out]; omega)]; rfl
            have hkl2 := HKL.out nk
            rw [List.take_of_length_le (by rw [HNK.out]; omega)] at hkl2
            have hll : (Z1 ++ mkuL ks).length ≤ 4000000000 := by rw [List.length_append]; omega
            rw [HF2.out]
            generalize Z1 ++ mkuL ks = L3 at *
            obtain ⟨Z2, eZ2, lZ2, qZ2⟩ := cat_step L3 [60, 47] (B L3) ⟨#[60, 47]⟩ rfl rfl (by simp only [List.length]; omega)
            simp only [List.length_cons, List.length_nil] at lZ2
            obtain ⟨Z3, eZ3, lZ3, qZ3⟩ := cat_step Z2 nm' (B Z2) (B nm') rfl rfl (by omega)
            obtain ⟨Z4, eZ4, lZ4, qZ4⟩ := cat_step Z3 [62] (B Z3) ⟨#[62]⟩ rfl rfl (by simp only [List.length]; omega)
            have HZ : Hid (Z4 = mku (.mk nm' tx' ats ks)) := by rw [HX.out, eZ4, eZ3, eZ2]; rfl
            clear eZ2 eZ3 eZ4 lZ2 lZ3 lZ4 HX HF2
            go_wp2
            go_ret
            exact ⟨ret_str (congrArg B HZ.out), hbw⟩
      · have HX : Hid (mku (.mk nm' tx' ats ks) = Z0 ++ mkAs ats ++ [47, 62]) := by rw [HE2.out, if_pos hem, HZ0.out]; rfl
        clear HE2 hml HF HZ0
        generalize Z0 ++ mkAs ats = L2 at *
        obtain ⟨Z1, eZ1, lZ1, qZ1⟩ := cat_step L2 [47, 62] (B L2) ⟨#[47, 62]⟩ rfl rfl (by simp only [List.length]; omega)
        rw [← eZ1] at HX
        clear eZ1 lZ1
        go_wp2_with fail
        refine (rEmpty_any (B nm') _).mono ?_
        rintro e w2 ⟨rfl, rfl⟩
        rw [B_data, hem]
        go_wp2
        go_ret
        exact ⟨ret_str (congrArg B HX.out.symm), hbw⟩
set_option maxHeartbeats 4000000 in
set_option maxRecDepth 100000 in
theorem rtext_any (n : Nd) (c : NC) (w : World) (h : NdB w w.heap.size n c) (hok : okN 1000000000 n) (hsz : szN n ≤ 1000000000) :
    Calls Try.prog 12 #[.agg #[.string (B c.nm), .string (B c.tx), .slice c.A c.na c.ca, .slice c.K c.nk c.ck]] w (TPost n w) := by
  have HB := Bx.new w c
  have hbW := below_alloc w (.cells #[.string (B c.nm), .string (B c.tx), .slice c.A c.na c.ca, .slice c.K c.nk c.ck] 25)
  have hW := (h.below hbW).more hbW.size
  have C := Lib.hid (rcheck_any n c _ hW hok)
  go_enter Try.func12, Try.ntmps12
  go_wp2_with fail
  refine C.out.mono ?_
  rintro e w1 ⟨rfl, hb1⟩
  have hB1 := hbW.trans (hb1.mono hbW.size)
  have HB1 := HB.below hb1 HB.lt
  have h1 := (h.below hB1).more hB1.size
  clear C HB hbW hW hb1
  by_cases hc : chk n = 0
  · have HR : Hid (Ending.returned (.tuple #[.string (B (mku n)), .int .i64 0]) = .returned (.tuple #[.string (B (if chk n = 0 then mku n else [])), .int .i64 (chk n)])) := by rw [if_pos hc, hc]; rfl
    rw [hc]
    clear hc
    have b0 := HB1.c0
    have b1 := HB1.c1
    have b2 := HB1.c2
    have b3 := HB1.c3
    have hlt1 := HB1.lt
    have C := Lib.hid (rmarkup_any n c w1 h1 hok hsz)
    go_wp2_with fail
    refine C.out.mono ?_
    rintro e w3 ⟨rfl, hb3⟩
    clear C
    go_wp2
    go_ret2
    exact ⟨HR.out, hB1.trans (hb3.mono hB1.size)⟩
  · have HR : Hid (Ending.returned (.tuple #[.string (B []), .int .i64 (chk n)]) = .returned (.tuple #[.string (B (if chk n = 0 then mku n else [])), .int .i64 (chk n)])) := by rw [if_neg hc]; rfl
    generalize hcg : chk n = x at *
    have z1 : (x != 0) = true := by simpa using hc
    have z2 : (x == 0) = false := by simpa using hc
    have HCG := Lib.hid hcg
    clear hc hcg
    go_wp2
    go_ret2
    refine ⟨?_, hB1⟩
    rw [HCG.out]
    exact HR.out
end Go.Proofs.Ytlhkpkjcecjomaa
