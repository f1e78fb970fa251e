/-
  Layer 44 (links), LinksDocs: the chapter's references that do not resolve; its Doc.
-/
import Derived.Test.YtejjidbodfoiiaaGreatDoorLdC
import Derived.Deep.CutBlock
import Derived.Deep.DeepCutAuto
namespace Go.Proofs.YtejjidbodfoiiaaGreatDoor
open Go.RowKit
set_option linter.unusedVariables false
set_option linter.unusedSimpArgs false
attribute [local go_sem] B_data B_size

theorem mem_addS_not {S : List Bs} {k : Bs} (h : k ∉ S) : addS S k = S ++ [k] := if_neg h
theorem mem_addS_in {S : List Bs} {k : Bs} (h : k ∈ S) : addS S k = S := if_pos h
/-- what an inline adds -/
def addI (ids notes S : List Bs) (x : In) : List Bs := (missI ids notes x).foldl addS S
theorem addAll_app (a b : List Bs) : addAll (a ++ b) = b.foldl addS (addAll a) := by unfold addAll; rw [List.foldl_append]
theorem addM_succ (ids notes : List Bs) (xs : List In) {j : Nat} (h : j < xs.length) : addAll ((xs.take (j + 1)).flatMap (missI ids notes)) = addI ids notes (addAll ((xs.take j).flatMap (missI ids notes))) xs[j] := by
  rw [flat_snoc _ h, addAll_app]; rfl
theorem addI_of {ids notes S : List Bs} {x : In} {n : Bs} (h : missI ids notes x = [n]) : addI ids notes S x = if n ∈ S then S else S ++ [n] := by
  unfold addI; rw [h]; rfl
theorem addI_none {ids notes S : List Bs} {x : In} (h : missI ids notes x = []) : addI ids notes S x = S := by
  unfold addI; rw [h]; rfl
structure MG (w : World) (mv : Value) (A : Option Addr) (n c : Nat) (ks : List Bk) (W : World) : Prop where
  b : Below w.heap.size w W
  q : w.heap.size < W.heap.size
  k0 : W.cell? ⟨w.heap.size, 0, none⟩ = some mv
  k1 : W.cell? ⟨w.heap.size, 1, none⟩ = some (.slice A n c)
  d : BsB W W.heap.size ks ⟨A, n, c⟩
theorem MG.step {w W W' : World} {mv : Value} {A : Option Addr} {n c : Nat} {ks : List Bk} (h : MG w mv A n c ks W) (hb : Below W.heap.size W W') : MG w mv A n c ks W' :=
  ⟨h.b.trans (hb.mono h.b.size), Nat.lt_of_lt_of_le h.q hb.size, (hb.cell (p := ⟨w.heap.size, 0, none⟩) h.q).trans h.k0, (hb.cell (p := ⟨w.heap.size, 1, none⟩) h.q).trans h.k1, (h.d.below hb).more hb.size⟩
theorem MG.made {w : World} {mv : Value} {A : Option Addr} {n c : Nat} {ks : List Bk} (hs : BsB w w.heap.size ks ⟨A, n, c⟩) : MG w mv A n c ks (w.alloc (.cells #[mv, .slice A n c] 30)) := by
  have hq := heap_alloc_new w (.cells #[mv, .slice A n c] 30)
  have b1 := below_alloc w (.cells #[mv, .slice A n c] 30)
  have hz : (w.alloc (.cells #[mv, .slice A n c] 30)).heap.size = w.heap.size + 1 := by simp
  have hs2 := (hs.below b1).more b1.size
  generalize w.alloc (.cells #[mv, .slice A n c] 30) = W at *
  exact ⟨b1, by omega, by simp [World.cell?, hq], by simp [World.cell?, hq], hs2⟩
theorem MG.drew {w W : World} {mv : Value} {A : Option Addr} {n c : Nat} {ks : List Bk} (h : MG w mv A n c ks W) : MG w mv A n c ks W.drew := h.step (Below.refl _ _).drew
set_option maxHeartbeats 8000000 in
set_option maxRecDepth 100000 in
theorem rmissing_any (ks : List Bk) (mv : Value) (A : Option Addr) (n c : Nat) (w : World) (hs : BsB w w.heap.size ks ⟨A, n, c⟩) (hl : (evL ks).length ≤ 1000000000) :
    Calls Tryz.prog 31 #[.agg #[mv, .slice A n c]] w (OPost (missN ks) w) := by
  have hG0 : MG w mv A n c ks (w.alloc (.cells #[mv, .slice A n c] 30)) := MG.made hs
  have C1 := Lib.hid (fun V (hV : BsB V V.heap.size ks ⟨A, n, c⟩) => rnames_any ks mv A n c V hV hl)
  have C2 := Lib.hid (fun V (hV : BsB V V.heap.size ks ⟨A, n, c⟩) => rnotes_any ks mv A n c V hV hl)
  have C3 := Lib.hid (fun V (hV : BsB V V.heap.size ks ⟨A, n, c⟩) => inlines_any V.heap.size ks A n c V (Nat.le_refl _) hV hl)
  have h1l := Nat.le_trans (idsF_len ks) hl
  have h2l := Nat.le_trans (notesF_len ks) hl
  have h3l := Nat.le_trans (inls_len ks) hl
  have HM : Hid (missN ks = addAll ((inls (flL ks)).flatMap (missI (idsF (flL ks)) (notesF (flL ks))))) := by unfold missN missD; rw [missV_fl, idsV_fl, notesV_fl]; exact Lib.hid rfl
  generalize hI : idsF (flL ks) = ids at *
  generalize hN : notesF (flL ks) = nts at *
  generalize hX : inls (flL ks) = xs at *
  clear hI hN hX hs
  go_enter Tryz.func31, Tryz.ntmps31
  go_wp2_with fail
  generalize w.alloc (.cells #[mv, .slice A n c] 30) = W2 at *
  have hG := hG0.drew
  clear hG0
  go_region_held3 (fun w' => w'.cell? ⟨w.heap.size, 0, none⟩ = some mv ∧ w'.cell? ⟨w.heap.size, 1, none⟩ = some (.slice A n c)) (first | exact ⟨hG.k0, hG.k1⟩)
    (first
      | (go_at_call 57; refine (C1.out _ hG.d).mono ?_; intro e w' hP; obtain ⟨AN, cN, rfl, hrN, hb⟩ := hP.lp; have hG' := hG.step hb; (try (have hrO' := (hrO.below hb).more hb.size; clear hrO; have hrO := hrO'; clear hrO')); clear hG hP hb; have hG := hG'; clear hG')
      | (go_at_call 58; refine (C2.out _ hG.d).mono ?_; intro e w' hP; obtain ⟨AO, cO, rfl, hrO, hb⟩ := hP.lp; have hG' := hG.step hb; (try (have hrN' := (hrN.below hb).more hb.size; clear hrN; have hrN := hrN'; clear hrN')); clear hG hP hb; have hG := hG'; clear hG'))
  have hs3 := hG.d
  have q1 := hG.k1
  go_wp2_with fail
  refine (C3.out _ hs3).mono ?_
  rintro e w3 ⟨v3, rfl, ⟨cs, hown3, hL3⟩, hb3⟩
  have hB3 := hG.b.trans (hb3.mono hG.b.size)
  have hs3 := hb3.size
  have hgq := hG.q
  have hrN3 := (hrN.below hb3).more hb3.size
  have hrO3 := (hrO.below hb3).more hb3.size
  obtain ⟨A3, c3, rb, rfl, hR3, hrb, hrl3⟩ := own_row hown3 w.heap.size (by omega)
  have hcn : cs.length = xs.length := (hR3.rd (M := rb + 1) (fun b hb => by omega)).count IC.cells 10 IC.cells_len (by omega)
  have HSL : Hid (∀ j, (addAll ((xs.take j).flatMap (missI ids nts))).length ≤ xs.length) := fun j => by
    refine Nat.le_trans (addAll_len _) ?_
    refine Nat.le_trans (flat_le _ _ _) ?_
    have key : ∀ l : List In, (l.flatMap (missI ids nts)).length ≤ l.length := fun l => by
      induction l with
      | nil => simp
      | cons a r ih => rw [List.flatMap_cons, List.length_append, List.length_cons]; have := missI_len ids nts a; omega
    exact key xs
  clear C1 C2 C3 hG hrN hrO hown3 hb3 q1
  generalize hT : w3.heap.size = t at *
  go_wp2
  go_loopw [3, 7] (fun fv i wr => ∃ (j : Nat), j ≤ xs.length ∧ i = .int .i64 j ∧ wr.ownsRow t 9 1 fv (addAll ((xs.take j).flatMap (missI ids nts))).length (strs (addAll ((xs.take j).flatMap (missI ids nts)))) ∧ Below t w3 wr ∧ t ≤ wr.heap.size) (fun _ i _ => xs.length - (intOf i).toNat)
  case atStart => exact ⟨0, Nat.zero_le _, rfl, ⟨rfl, .inl ⟨rfl, rfl⟩⟩, .refl _ _, by omega⟩
  case round =>
    obtain ⟨j, hj, rfl, hown, hb, htw⟩ := hrel
    by_cases hlt : j < xs.length
    · have hkj : xs[j]? = some xs[j] := List.getElem?_eq_getElem hlt
      have HT := Lib.hid (addM_succ ids nts xs hlt)
      have hsl := HSL.out j
      obtain ⟨x, hcj, hx⟩ := hL3.2 j _ hkj
      generalize xs[j] = z at *
      obtain ⟨bb, o, rfl, hbm, hcell⟩ := (hR3.rd (M := t) (fun b hb => by omega)).elem IC.cells 10 IC.cells_len (by omega) hcj
      obtain ⟨ek, et, ed, -⟩ := hx.nfs
      have d0 : wr.cell? ⟨bb, o + j * 10, none⟩ = some (.int .i64 x.k) := (hb.cell (p := ⟨bb, o + j * 10, none⟩) (by show bb < _; omega)).trans (hcell 0 _ rfl)
      have d1 : wr.cell? ⟨bb, o + j * 10 + 1, none⟩ = some (.string (B x.tx)) := (hb.cell (p := ⟨bb, o + j * 10 + 1, none⟩) (by show bb < _; omega)).trans (hcell 1 _ rfl)
      have d2 : wr.cell? ⟨bb, o + j * 10 + 2, none⟩ = some (.string (B x.ds)) := (hb.cell (p := ⟨bb, o + j * 10 + 2, none⟩) (by show bb < _; omega)).trans (hcell 2 _ rfl)
      rw [ek] at d0
      rw [et] at d1
      rw [ed] at d2
      have hds : z.ds.length ≤ 140737488355328 := by cases z; exact hx.ok _ (by simp [inT, In.ds])
      clear hcell ek et ed hx
      have hj1 : (j : Int) < (xs.length : Int) := by omega
      have hrNw := (hrN3.below hb).more htw
      have hrOw := (hrO3.below hb).more htw
      have HC1 := Lib.hid (fun s => rhas3_any ids AN ids.length cN s wr hrNw h1l)
      have HC2 := Lib.hid (fun s => rhas3_any nts AO nts.length cO s wr hrOw h2l)
      generalize hS : addAll ((xs.take j).flatMap (missI ids nts)) = S at *
      obtain ⟨A2, c2, rfl, hnc2⟩ := own_form hown
      clear hrNw hrOw
      go_upto_block 2 with fail
      go_cut [8, 9] from 17 to 85 (fun nv kv wx => ∃ (nm : Bs) (kn : Bool), nv = .string (B nm) ∧ kv = .bool kn ∧ missI ids nts z = (if kn then [] else [nm]) ∧ Below wr.heap.size wr wx)
      case first =>
        clear HT hown hrN3 hrO3 hb hS
        by_cases hk14 : z.k = 14
        · have e0 : (z.k == 14) = true := by simpa using hk14
          have HI : Hid (missI ids nts z = if decide (z.tx ∈ ids) = true then [] else [z.tx]) := by unfold missI; rw [if_pos hk14]; unfold unk; by_cases h : z.tx ∈ ids <;> simp [h, Hid]
          go_wp2_with fail
          refine (HC1.out z.tx).mono ?_
          rintro e w5 ⟨rfl, hb5⟩
          go_wp2
          go_meet
          case rel => exact ⟨_, _, rfl, rfl, HI.out, hb5⟩
        · have e0 : (z.k == 14) = false := by simpa using hk14
          by_cases hk12 : z.k = 12
          · have e1 : (z.k == 12) = true := by simpa using hk12
            have HI : Hid (missI ids nts z = if decide (z.tx ∈ nts) = true then [] else [z.tx]) := by unfold missI; rw [if_neg hk14, if_pos hk12]; unfold unk; by_cases h : z.tx ∈ nts <;> simp [h, Hid]
            clear hk14 hk12
            go_wp2_with fail
            refine (HC2.out z.tx).mono ?_
            rintro e w5 ⟨rfl, hb5⟩
            go_wp2
            go_meet
            case rel => exact ⟨_, _, rfl, rfl, HI.out, hb5⟩
          · have e1 : (z.k == 12) = false := by simpa using hk12
            by_cases hk9 : z.k = 9
            · have e2 : (z.k == 9) = true := by simpa using hk9
              have HI : Hid (missI ids nts z = if z.tx = [] ∧ z.ds.head? = some 35 then unk ids (z.ds.drop 1) else []) := by unfold missI; rw [if_neg hk14, if_neg hk12, if_pos hk9]; rfl
              clear hk14 hk12 hk9
              by_cases ht : z.tx = []
              · have HT0 := Lib.hid ht
                have n1 : (z.tx == []) = true := by simpa using ht
                have n2 : z.tx.isEmpty = true := by rw [ht]; rfl
                rw [ht] at d1
                cases hd : z.ds with
                | nil =>
                  have HI2 : Hid (missI ids nts z = []) := by rw [HI.out, hd]; simp [Hid]
                  rw [hd] at d2
                  clear hds hd HI ht
                  go_wp2
                  go_meet
                  case rel => exact ⟨_, true, rfl, rfl, HI2.out, .refl _ _⟩
                | cons d r =>
                  rw [hd] at d2 hds
                  rw [hd] at HI
                  have hsz : (B (d :: r)).size = r.length + 1 := by rw [B_size]; rfl
                  have hb0 : (B (d :: r))[0] = d := rfl
                  have hdl : (d :: r).length ≤ 140737488355328 := hds
                  rw [List.length_cons] at hdl
                  have n3 : ((d :: r) == []) = false := rfl
                  have n4 : (d :: r).isEmpty = false := rfl
                  have g0 : (0 : Int) < (r.length : Int) + 1 := by omega
                  clear hds hd
                  by_cases h35 : d = 35
                  · have HI2 : Hid (missI ids nts z = if decide (r ∈ ids) = true then [] else [r]) := by rw [HI.out, if_pos ⟨ht, by simp [h35]⟩]; unfold unk; by_cases h : r ∈ ids <;> simp [h, Hid]
                    have ex : (B (d :: r)).extract 1 (r.length + 1) = B r := by
                      rw [B_extract, toList_B']; simp
                    subst h35
                    have i1 : (1 : Int) ≤ (r.length : Int) + 1 := by omega
                    have i2 : ((r.length : Int) + 1).toNat = r.length + 1 := by omega
                    clear HI ht
                    go_wp2_with fail
                    refine (HC1.out r).mono ?_
                    rintro e w5 ⟨rfl, hb5⟩
                    go_wp2
                    go_meet
                    case rel => exact ⟨_, _, rfl, rfl, HI2.out, hb5⟩
                  · have HI2 : Hid (missI ids nts z = []) := by rw [HI.out, if_neg (by simp [h35])]; rfl
                    have d35 : ((d.toNat : Int) == 35) = false := by
                      rw [beq_eq_false_iff_ne]
                      intro e
                      exact h35 (UInt8.toNat_inj.1 (by have : d.toNat = 35 := by omega
                                                       rw [this]; rfl))
                    clear HI ht
                    go_wp2
                    go_meet
                    case rel => exact ⟨_, true, rfl, rfl, HI2.out, .refl _ _⟩
              · have n1 : (z.tx == []) = false := by simpa using ht
                have n2 : z.tx.isEmpty = false := by simpa using ht
                have HI2 : Hid (missI ids nts z = []) := by rw [HI.out, if_neg (fun e => ht e.1)]; rfl
                clear HI ht
                go_wp2
                go_meet
                case rel => exact ⟨_, true, rfl, rfl, HI2.out, .refl _ _⟩
            · have e2 : (z.k == 9) = false := by simpa using hk9
              have HI2 : Hid (missI ids nts z = []) := by unfold missI; rw [if_neg hk14, if_neg hk12, if_neg hk9]; rfl
              clear hk14 hk12 hk9
              go_wp2
              go_meet
              case rel => exact ⟨_, true, rfl, rfl, HI2.out, .refl _ _⟩
      case rest =>
        obtain ⟨nm, kn, rfl, rfl, hmi, hbx⟩ := hcut
        have HMI := Lib.hid hmi
        have hsx := hbx.size
        have hBx := hb.trans (hbx.mono htw)
        have hownx := own_below hown hbx
        clear hmi HC1 HC2 d0 d1 d2 hown hds
        cases kn
        · have HA : Hid (addAll ((xs.take (j + 1)).flatMap (missI ids nts)) = if nm ∈ S then S else S ++ [nm]) := by rw [HT.out, addI_of (n := nm) HMI.out]; exact Lib.hid rfl
          have HH := Lib.hid (rhas3_any S A2 S.length c2 nm wc (Rd.of_own hownx) (by omega))
          clear HT HMI
          go_wp2_with fail
          refine HH.out.mono ?_
          rintro e w6 ⟨rfl, hb6⟩
          have hs6 := hb6.size
          have hB6 := hBx.trans (hb6.mono (by omega))
          have hown6 := own_below hownx hb6
          clear HH hownx
          by_cases hin : nm ∈ S
          · have n1 : decide (nm ∈ S) = true := decide_eq_true hin
            have HA2 : Hid (addAll ((xs.take (j + 1)).flatMap (missI ids nts)) = S) := by rw [HA.out, if_pos hin]; exact Lib.hid rfl
            clear HA hin
            rw [n1]
            go_wp2
            go_roundw
            case rel => exact ⟨j + 1, by omega, by go_num, by rw [HA2.out]; exact hown6, hB6, by omega⟩
            case measure => simp [intOf]; omega
          · have n1 : decide (nm ∈ S) = false := decide_eq_false hin
            have HA2 : Hid (addAll ((xs.take (j + 1)).flatMap (missI ids nts)) = S ++ [nm]) := by rw [HA.out, if_neg hin]; exact Lib.hid rfl
            clear HA hin
            rw [n1]
            go_wp2_with (at_builtin; (refine wpList_app2 rfl (.tmp 82) (.tmp 84) 25 rfl 9 (.string ⟨#[]⟩) 1 16 Tryz.underlying25 Tryz.info9 rfl (by omega) w6 [.string (B nm)] rfl (by simp; rfl) t (.slice A2 S.length c2) S.length (strs S) hown6 rfl rfl (by omega) (by omega) (by omega) ?_))
            intro v' w8 hown8 hgr hb8 hat
            have e1 : strs S ++ [.string (B nm)] = strs (S ++ [nm]) := strs_snoc S nm
            have e2 : S.length + 1 = (S ++ [nm]).length := by simp
            rw [e1, e2, ← HA2.out] at hown8
            have hs8 := hgr.size
            have hB8 := hB6.trans (hb8.mono (by omega))
            clear hgr hb8 hat hown6
            go_wp2
            go_roundw
            case rel => exact ⟨j + 1, by omega, by go_num, hown8, hB8, by omega⟩
            case measure => simp [intOf]; omega
        · have HA2 : Hid (addAll ((xs.take (j + 1)).flatMap (missI ids nts)) = S) := by rw [HT.out, addI_none HMI.out]; exact Lib.hid rfl
          clear HT HMI
          go_wp2
          go_roundw
          case rel => exact ⟨j + 1, by omega, by go_num, by rw [HA2.out]; exact hownx, hBx, by omega⟩
          case measure => simp [intOf]; omega
    · rw [List.take_of_length_le (by omega), ← HM.out] at hown
      have hj1 : ¬ (j : Int) < (xs.length : Int) := by omega
      go_wp2
      go_ret
      exact ⟨_, rfl, own_mono hown (by omega), hB3.trans (hb.mono (by omega))⟩
set_option maxHeartbeats 4000000 in
set_option maxRecDepth 100000 in
theorem rdoc_any (ks : List Bk) (mv : Value) (A : Option Addr) (n c : Nat) (w : World) (hs : BsB w w.heap.size ks ⟨A, n, c⟩) (hn : (evL ks).length ≤ 1000000000) :
    Calls Tryz.prog 15 #[.agg #[mv, .slice A n c]] w (FPost (docF ks) w) := by
  have b1 := below_alloc w (.cells #[mv, .slice A n c] 30)
  have s1 : (w.alloc (.cells #[mv, .slice A n c] 30)).heap.size = w.heap.size + 1 := by simp
  have hs2 := (hs.below b1).more b1.size
  have HMs := Lib.hid (fun V (hV : BsB V V.heap.size ks ⟨A, n, c⟩) => rmissing_any ks mv A n c V hV hn)
  have hml := Nat.le_trans (Nat.le_trans (addAll_len (missD ks)) (missD_len ks)) hn
  have hml : (missN ks).length ≤ 1000000000 := hml
  go_enter Tryz.func15, Tryz.ntmps15
  go_wp2_with fail
  generalize w.alloc (.cells #[mv, .slice A n c] 30) = W2 at *
  refine (HMs.out _ hs2).mono ?_
  intro e w1 hP
  obtain ⟨A5, c5, rb, rfl, hR5, hrb, hrl5, hb5⟩ := hP.row w.heap.size (by omega)
  have hB1 := b1.trans (hb5.mono (by omega))
  have HN : Hid (docF ks = (missN ks).map fun n => (refK, [], n)) := rfl
  have hs1 := hb5.size
  generalize missN ks = L at *
  clear HMs hP
  generalize hT : w1.heap.size = t at *
  go_wp2
  go_loopw [3, 5] (fun fv i wr => ∃ (j : Nat), j ≤ L.length ∧ i = .int .i64 j ∧ wr.ownsRow t 36 3 fv ((L.take j).map fun n => (refK, ([] : Bs), n)).length (ftV ((L.take j).map fun n => (refK, ([] : Bs), n))) ∧ Below w.heap.size w wr ∧ t ≤ wr.heap.size ∧ RdS wr (fun b => b = rb) 1 A5 L.length (strs L) ∧ (fv.ownBlock ≠ some rb ∧ rb < wr.heap.size)) (fun _ i _ => L.length - (intOf i).toNat)
  case atStart => exact ⟨0, Nat.zero_le _, rfl, ⟨rfl, .inl ⟨rfl, rfl⟩⟩, hB1, by omega, hR5, (fun (e : (none : Option Nat) = some rb) => nomatch e), by omega⟩
  case round =>
    clear hB1 hR5 hrl5
    obtain ⟨j, hj, rfl, hown, hb, htw, hR5, hno, hrl5⟩ := hrel
    by_cases hlt : j < L.length
    · have hx : L[j]? = some L[j] := List.getElem?_eq_getElem hlt
      obtain ⟨ad, e, hc⟩ := (hR5.rd (M := rb + 1) (fun b hb => by omega)).str hlt
      subst e
      rw [show L.getD j [] = L[j] by simp [List.getD, hx]] at hc
      have HT : Hid ((L.take (j + 1)).map (fun n => (refK, ([] : Bs), n)) = (L.take j).map (fun n => (refK, ([] : Bs), n)) ++ [(refK, [], L[j])]) := by rw [List.take_succ_eq_append_getElem hlt, List.map_append]; rfl
      have hal : ((L.take j).map fun n => (refK, ([] : Bs), n)).length ≤ L.length := by rw [List.length_map, List.length_take]; omega
      have hj1 : (j : Int) < (L.length : Int) := by omega
      generalize L[j] = x at *
      generalize (L.take j).map (fun n => (refK, ([] : Bs), n)) = V at *
      obtain ⟨A1, c1, rfl, hnc⟩ := own_form hown
      have hVl : V.length ≤ 1000000000 := by omega
      go_wp2_with (at_builtin; (refine wpList_app2 rfl (.tmp 14) (.tmp 20) 32 rfl 36 (.agg #[.string ⟨#[]⟩, .string ⟨#[]⟩, .string ⟨#[]⟩]) 3 48 Tryz.underlying32 Tryz.infoFault rfl (by omega) wr (ftC (refK, [], x)) rfl (by intro u hu; simp [ftC] at hu; rcases hu with rfl | rfl | rfl <;> rfl) t (.slice A1 V.length c1) V.length (ftV V) hown rfl rfl (by omega) (by omega) (by omega) ?_))
      intro v' w6 hown6 hgr hb6 hat
      have e1 : ftV V ++ ftC (refK, [], x) = ftV (V ++ [(refK, [], x)]) := ftV_snoc V _
      have e2 : V.length + 1 = (V ++ [(refK, ([] : Bs), x)]).length := by simp
      rw [e1, e2, ← HT.out] at hown6
      have hs6 := hgr.size
      have hB6 := hb.trans (hb6.mono (by omega))
      have hR6 : RdS w6 (fun b => b = rb) 1 (some ad) L.length (strs L) := hR5.keep fun b hb => by subst hb; exact hgr.block b (by omega) fun e => hno e.symm
      have hno6 : v'.ownBlock ≠ some rb := fun e => by
        rcases hat with h | h
        · exact hno (h ▸ e)
        · rw [h] at e
          injection e with e
          omega
      clear hgr hb6 hat hown hR5
      go_wp2
      go_roundw
      case rel => exact ⟨j + 1, by omega, by go_num, hown6, hB6, by omega, hR6, hno6, by omega⟩
      case measure => simp [intOf]; omega
    · rw [List.take_of_length_le (by omega), ← HN.out] at hown
      have hj1 : ¬ (j : Int) < (L.length : Int) := by omega
      obtain ⟨A1, c1, rfl, hnc⟩ := own_form hown
      have hR := Rd.of_own hown
      go_wp2
      go_ret
      exact ⟨A1, c1, rfl, hR, hb⟩
end Go.Proofs.YtejjidbodfoiiaaGreatDoor
