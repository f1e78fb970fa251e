/-
  Layer 28 (locale): the collation of es.
-/
import Derived.Test.YtkndgkiglaacnaaDoorLocI
import Derived.Test.YtkndgkiglaacnaaDoorLocK
namespace Go.Proofs.YtkndgkiglaacnaaDoor
set_option linter.unusedSimpArgs false
open Go.RowKit
set_option linter.unusedVariables false
attribute [local go_sem] B_data B_size

/-- the rules, as they are written, and what they say -/
def rule_es : List (List UInt8) := [[195, 161, 32, 97], [195, 169, 32, 101], [195, 173, 32, 105], [195, 179, 32, 111], [195, 186, 32, 117], [195, 188, 32, 117], [195, 129, 32, 97], [195, 137, 32, 101], [195, 141, 32, 105], [195, 147, 32, 111], [195, 154, 32, 117], [195, 156, 32, 117]]
def rank_es : List (List UInt8 × List UInt8) := [([195, 161], [97]), ([195, 169], [101]), ([195, 173], [105]), ([195, 179], [111]), ([195, 186], [117]), ([195, 188], [117]), ([195, 129], [97]), ([195, 137], [101]), ([195, 141], [105]), ([195, 147], [111]), ([195, 154], [117]), ([195, 156], [117])]
def all_es : List UInt8 := [195, 161, 32, 97, 44, 32, 195, 169, 32, 101, 44, 32, 195, 173, 32, 105, 44, 32, 195, 179, 32, 111, 44, 32, 195, 186, 32, 117, 44, 32, 195, 188, 32, 117, 44, 32, 195, 129, 32, 97, 44, 32, 195, 137, 32, 101, 44, 32, 195, 141, 32, 105, 44, 32, 195, 147, 32, 111, 44, 32, 195, 154, 32, 117, 44, 32, 195, 156, 32, 117]
theorem cut_es : ∀ k, k < 12 → Lib.cut (rule_es.getD k []) [32] = ((rank_es.getD k ([], [])).1, (rank_es.getD k ([], [])).2, true) ∧ (rule_es.getD k []).length < 1000 := by decide +kernel
theorem rank_take_es (k : Nat) (h : k < 12) : rank_es.take k ++ [rank_es.getD k ([], [])] = rank_es.take (k + 1) := by
  have h : k < rank_es.length := h
  rw [List.take_succ_eq_append_getElem h]; simp [h]
theorem split_es (w : World) (hG : GlobL w) : Calls Tryd.prog 41 #[.string (B all_es), .string ⟨#[44, 32]⟩] w fun e w' => e = .returned (.slice (some ⟨w.heap.size, 0, none⟩) 12 12) ∧ w.alloc (.cells (strs rule_es).toArray 9) = w' := by
  obtain ⟨⟨m, hm⟩, _⟩ := hG
  have h := Tryd.strings_Split (B all_es) ⟨#[44, 32]⟩ m w (by rw [B_size]; decide) hm (by decide)
  rw [show Lib.countB (B all_es) ⟨#[44, 32]⟩ = 11 from by kernel_rfl, show Lib.splitB ⟨#[44, 32]⟩ 0 11 (B all_es) = rule_es.map B from by kernel_rfl] at h
  refine h.mono ?_
  rintro e w' ⟨rfl, rfl⟩
  exact ⟨rfl, by unfold strs; rw [List.map_map]; rfl⟩
theorem rule_cell_es {w0 : World} {bk n : Nat} {L : List (List UInt8)} {v : Value} {m : Nat} {P : List (List UInt8 × List UInt8)} {vr : Value} {w : World} (h : CollR w0 bk (strs rule_es).toArray n L v m P vr w) (k : Nat) (hk : k < 12) : w.cell? ⟨bk, k, none⟩ = some (.string (B (rule_es.getD k []))) := by
  have hk : k < rule_es.length := hk
  rw [cell_of_row _ bk k _ _ (0, 0) h.rules]
  unfold strs
  simp [hk]

set_option maxHeartbeats 4000000 in
set_option maxRecDepth 100000 in
theorem coll_es (w : World) (hG : GlobL w) : Calls Tryd.prog 22 #[.string (B [101, 115])] w fun e w' => CollRet (digT ++ letK true 26) rank_es e w' ∧ Below w.heap.size w w' := by
  have HS := Lib.hid (Coll.start w)
  go_enter Tryd.func22, Tryd.ntmps22
  go_wp2
  obtain ⟨W, hW⟩ : ∃ W, W = ((w.alloc (.cells #[nilS, nilS, .string ⟨#[]⟩] 42)).alloc (.cells #[nilS, nilS, .string ⟨#[]⟩] 42)) := ⟨_, rfl⟩
  change Code.wp _ _ _ _ ((w.alloc (.cells #[nilS, nilS, .string ⟨#[]⟩] 42)).alloc (.cells #[nilS, nilS, .string ⟨#[]⟩] 42))
  rw [← hW] at HS ⊢
  clear hW
  go_loopw [13] (fun i wr => ∃ (k : Nat) (v : Value), k ≤ 10 ∧ i = .int .i64 k ∧ Coll w k (digT.take k) v wr) (fun i _ => 10 - (intOf i).toNat)
  case atStart => exact ⟨0, _, by omega, rfl, HS.out⟩
  case round =>
    obtain ⟨k, v, hk, rfl, hc⟩ := hrel
    by_cases hlt : k < 10
    · have c1 := hc.1.cell1
      have z1 := hc.1.free 1
      have hcd : Coll w k (digT.take k) v wr.drew := hc.below (Below.refl _ _).drew
      have hG1 := hG.below hcd.2.2.2
      go_wp2
      go_region_law (first | (go_simp; go_at_call 32; refine (itoa_any k wr.drew (by omega) hG1).mono ?_; rintro e w2 ⟨rfl, hb2⟩; have hc2 := hcd.below hb2; have c2 := hc2.1.cell1; have c2a := (hc2.1.alloc (.cells #[.string (B (Lib.decDigits k))] 9)).cell1) | (refine step_app (by rfl) (.tmp 17) (.tmp 20) 33 (by rfl) 9 (.string ⟨#[]⟩) 1 16 Tryd.underlying33 Tryd.info9 rfl (by omega) w2 [.string (B (Lib.decDigits k))] rfl (by simp; rfl) (w.heap.size + 2) v _ _ hc2.2.1 (by rfl) (by rfl) (by omega) (by omega) hc2.1.lt ?_; intro g cap w3 ho3 hg3 hb3; have hc3 := Coll.store hc2 ho3 hg3; have c3 := (hc2.row hg3).cell1; have z3 := (hc2.row hg3).free 1; clear hc2 ho3 hg3 hb3 c2 c2a))
      all_goals
        rw [dig_at k hlt, ← take_getC digT k hlt] at hc3
        clear c1 z1 hcd hG1
        go_wp2
        go_roundw
        case rel => exact ⟨k + 1, _, by omega, by go_num, hc3⟩
        case measure => simp [intOf]; omega
    · obtain rfl : k = 10 := by omega
      rw [show ((10 : Nat) : Int) = 10 from rfl]
      rename World => wo
      go_wp2
      go_loopw [24] (fun i wr => ∃ (k n : Nat) (v : Value), k ≤ 26 ∧ n ≤ 11 + 2 * k ∧ i = .int .i64 k ∧ Coll w n (digT ++ letK true k) v wr) (fun i _ => 26 - (intOf i).toNat)
      case atStart => exact ⟨0, 10, _, by omega, by omega, rfl, by simpa [digT, letK] using hc⟩
      case round =>
        obtain ⟨k, n, v, hk, hn, rfl, hc⟩ := hrel
        by_cases hlt : k < 26
        · have c1 := hc.1.cell1
          have z1 := hc.1.free 1
          obtain ⟨w1, hcv, hc1⟩ := conv_letW k hlt wr hc
          go_wp2_with (refine wpList_app rfl (.tmp 31) (.tmp 38) 33 rfl 9 (.string ⟨#[]⟩) 1 16 Tryd.underlying33 Tryd.info9 rfl (by omega) w1 [.string (B (letL k))] rfl (by simp; rfl) (w.heap.size + 2) v n _ hc1.2.1 rfl rfl (by omega) (by omega) hc1.1.lt ?_)
          intro v2 w2 ho2 hg2 hb2
          obtain ⟨g, cap, rfl⟩ := own_some ho2
          have hc2 := Coll.store hc1 ho2 hg2
          have c2 := (hc1.row hg2).cell1
          have z2 := (hc1.row hg2).free 1
          clear hcv hc hc1 c1 z1 ho2 hg2 hb2
          have c3 := hc2.1.cell1
          have z3 := hc2.1.free 1
          by_cases h13 : k = 13
          · have e13 : ((97 : Int) + (k : Int) == 110) = true := by simp; omega
            have H13 := Lib.hid h13
            clear h13
            have hsz : w2.heap.size = (w2.setCell ⟨w.heap.size + 1, 1, none⟩ (.slice (some ⟨g, 0, none⟩) (n + 1) cap)).heap.size := by simp
            have HSZ := Lib.hid hsz
            clear hsz
            go_wp2_with (refine wpList_app rfl (.tmp 48) (.tmp 49) 33 rfl 9 (.string ⟨#[]⟩) 1 16 Tryd.underlying33 Tryd.info9 rfl (by omega) (w2.setCell ⟨w.heap.size + 1, 1, none⟩ (.slice (some ⟨g, 0, none⟩) (n + 1) cap)) [.string (B [195, 177, 195, 145])] rfl (by simp; rfl) (w.heap.size + 2) (.slice (some ⟨g, 0, none⟩) (n + 1) cap) (n + 1) _ hc2.2.1 rfl (congrArg (fun q => Value.slice (some ⟨q, 0, none⟩) 1 1) HSZ.out) (by omega) (by omega) hc2.1.lt ?_)
            intro v4 w4 ho4 hg4 hb4
            obtain ⟨g4, cap4, rfl⟩ := own_some ho4
            have hc4 := Coll.store hc2 ho4 hg4
            have c4 := (hc2.row hg4).cell1
            have z4 := (hc2.row hg4).free 1
            have HK : Hid (digT ++ letK true k ++ [letL k] ++ [[195, 177, 195, 145]] = digT ++ letK true (k + 1)) := by
              rw [letK, if_pos ⟨rfl, H13.out⟩]; simp [Hid, letL]
            rw [HK.out] at hc4
            clear hc2 c2 z2 c3 z3 ho4 hg4 hb4
            go_wp2
            go_roundw
            case rel => exact ⟨k + 1, _, _, by omega, by omega, by go_num, hc4⟩
            case measure => simp [intOf]; omega
          · have e13 : ((97 : Int) + (k : Int) == 110) = false := by simp; omega
            have HK : Hid (digT ++ letK true k ++ [letL k] = digT ++ letK true (k + 1)) := by
              rw [letK, if_neg (fun e => h13 e.2)]; simp [Hid, letL]
            rw [HK.out] at hc2
            clear h13
            go_wp2
            go_roundw
            case rel => exact ⟨k + 1, _, _, by omega, by omega, by go_num, hc2⟩
            case measure => simp [intOf]; omega
        · obtain rfl : k = 26 := by omega
          rw [show ((26 : Nat) : Int) = 26 from rfl]
          have HSP := Lib.hid (split_es wr (hG.below hc.2.2.2))
          go_wp2_with fail
          refine HSP.out.mono ?_
          rintro e ws ⟨rfl, hws⟩
          have hr0 := CollR.start hc (strs rule_es).toArray
          rw [hws] at hr0
          have HR0 := Lib.hid hr0
          generalize wr.heap.size = bk at *
          clear hws HSP hr0 hc HS
          go_wp2
          go_loopw [64] (fun i wr => ∃ (k : Nat) (vr : Value), k ≤ 12 ∧ i = .int .i64 k ∧ CollR w bk (strs rule_es).toArray n (digT ++ letK true 26) v k (rank_es.take k) vr wr) (fun i _ => 12 - (intOf i).toNat)
          case atStart => exact ⟨0, _, by omega, rfl, HR0.out⟩
          case round =>
            obtain ⟨k, vr, hk, rfl, hc⟩ := hrel
            by_cases hlt : k < 12
            · have c1 := rule_cell_es hc k hlt
              obtain ⟨hcut, hrl⟩ := cut_es k hlt
              have HCUT := Lib.hid (cut_any _ _ _ wr (hG.below hc.b) hrl hcut)
              have HT := Lib.hid (rank_take_es k hlt)
              clear hcut hrl
              generalize rule_es.getD k [] = rl at *
              generalize rank_es.getD k ([], []) = pr at *
              go_wp2_with fail
              refine HCUT.out.mono ?_
              rintro e w2 ⟨rfl, q, rfl⟩
              have hcd := hc.below (below_of_drewN wr.heap.size wr q)
              have d0 := hcd.c.cell0
              have z0 := hcd.c.free 0
              clear HCUT c1
              go_wp2_with (refine wpList_app rfl (.tmp 75) (.tmp 79) 40 rfl 68 (.agg #[.string ⟨#[]⟩, .string ⟨#[]⟩]) 2 32 Tryd.underlying40 Tryd.infoPair rfl (by omega) (wr.drewN q) [.string (B pr.1), .string (B pr.2)] rfl (by simp; exact ⟨rfl, rfl⟩) (bk + 1) vr k _ hcd.r rfl rfl (by omega) (by omega) hcd.bk_lt ?_)
              intro v3 w3 ho3 hg3 hb3
              obtain ⟨g3, cap3, rfl⟩ := own_some ho3
              have hc3 := CollR.store hcd ho3 hg3
              rw [HT.out] at hc3
              have d3 := (hcd.row hg3).cell0
              have z3 := (hcd.row hg3).free 0
              clear hc hcd d0 z0 ho3 hg3 hb3
              go_wp2
              go_roundw
              case rel => exact ⟨k + 1, _, by omega, by go_num, hc3⟩
              case measure => simp [intOf]; omega
            · obtain rfl : k = 12 := by omega
              rw [show ((12 : Nat) : Int) = 12 from rfl]
              have HT : Hid (rank_es.take 12 = rank_es) := rfl
              rw [HT.out] at hc
              obtain ⟨A1, cp1, rfl, _⟩ := own_form hc.o
              obtain ⟨A2, cp2, rfl, _⟩ := own_form hc.r
              have d0 := hc.c.cell0
              have d1 := hc.c.cell1
              have d2 := hc.c.cell2
              have r0 := hc.res.cell0
              have r1 := hc.res.cell1
              have r2 := hc.res.cell2
              have y0 := hc.res.free 0
              have y1 := hc.res.free 1
              have y2 := hc.res.free 2
              have hb := below_set3 hc.b (.slice A2 12 cp2) (.slice A1 n cp1) (.string ⟨#[]⟩)
              have HF := Lib.hid hc.finish
              have t0 := hc.res.set0 (.slice A2 12 cp2)
              have t1 := t0.set1 (.slice A1 n cp1)
              have t2 := t1.set2
              have k0 := t0.cell0
              have k1 := t1.cell1
              have k2 := t2.cell2
              have HK := Lib.hid (And.intro k0 (And.intro k1 k2))
              clear k0 k1 k2 t0 t1 t2
              go_wp2
              exact bodyPost_ret (v := .agg #[.slice A2 12 cp2, .slice A1 n cp1, .string ⟨#[]⟩]) (by simp [results, Tryd.results22, go_sem, HK.out.1, HK.out.2.1, HK.out.2.2]) rfl ⟨HF.out, hb⟩
end Go.Proofs.YtkndgkiglaacnaaDoor
