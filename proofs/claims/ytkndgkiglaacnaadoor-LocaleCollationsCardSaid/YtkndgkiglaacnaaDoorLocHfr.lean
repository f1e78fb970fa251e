/-
  Layer 28 (locale): the collation of fr.
-/
import Derived.Test.YtkndgkiglaacnaaDoorLocI
import Derived.Test.YtkndgkiglaacnaaDoorLocK
namespace Go.Proofs.YtkndgkiglaacnaaDoor
set_option linter.unusedSimpArgs false
open Go.RowKit
set_option linter.unusedVariables false
attribute [local go_sem] B_data B_size

/-- the rules, as they are written, and what they say -/
def rule_fr : List (List UInt8) := [[195, 160, 32, 97], [195, 162, 32, 97], [195, 167, 32, 99], [195, 168, 32, 101], [195, 169, 32, 101], [195, 170, 32, 101], [195, 171, 32, 101], [195, 174, 32, 105], [195, 175, 32, 105], [195, 180, 32, 111], [195, 185, 32, 117], [195, 187, 32, 117], [195, 188, 32, 117], [195, 128, 32, 97], [195, 130, 32, 97], [195, 135, 32, 99], [195, 136, 32, 101], [195, 137, 32, 101], [195, 138, 32, 101], [195, 139, 32, 101], [195, 142, 32, 105], [195, 143, 32, 105], [195, 148, 32, 111], [195, 153, 32, 117], [195, 155, 32, 117], [195, 156, 32, 117], [195, 166, 32, 97, 101], [197, 147, 32, 111, 101]]
def rank_fr : List (List UInt8 × List UInt8) := [([195, 160], [97]), ([195, 162], [97]), ([195, 167], [99]), ([195, 168], [101]), ([195, 169], [101]), ([195, 170], [101]), ([195, 171], [101]), ([195, 174], [105]), ([195, 175], [105]), ([195, 180], [111]), ([195, 185], [117]), ([195, 187], [117]), ([195, 188], [117]), ([195, 128], [97]), ([195, 130], [97]), ([195, 135], [99]), ([195, 136], [101]), ([195, 137], [101]), ([195, 138], [101]), ([195, 139], [101]), ([195, 142], [105]), ([195, 143], [105]), ([195, 148], [111]), ([195, 153], [117]), ([195, 155], [117]), ([195, 156], [117]), ([195, 166], [97, 101]), ([197, 147], [111, 101])]
def all_fr : List UInt8 := [195, 160, 32, 97, 44, 32, 195, 162, 32, 97, 44, 32, 195, 167, 32, 99, 44, 32, 195, 168, 32, 101, 44, 32, 195, 169, 32, 101, 44, 32, 195, 170, 32, 101, 44, 32, 195, 171, 32, 101, 44, 32, 195, 174, 32, 105, 44, 32, 195, 175, 32, 105, 44, 32, 195, 180, 32, 111, 44, 32, 195, 185, 32, 117, 44, 32, 195, 187, 32, 117, 44, 32, 195, 188, 32, 117, 44, 32, 195, 128, 32, 97, 44, 32, 195, 130, 32, 97, 44, 32, 195, 135, 32, 99, 44, 32, 195, 136, 32, 101, 44, 32, 195, 137, 32, 101, 44, 32, 195, 138, 32, 101, 44, 32, 195, 139, 32, 101, 44, 32, 195, 142, 32, 105, 44, 32, 195, 143, 32, 105, 44, 32, 195, 148, 32, 111, 44, 32, 195, 153, 32, 117, 44, 32, 195, 155, 32, 117, 44, 32, 195, 156, 32, 117, 44, 32, 195, 166, 32, 97, 101, 44, 32, 197, 147, 32, 111, 101]
theorem cut_fr : ∀ k, k < 28 → Lib.cut (rule_fr.getD k []) [32] = ((rank_fr.getD k ([], [])).1, (rank_fr.getD k ([], [])).2, true) ∧ (rule_fr.getD k []).length < 1000 := by decide +kernel
theorem rank_take_fr (k : Nat) (h : k < 28) : rank_fr.take k ++ [rank_fr.getD k ([], [])] = rank_fr.take (k + 1) := by
  have h : k < rank_fr.length := h
  rw [List.take_succ_eq_append_getElem h]; simp [h]
set_option maxRecDepth 100000 in
theorem split_fr (w : World) (hG : GlobL w) : Calls Tryd.prog 41 #[.string (B all_fr), .string ⟨#[44, 32]⟩] w fun e w' => e = .returned (.slice (some ⟨w.heap.size, 0, none⟩) 28 28) ∧ w.alloc (.cells (strs rule_fr).toArray 9) = w' := by
  obtain ⟨⟨m, hm⟩, _⟩ := hG
  have h := Tryd.strings_Split (B all_fr) ⟨#[44, 32]⟩ m w (by rw [B_size]; decide) hm (by decide)
  rw [show Lib.countB (B all_fr) ⟨#[44, 32]⟩ = 27 from by kernel_rfl, show Lib.splitB ⟨#[44, 32]⟩ 0 27 (B all_fr) = rule_fr.map B from by kernel_rfl] at h
  refine h.mono ?_
  rintro e w' ⟨rfl, rfl⟩
  exact ⟨rfl, by unfold strs; rw [List.map_map]; rfl⟩
theorem rule_cell_fr {w0 : World} {bk n : Nat} {L : List (List UInt8)} {v : Value} {m : Nat} {P : List (List UInt8 × List UInt8)} {vr : Value} {w : World} (h : CollR w0 bk (strs rule_fr).toArray n L v m P vr w) (k : Nat) (hk : k < 28) : w.cell? ⟨bk, k, none⟩ = some (.string (B (rule_fr.getD k []))) := by
  have hk : k < rule_fr.length := hk
  rw [cell_of_row _ bk k _ _ (0, 0) h.rules]
  unfold strs
  simp [hk]

set_option maxHeartbeats 4000000 in
set_option maxRecDepth 100000 in
theorem coll_fr (w : World) (hG : GlobL w) : Calls Tryd.prog 22 #[.string (B [102, 114])] w fun e w' => CollRet (digT ++ letK false 26) rank_fr e w' ∧ Below w.heap.size w w' := by
  have HS := Lib.hid (Coll.start w)
  go_enter Tryd.func22, Tryd.ntmps22
  go_wp2
  obtain ⟨W, hW⟩ : ∃ W, W = ((w.alloc (.cells #[nilS, nilS, .string ⟨#[]⟩] 42)).alloc (.cells #[nilS, nilS, .string ⟨#[]⟩] 42)) := ⟨_, rfl⟩
  change Code.wp _ _ _ _ ((w.alloc (.cells #[nilS, nilS, .string ⟨#[]⟩] 42)).alloc (.cells #[nilS, nilS, .string ⟨#[]⟩] 42))
  rw [← hW] at HS ⊢
  clear hW
  go_loopw [13] (fun i wr => ∃ (k : Nat) (v : Value), k ≤ 10 ∧ i = .int .i64 k ∧ Coll w k (digT.take k) v wr) (fun i _ => 10 - (intOf i).toNat)
  case atStart => exact ⟨0, _, by omega, rfl, HS.out⟩
  case round =>
    obtain ⟨k, v, hk, rfl, hc⟩ := hrel
    by_cases hlt : k < 10
    · have c1 := hc.1.cell1
      have z1 := hc.1.free 1
      have hcd : Coll w k (digT.take k) v wr.drew := hc.below (Below.refl _ _).drew
      have hG1 := hG.below hcd.2.2.2
      go_wp2
      go_region_law (first | (go_simp; go_at_call 32; refine (itoa_any k wr.drew (by omega) hG1).mono ?_; rintro e w2 ⟨rfl, hb2⟩; have hc2 := hcd.below hb2; have c2 := hc2.1.cell1; have c2a := (hc2.1.alloc (.cells #[.string (B (Lib.decDigits k))] 9)).cell1) | (refine step_app (by rfl) (.tmp 17) (.tmp 20) 33 (by rfl) 9 (.string ⟨#[]⟩) 1 16 Tryd.underlying33 Tryd.info9 rfl (by omega) w2 [.string (B (Lib.decDigits k))] rfl (by simp; rfl) (w.heap.size + 2) v _ _ hc2.2.1 (by rfl) (by rfl) (by omega) (by omega) hc2.1.lt ?_; intro g cap w3 ho3 hg3 hb3; have hc3 := Coll.store hc2 ho3 hg3; have c3 := (hc2.row hg3).cell1; have z3 := (hc2.row hg3).free 1; clear hc2 ho3 hg3 hb3 c2 c2a))
      all_goals
        rw [dig_at k hlt, ← take_getC digT k hlt] at hc3
        clear c1 z1 hcd hG1
        go_wp2
        go_roundw
        case rel => exact ⟨k + 1, _, by omega, by go_num, hc3⟩
        case measure => simp [intOf]; omega
    · obtain rfl : k = 10 := by omega
      rw [show ((10 : Nat) : Int) = 10 from rfl]
      rename World => wo
      go_wp2
      go_loopw [24] (fun i wr => ∃ (k n : Nat) (v : Value), k ≤ 26 ∧ n ≤ 11 + 2 * k ∧ i = .int .i64 k ∧ Coll w n (digT ++ letK false k) v wr) (fun i _ => 26 - (intOf i).toNat)
      case atStart => exact ⟨0, 10, _, by omega, by omega, rfl, by simpa [digT, letK] using hc⟩
      case round =>
        obtain ⟨k, n, v, hk, hn, rfl, hc⟩ := hrel
        by_cases hlt : k < 26
        · have c1 := hc.1.cell1
          have z1 := hc.1.free 1
          obtain ⟨w1, hcv, hc1⟩ := conv_letW k hlt wr hc
          go_wp2_with (refine wpList_app rfl (.tmp 31) (.tmp 38) 33 rfl 9 (.string ⟨#[]⟩) 1 16 Tryd.underlying33 Tryd.info9 rfl (by omega) w1 [.string (B (letL k))] rfl (by simp; rfl) (w.heap.size + 2) v n _ hc1.2.1 rfl rfl (by omega) (by omega) hc1.1.lt ?_)
          intro v2 w2 ho2 hg2 hb2
          obtain ⟨g, cap, rfl⟩ := own_some ho2
          have hc2 := Coll.store hc1 ho2 hg2
          have c2 := (hc1.row hg2).cell1
          have z2 := (hc1.row hg2).free 1
          clear hcv hc hc1 c1 z1 ho2 hg2 hb2
          have c3 := hc2.1.cell1
          have z3 := hc2.1.free 1
          have HK : Hid (digT ++ letK false k ++ [letL k] = digT ++ letK false (k + 1)) := by
            rw [letK, if_neg (fun e => by cases e.1)]; simp [Hid, letL]
          rw [HK.out] at hc2
          go_wp2
          go_roundw
          case rel => exact ⟨k + 1, _, _, by omega, by omega, by go_num, hc2⟩
          case measure => simp [intOf]; omega
        · obtain rfl : k = 26 := by omega
          rw [show ((26 : Nat) : Int) = 26 from rfl]
          have HSP := Lib.hid (split_fr wr (hG.below hc.2.2.2))
          go_wp2_with fail
          refine HSP.out.mono ?_
          rintro e ws ⟨rfl, hws⟩
          have hr0 := CollR.start hc (strs rule_fr).toArray
          rw [hws] at hr0
          have HR0 := Lib.hid hr0
          generalize wr.heap.size = bk at *
          clear hws HSP hr0 hc HS
          go_wp2
          go_loopw [64] (fun i wr => ∃ (k : Nat) (vr : Value), k ≤ 28 ∧ i = .int .i64 k ∧ CollR w bk (strs rule_fr).toArray n (digT ++ letK false 26) v k (rank_fr.take k) vr wr) (fun i _ => 28 - (intOf i).toNat)
          case atStart => exact ⟨0, _, by omega, rfl, HR0.out⟩
          case round =>
            obtain ⟨k, vr, hk, rfl, hc⟩ := hrel
            by_cases hlt : k < 28
            · have c1 := rule_cell_fr hc k hlt
              obtain ⟨hcut, hrl⟩ := cut_fr k hlt
              have HCUT := Lib.hid (cut_any _ _ _ wr (hG.below hc.b) hrl hcut)
              have HT := Lib.hid (rank_take_fr k hlt)
              clear hcut hrl
              generalize rule_fr.getD k [] = rl at *
              generalize rank_fr.getD k ([], []) = pr at *
              go_wp2_with fail
              refine HCUT.out.mono ?_
              rintro e w2 ⟨rfl, q, rfl⟩
              have hcd := hc.below (below_of_drewN wr.heap.size wr q)
              have d0 := hcd.c.cell0
              have z0 := hcd.c.free 0
              clear HCUT c1
              go_wp2_with (refine wpList_app rfl (.tmp 75) (.tmp 79) 40 rfl 68 (.agg #[.string ⟨#[]⟩, .string ⟨#[]⟩]) 2 32 Tryd.underlying40 Tryd.infoPair rfl (by omega) (wr.drewN q) [.string (B pr.1), .string (B pr.2)] rfl (by simp; exact ⟨rfl, rfl⟩) (bk + 1) vr k _ hcd.r rfl rfl (by omega) (by omega) hcd.bk_lt ?_)
              intro v3 w3 ho3 hg3 hb3
              obtain ⟨g3, cap3, rfl⟩ := own_some ho3
              have hc3 := CollR.store hcd ho3 hg3
              rw [HT.out] at hc3
              have d3 := (hcd.row hg3).cell0
              have z3 := (hcd.row hg3).free 0
              clear hc hcd d0 z0 ho3 hg3 hb3
              go_wp2
              go_roundw
              case rel => exact ⟨k + 1, _, by omega, by go_num, hc3⟩
              case measure => simp [intOf]; omega
            · obtain rfl : k = 28 := by omega
              rw [show ((28 : Nat) : Int) = 28 from rfl]
              have HT : Hid (rank_fr.take 28 = rank_fr) := rfl
              rw [HT.out] at hc
              obtain ⟨A1, cp1, rfl, _⟩ := own_form hc.o
              obtain ⟨A2, cp2, rfl, _⟩ := own_form hc.r
              have d0 := hc.c.cell0
              have d1 := hc.c.cell1
              have d2 := hc.c.cell2
              have r0 := hc.res.cell0
              have r1 := hc.res.cell1
              have r2 := hc.res.cell2
              have y0 := hc.res.free 0
              have y1 := hc.res.free 1
              have y2 := hc.res.free 2
              have hb := below_set3 hc.b (.slice A2 28 cp2) (.slice A1 n cp1) (.string ⟨#[]⟩)
              have HF := Lib.hid hc.finish
              have t0 := hc.res.set0 (.slice A2 28 cp2)
              have t1 := t0.set1 (.slice A1 n cp1)
              have t2 := t1.set2
              have k0 := t0.cell0
              have k1 := t1.cell1
              have k2 := t2.cell2
              have HK := Lib.hid (And.intro k0 (And.intro k1 k2))
              clear k0 k1 k2 t0 t1 t2
              go_wp2
              exact bodyPost_ret (v := .agg #[.slice A2 28 cp2, .slice A1 n cp1, .string ⟨#[]⟩]) (by simp [results, Tryd.results22, go_sem, HK.out.1, HK.out.2.1, HK.out.2.2]) rfl ⟨HF.out, hb⟩
end Go.Proofs.YtkndgkiglaacnaaDoor
