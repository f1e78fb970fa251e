/-
  Layer 28 (locale), the chapter's: Collation of fr. Printed by loct.py.
-/
import Derived.Test.YtkndgkiglaacnaaDoorLocT
import Derived.Test.YtkndgkiglaacnaaDoorLocHfr
namespace Go.Proofs.YtkndgkiglaacnaaDoor
open Go.RowKit
set_option linter.unusedVariables false
set_option linter.unusedSimpArgs false
attribute [local go_sem] B_data B_size

set_option maxHeartbeats 4000000 in
set_option maxRecDepth 100000 in
theorem rcoll_fr (w : World) : Calls Tryd.prog 24 #[.string (B [102, 114])] w fun e w' => CollRet (digT ++ letK false 26) rank_fr e w' ∧ Below w.heap.size w w' := by
  go_enter Tryd.func24, Tryd.ntmps24
  go_wp2_with fail
  have CI := fun W => rindex_any [102, 114] W
  rw [show ixL [102, 114] = 2 from rfl] at CI
  refine (CI _).mono ?_
  rintro e w1 ⟨rfl, hb1⟩
  have HS := Lib.hid (RC.start (hb1.mono (by simp)) (by simpa using hb1))
  clear hb1
  clear CI
  go_wp2
  obtain ⟨W, hW⟩ : ∃ W, W = w1.alloc (.cells #[nilS, nilS, .string ⟨#[]⟩] 42) := ⟨_, rfl⟩
  change Code.wp _ _ _ _ (w1.alloc (.cells #[nilS, nilS, .string ⟨#[]⟩] 42))
  rw [← hW] at HS ⊢
  clear hW
  generalize w1.heap.size = q at *
  go_loopw [5] (fun i wr => ∃ (k : Nat) (v : Value), k ≤ 10 ∧ i = .int .i64 k ∧ RC w q k (digT.take k) v wr) (fun i _ => 10 - (intOf i).toNat)
  case atStart => exact ⟨0, _, by omega, rfl, HS.out⟩
  case round =>
    obtain ⟨k, v, hk, rfl, hc⟩ := hrel
    by_cases hlt : k < 10
    · have c1 := hc.c.cell1
      have z1 := hc.c.free 1
      have hcd : RC w q k (digT.take k) v wr.drew := hc.below (Below.refl _ _).drew
      have hq := hc.c.lt
      go_wp2
      go_region_law (first | (go_simp; go_at_call 33; refine (num_any k wr.drew (by omega)).mono ?_; rintro e w2 ⟨rfl, rfl⟩) | (refine step_app (by rfl) (.tmp 16) (.tmp 19) 33 (by rfl) 9 (.string ⟨#[]⟩) 1 16 Tryd.underlying33 Tryd.info9 rfl (by omega) wr.drew [.string (B (Lib.decDigits k))] rfl (by simp; rfl) (q + 1) v _ _ hcd.o (by rfl) (by rfl) (by omega) (by omega) hcd.c.lt ?_; intro g cap w3 ho3 hg3 hb3; have hc3 := RC.store hcd ho3 hg3; have c3 := (hcd.row hg3).cell1; have z3 := (hcd.row hg3).free 1; clear ho3 hg3 hb3))
      all_goals
        rw [dig_at k hlt, ← take_getC digT k hlt] at hc3
        clear c1 z1 hcd
        go_wp2
        go_roundw
        case rel => exact ⟨k + 1, _, by omega, by go_num, hc3⟩
        case measure => simp [intOf]; omega
    · obtain rfl : k = 10 := by omega
      rw [show ((10 : Nat) : Int) = 10 from rfl]
      rename World => wo
      go_wp2
      obtain ⟨sT, hsT⟩ : ∃ s, s = (⟨#[97, 98, 99, 100, 101, 102, 103, 104, 105, 106, 107, 108, 109, 110, 111, 112, 113, 114, 115, 116, 117, 118, 119, 120, 121, 122]⟩ : ByteArray) := ⟨_, rfl⟩
      obtain ⟨cT, hcT⟩ : ∃ s, s = (⟨#[65, 66, 67, 68, 69, 70, 71, 72, 73, 74, 75, 76, 77, 78, 79, 80, 81, 82, 83, 84, 85, 86, 87, 88, 89, 90]⟩ : ByteArray) := ⟨_, rfl⟩
      rw [← hsT, ← hcT]
      have HLA := Lib.hid letters_at
      have zs : sT.size = 26 := by rw [hsT]; rfl
      have zc : cT.size = 26 := by rw [hcT]; rfl
      rw [show smallT = sT from hsT.symm, show capT = cT from hcT.symm] at HLA
      clear hsT hcT
      go_loopw [8] (fun i wr => ∃ (k n : Nat) (v : Value), k ≤ 26 ∧ n ≤ 11 + 2 * k ∧ i = .int .i64 k ∧ RC w q n (digT ++ letK false k) v wr) (fun i _ => 26 - (intOf i).toNat)
      case atStart => exact ⟨0, 10, _, by omega, by omega, rfl, by simpa [digT, letK] using hc⟩
      case round =>
        obtain ⟨k, n, v, hk, hn, rfl, hc⟩ := hrel
        by_cases hlt : k < 26
        · have c1 := hc.c.cell1
          have z1 := hc.c.free 1
          have hcd : RC w q n (digT ++ letK false k) v wr.drew := hc.below (Below.refl _ _).drew
          have hq := hc.c.lt
          have i6 : IntKind.i64.wrap ((k : Int) + 1) = (k : Int) + 1 := IntWalk.i64_in _ (by omega)
          obtain ⟨z1', z2', hL⟩ := HLA.out k hlt
          have hL : sT.extract k (k + 1) ++ cT.extract k (k + 1) = B (letL k) := ByteArray.ext hL
          have i1 : (0 : Int) ≤ (k : Int) + 1 := by omega
          have i2 : (k : Int) + 1 ≤ 26 := by omega
          have i3 : (0 : Int) ≤ (k : Int) := by omega
          have i4 : (k : Int) ≤ (k : Int) + 1 := by omega
          have i5 : ((k : Int) + 1).toNat = k + 1 := by omega
          go_wp2
          go_region_law (refine step_app (by rfl) (.tmp 27) (.tmp 39) 33 (by rfl) 9 (.string ⟨#[]⟩) 1 16 Tryd.underlying33 Tryd.info9 rfl (by omega) wr.drew [.string (B (letL k))] rfl (by simp; rfl) (q + 1) v _ _ hcd.o (by rfl) (by rfl) (by omega) (by omega) hcd.c.lt ?_; intro g cap w3 ho3 hg3 hb3; have hc3 := RC.store hcd ho3 hg3; have c3 := (hcd.row hg3).cell1; have z3 := (hcd.row hg3).free 1; clear ho3 hg3 hb3)
          all_goals
            have HK : Hid (digT ++ letK false k ++ [letL k] = digT ++ letK false (k + 1)) := by
              rw [letK, if_neg (fun e => by cases e.1)]; simp [Hid, letL]
            rw [HK.out] at hc3
            clear c1 z1 hcd
            go_wp2
            go_roundw
            case rel => exact ⟨k + 1, _, _, by omega, by omega, by go_num, hc3⟩
            case measure => simp [intOf]; omega
        · obtain rfl : k = 26 := by omega
          rw [show ((26 : Nat) : Int) = 26 from rfl]
          have HC := Lib.hid hc
          clear hc
          go_wp2_with fail
          refine (RC.rules HC.out _ rank_fr 56 28 rfl rfl rfl (by omega)).mono ?_
          rintro e w5 ⟨A5, cp5, rfl, HRR, b0, z0⟩
          clear HC
          go_upto_region 21 with fail
          generalize hw6 : w5.setCell ⟨q, 0, none⟩ (.slice A5 28 cp5) = w6 at HRR ⊢
          clear hw6
          clear b0 z0
          obtain ⟨A1, cp1, rfl, _⟩ := own_form HRR.o
          have hr := HRR.res
          have d0 := HRR.c.cell0
          have d1 := HRR.c.cell1
          have d2 := HRR.c.cell2
          have r0 := hr.cell0
          have r1 := hr.cell1
          have r2 := hr.cell2
          have y0 := hr.free 0
          have y1 := hr.free 1
          have y2 := hr.free 2
          have hb := below_set3 HRR.b (.slice A5 28 cp5) (.slice A1 n cp1) (.string ⟨#[]⟩)
          have HF := Lib.hid HRR.finish
          have t0 := hr.set0 (.slice A5 28 cp5)
          have t1 := t0.set1 (.slice A1 n cp1)
          have t2 := t1.set2
          have k0 := t0.cell0
          have k1 := t1.cell1
          have k2 := t2.cell2
          have HK := Lib.hid (And.intro k0 (And.intro k1 k2))
          clear k0 k1 k2 t0 t1 t2
          go_wp2
          exact bodyPost_ret (v := .agg #[.slice A5 28 cp5, .slice A1 n cp1, .string ⟨#[]⟩]) (by simp [results, Tryd.results24, go_sem, HK.out.1, HK.out.2.1, HK.out.2.2]) rfl ⟨HF.out, hb⟩
end Go.Proofs.YtkndgkiglaacnaaDoor
