/-
  Layer 28 (locale): the collation of any other language. Printed by lochno.py.
-/
import Derived.Test.YtkndgkiglaacnaaDoorLocI
import Derived.Test.YtkndgkiglaacnaaDoorLocK
namespace Go.Proofs.YtkndgkiglaacnaaDoor
open Go.RowKit
set_option linter.unusedVariables false
set_option linter.unusedSimpArgs false
attribute [local go_sem] B_data B_size

theorem Coll.finish {w0 w : World} {n : Nat} {L : List (List UInt8)} {v : Value} (h : Coll w0 n L v w) : CollRet L [] (.returned (.agg #[nilS, v, .string ⟨#[]⟩])) (((w.setCell ⟨w0.heap.size, 0, none⟩ nilS).setCell ⟨w0.heap.size, 1, none⟩ v).setCell ⟨w0.heap.size, 2, none⟩ (.string ⟨#[]⟩)) := by
  obtain ⟨A, c, rfl, hc⟩ := own_form h.2.1
  have n1 : ∀ k, (Value.slice A n c).ownBlock = some k → k ≠ w0.heap.size := fun k hk => by have := (h.2.1.lt k hk).1; omega
  have o1 := ownsRow_setCell_other (ownsRow_setCell_other (ownsRow_setCell_other h.2.1 (a := ⟨w0.heap.size, 0, none⟩) (fun e => n1 _ e rfl) nilS) (a := ⟨w0.heap.size, 1, none⟩) (fun e => n1 _ e rfl) (.slice A n c)) (a := ⟨w0.heap.size, 2, none⟩) (fun e => n1 _ e rfl) (.string ⟨#[]⟩)
  exact ⟨A, n, c, none, 0, 0, rfl, Rd.of_own o1, Rd.nil⟩
set_option maxHeartbeats 4000000 in
set_option maxRecDepth 100000 in
theorem coll_no (l : List UInt8) (w : World) (hG : GlobL w) (e1 : (l == [100, 101]) = false) (e2 : (l == [102, 114]) = false) (e3 : (l == [101, 115]) = false) : Calls Tryd.prog 22 #[.string (B l)] w fun e w' => CollRet (digT ++ letK false 26) [] e w' ∧ Below w.heap.size w w' := by
  have HS := Lib.hid (Coll.start w)
  go_enter Tryd.func22, Tryd.ntmps22
  go_wp2
  obtain ⟨W, hW⟩ : ∃ W, W = ((w.alloc (.cells #[nilS, nilS, .string ⟨#[]⟩] 42)).alloc (.cells #[nilS, nilS, .string ⟨#[]⟩] 42)) := ⟨_, rfl⟩
  change Code.wp _ _ _ _ ((w.alloc (.cells #[nilS, nilS, .string ⟨#[]⟩] 42)).alloc (.cells #[nilS, nilS, .string ⟨#[]⟩] 42))
  rw [← hW] at HS ⊢
  clear hW
  go_loopw [13] (fun i wr => ∃ (k : Nat) (v : Value), k ≤ 10 ∧ i = .int .i64 k ∧ Coll w k (digT.take k) v wr) (fun i _ => 10 - (intOf i).toNat)
  case atStart => exact ⟨0, _, by omega, rfl, HS.out⟩
  case round =>
    obtain ⟨k, v, hk, rfl, hc⟩ := hrel
    by_cases hlt : k < 10
    · have c1 := hc.1.cell1
      have z1 := hc.1.free 1
      have hcd : Coll w k (digT.take k) v wr.drew := hc.below (Below.refl _ _).drew
      have hG1 := hG.below hcd.2.2.2
      go_wp2
      go_region_law (first | (go_simp; go_at_call 32; refine (itoa_any k wr.drew (by omega) hG1).mono ?_; rintro e w2 ⟨rfl, hb2⟩; have hc2 := hcd.below hb2; have c2 := hc2.1.cell1; have c2a := (hc2.1.alloc (.cells #[.string (B (Lib.decDigits k))] 9)).cell1) | (refine step_app (by rfl) (.tmp 17) (.tmp 20) 33 (by rfl) 9 (.string ⟨#[]⟩) 1 16 Tryd.underlying33 Tryd.info9 rfl (by omega) w2 [.string (B (Lib.decDigits k))] rfl (by simp; rfl) (w.heap.size + 2) v _ _ hc2.2.1 (by rfl) (by rfl) (by omega) (by omega) hc2.1.lt ?_; intro g cap w3 ho3 hg3 hb3; have hc3 := Coll.store hc2 ho3 hg3; have c3 := (hc2.row hg3).cell1; have z3 := (hc2.row hg3).free 1; clear hc2 ho3 hg3 hb3 c2 c2a))
      all_goals
        rw [dig_at k hlt, ← take_getC digT k hlt] at hc3
        clear c1 z1 hcd hG1
        go_wp2
        go_roundw
        case rel => exact ⟨k + 1, _, by omega, by go_num, hc3⟩
        case measure => simp [intOf]; omega
    · obtain rfl : k = 10 := by omega
      rw [show ((10 : Nat) : Int) = 10 from rfl]
      rename World => wo
      go_wp2
      go_loopw [24] (fun i wr => ∃ (k n : Nat) (v : Value), k ≤ 26 ∧ n ≤ 11 + 2 * k ∧ i = .int .i64 k ∧ Coll w n (digT ++ letK false k) v wr) (fun i _ => 26 - (intOf i).toNat)
      case atStart => exact ⟨0, 10, _, by omega, by omega, rfl, by simpa [digT, letK] using hc⟩
      case round =>
        obtain ⟨k, n, v, hk, hn, rfl, hc⟩ := hrel
        by_cases hlt : k < 26
        · have c1 := hc.1.cell1
          have z1 := hc.1.free 1
          obtain ⟨w1, hcv, hc1⟩ := conv_letW k hlt wr hc
          go_wp2_with (refine wpList_app rfl (.tmp 31) (.tmp 38) 33 rfl 9 (.string ⟨#[]⟩) 1 16 Tryd.underlying33 Tryd.info9 rfl (by omega) w1 [.string (B (letL k))] rfl (by simp; rfl) (w.heap.size + 2) v n _ hc1.2.1 rfl rfl (by omega) (by omega) hc1.1.lt ?_)
          intro v2 w2 ho2 hg2 hb2
          obtain ⟨g, cap, rfl⟩ := own_some ho2
          have hc2 := Coll.store hc1 ho2 hg2
          have c2 := (hc1.row hg2).cell1
          have z2 := (hc1.row hg2).free 1
          clear hcv hc hc1 c1 z1 ho2 hg2 hb2
          have c3 := hc2.1.cell1
          have z3 := hc2.1.free 1
          have HK : Hid (digT ++ letK false k ++ [letL k] = digT ++ letK false (k + 1)) := by
            rw [letK, if_neg (fun e => by cases e.1)]; simp [Hid, letL]
          rw [HK.out] at hc2
          go_wp2
          go_roundw
          case rel => exact ⟨k + 1, _, _, by omega, by omega, by go_num, hc2⟩
          case measure => simp [intOf]; omega
        · obtain rfl : k = 26 := by omega
          rw [show ((26 : Nat) : Int) = 26 from rfl]
          obtain ⟨A1, cp1, rfl, _⟩ := own_form hc.2.1
          have d0 := hc.1.cell0
          have d1 := hc.1.cell1
          have d2 := hc.1.cell2
          have hr := hc.2.2.1
          have r0 := hr.cell0
          have r1 := hr.cell1
          have r2 := hr.cell2
          have y0 := hr.free 0
          have y1 := hr.free 1
          have y2 := hr.free 2
          have hb := below_set3 hc.2.2.2 nilS (.slice A1 n cp1) (.string ⟨#[]⟩)
          have HF := Lib.hid hc.finish
          have t0 := hr.set0 nilS
          have t1 := t0.set1 (.slice A1 n cp1)
          have t2 := t1.set2
          have k0 := t0.cell0
          have k1 := t1.cell1
          have k2 := t2.cell2
          have HK := Lib.hid (And.intro k0 (And.intro k1 k2))
          clear k0 k1 k2 t0 t1 t2
          go_wp2
          exact bodyPost_ret (v := .agg #[nilS, .slice A1 n cp1, .string ⟨#[]⟩]) (by simp [results, Tryd.results22, go_sem, HK.out.1, HK.out.2.1, HK.out.2.2]) rfl ⟨HF.out, hb⟩
end Go.Proofs.YtkndgkiglaacnaaDoor
