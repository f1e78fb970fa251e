/-
  Layer 35 (archive): the chapter's Put.
-/
import Derived.Test.YtofbcblhpflleaaDoorArcV
namespace Go.Proofs.YtofbcblhpflleaaDoor
open Go.RowKit
set_option linter.unusedVariables false
attribute [local go_sem] B_data B_size

def namesK (fs : List (List UInt8 × List UInt8)) (k : Nat) : List (List UInt8) := (fs.take k).map fun f => f.1
theorem namesK_succ (fs : List (List UInt8 × List UInt8)) (k : Nat) (h : k < fs.length) : namesK fs (k + 1) = namesK fs k ++ [(fs[k]?.getD ([], [])).1] := by
  unfold namesK
  rw [List.take_succ_eq_append_getElem h, List.getElem?_eq_getElem h, List.map_append]; rfl
theorem namesK_mem (fs : List (List UInt8 × List UInt8)) (k j : Nat) (hj : j < k) (h : j < fs.length) : (fs[j]?.getD ([], [])).1 ∈ namesK fs k := by
  unfold namesK
  refine List.mem_map.2 ⟨fs[j], ?_, by rw [List.getElem?_eq_getElem h]; rfl⟩
  exact List.mem_take_iff_getElem.2 ⟨j, by omega, rfl⟩
theorem namesK_not (fs : List (List UInt8 × List UInt8)) (k : Nat) (nm : List UInt8) (hn : ∀ j, j < k → (fs[j]?.getD ([], [])).1 ≠ nm) : nm ∉ namesK fs k := by
  unfold namesK
  intro hm
  obtain ⟨f, hf, rfl⟩ := List.mem_map.1 hm
  obtain ⟨j, hj, rfl⟩ := List.mem_take_iff_getElem.1 hf
  refine hn j (by omega) ?_
  rw [List.getElem?_eq_getElem (by omega)]; rfl

def RArch (A : Option Addr) (n c : Nat) (fs : List (List UInt8 × List UInt8)) : Prop := ∀ W : World, Rd W W.heap.size 2 A n (fls fs) → Calls Tryd.prog 25 #[.slice A n c] W fun e w' => (∃ m, e = .returned (.tuple #[.string (B (putT fs)), .int .i64 m])) ∧ Below W.heap.size W w'
set_option maxHeartbeats 8000000 in
set_option maxRecDepth 100000 in
theorem rput_any (A : Option Addr) (n c : Nat) (fs : List (List UInt8 × List UInt8)) (w : World) (hx : Rd w w.heap.size 2 A n (fls fs)) (hn : n ≤ 140) (hsm : ∀ f ∈ fs, Small f) (HRA : Hid (RArch A n c fs)) :
    Calls Tryd.prog 14 #[.slice A n c] w fun e w' => e = PutRet fs ∧ Below w.heap.size w w' := by
  have HL := Lib.hid hx.fls_length
  have HS := Lib.hid hsm
  clear hsm
  by_cases h128 : 128 < n
  · have HE : Hid (acheck fs = 3) := by unfold acheck; rw [HL.out, if_pos h128]; rfl
    go_enter Tryd.func14, Tryd.ntmps14
    go_wp2
    go_ret2
    exact ⟨by unfold PutRet putS; rw [HE.out]; rfl, Below.refl _ _⟩
  have HB : Hid (bigB fs = false) := by
    unfold bigB Hid
    rw [List.any_eq_false]
    intro f hf
    have := (HS.out f hf).2
    simp; omega
  have HE : Hid (acheck fs = acGo [] fs) := by unfold acheck; rw [HL.out, if_neg h128, HB.out]; rfl
  clear HB
  go_enter Tryd.func14, Tryd.ntmps14
  go_wp2
  go_loopw [4] (fun i wr => ∃ k : Nat, k ≤ n ∧ i = .int .i64 k ∧ Below w.heap.size w wr) (fun i _ => n - (intOf i).toNat)
  case atStart => exact ⟨0, Nat.zero_le _, rfl, Below.refl _ _⟩
  case round =>
    obtain ⟨k, hk, rfl, hbw⟩ := hrel
    by_cases hlt : k < n
    · obtain ⟨b, o, rfl, hm, h0, h1⟩ := (hx.below hbw).file hlt
      have hf2 : (fs[k]?.getD ([], [])).2.length ≤ 600 := (HS.out _ (fl_mem fs k (by rw [HL.out]; exact hlt))).2
      generalize fs[k]?.getD ([], []) = f at *
      go_wp2
      go_roundw
      case rel => exact ⟨k + 1, by omega, by go_num, hbw⟩
      case measure => simp [intOf]; omega
    · obtain rfl : k = n := by omega
      rename World => wo
      go_wp2
      go_loopw [5] (fun i wr => ∃ j : Nat, j ≤ k ∧ i = .int .i64 j ∧ Below w.heap.size w wr ∧ Hid (acGo [] fs = acGo (namesK fs j) (fs.drop j))) (fun i _ => k - (intOf i).toNat)
      case atStart => exact ⟨0, Nat.zero_le _, rfl, hbw, rfl⟩
      case round =>
        obtain ⟨j, hj, rfl, hbw, hr⟩ := hrel
        have hbs := hbw.size
        by_cases hlt : j < k
        · obtain ⟨b, o, rfl, hm, h0, h1⟩ := (hx.below hbw).file hlt
          have hjl : j < fs.length := by rw [HL.out]; exact hlt
          have HD := Lib.hid (fdrop fs j hjl)
          have HNS := Lib.hid (namesK_succ fs j hjl)
          have hfl : (fs[j]?.getD ([], [])).1.length ≤ 300 := (HS.out _ (fl_mem fs j hjl)).1
          generalize hfj : fs[j]?.getD ([], []) = f at *
          go_wp2_with fail
          with_reducible refine (rclean_any (B f.1) _ (by rw [B_size]; omega)).mono ?_
          rintro e w1 ⟨rfl, hb1⟩
          rw [B_data]
          unfold CleanRet
          have hbw1 := hbw.trans (hb1.mono hbs)
          have q0 := keeps hb1 (Nat.le_refl _) h0
          clear hb1 h0 h1
          by_cases hc : clean f.1 = [] ∨ clean f.1 ≠ f.1
          · have HX : Hid (acGo [] fs = 6) := by rw [hr.out, HD.out, acGo, if_pos hc]; rfl
            by_cases hc0 : clean f.1 = []
            · rw [hc0]
              have e0 : errK [] = 6 := rfl
              rw [e0]
              clear e0 hc hc0
              go_wp2
              go_ret2
              exact ⟨by unfold PutRet putS; rw [HE.out, HX.out]; rfl, hbw1⟩
            · have hc1 : clean f.1 ≠ f.1 := by rcases hc with h | h; exact absurd h hc0; exact h
              have e0 : errK (clean f.1) = 0 := by unfold errK; rw [if_neg hc0]
              have en : (!(clean f.1 == f.1)) = true := by simpa using hc1
              rw [e0]
              clear e0 hc hc0 hc1
              generalize clean f.1 = cf at *
              go_wp2
              go_ret2
              exact ⟨by unfold PutRet putS; rw [HE.out, HX.out]; rfl, hbw1⟩
          · have hc0 : ¬ clean f.1 = [] := fun h => hc (.inl h)
            have hc1 : clean f.1 = f.1 := Classical.byContradiction fun h => hc (.inr h)
            have e0 : errK (clean f.1) = 0 := by unfold errK; rw [if_neg hc0]
            have HA : Hid (acGo [] fs = if f.1 ∈ namesK fs j then 7 else acGo (namesK fs j ++ [f.1]) (fs.drop (j + 1))) := by rw [hr.out, HD.out, acGo, if_neg hc]; rfl
            rw [e0, hc1]
            have en : (!(f.1 == f.1)) = false := by simp
            clear e0 hc hc0 hc1
            go_wp2
            go_loopw [8] (fun i wr => ∃ m : Nat, m ≤ j ∧ i = .int .i64 m ∧ Below w.heap.size w wr ∧ Hid (∀ x, x < m → (fs[x]?.getD ([], [])).1 ≠ f.1)) (fun i _ => j - (intOf i).toNat)
            case atStart => exact ⟨0, Nat.zero_le _, rfl, hbw1, fun x hx => absurd hx (Nat.not_lt_zero _)⟩
            case round =>
              obtain ⟨m, hmj, rfl, hbw2, hr2⟩ := hrel
              by_cases hlt2 : m < j
              · obtain ⟨b', o', hbo, hm', h0, h1⟩ := (hx.below hbw2).file (show m < k by omega)
                obtain ⟨_, _, hbo2, _, h0', h1'⟩ := (hx.below hbw2).file hlt
                cases hbo
                cases hbo2
                rw [hfj] at h0' h1'
                have HM := Lib.hid (namesK_mem fs j m hlt2 (by omega))
                generalize hgm : fs[m]?.getD ([], []) = g at *
                have i1 : (m : Int) < (k : Int) := by omega
                have i2 : (0 : Int) ≤ (m : Int) := by omega
                have i3 : (j : Int) < (k : Int) := by omega
                have i4 : (0 : Int) ≤ (j : Int) := by omega
                by_cases heq : g.1 = f.1
                · have HX : Hid (acGo [] fs = 7) := by rw [HA.out, if_pos (by rw [← heq]; exact HM.out)]; rfl
                  have d : (g.1 == f.1) = true := by simpa using heq
                  clear heq
                  go_wp2
                  go_quiet (fail)
                  go_wp2
                  go_ret2
                  exact ⟨by unfold PutRet putS; rw [HE.out, HX.out]; rfl, below_drewN hbw2 _⟩
                · have d : (g.1 == f.1) = false := by simpa using heq
                  have HX : Hid (∀ x, x < m + 1 → (fs[x]?.getD ([], [])).1 ≠ f.1) := by
                    intro x hx
                    rcases Nat.lt_or_ge x m with h | h
                    · exact hr2.out x h
                    · obtain rfl : x = m := by omega
                      rw [hgm]; exact heq
                  clear heq hr2
                  go_wp2
                  go_quiet (fail)
                  go_wp2
                  go_roundw
                  case rel => exact ⟨m + 1, by omega, by go_num, below_drewN hbw2 _, HX.out⟩
                  case measure => simp [intOf]; omega
              · obtain rfl : m = j := by omega
                have HX : Hid (acGo [] fs = acGo (namesK fs (m + 1)) (fs.drop (m + 1))) := by
                  rw [HA.out, if_neg (namesK_not fs m f.1 hr2.out), HNS.out]; rfl
                go_wp2
                go_roundw
                case rel => exact ⟨m + 1, by omega, by go_num, hbw2, HX.out⟩
                case measure => simp [intOf]; omega
        · have HX : Hid (acGo [] fs = 0) := by rw [hr.out, List.drop_of_length_le (by rw [HL.out]; omega)]; rfl
          have hxo := (hx.below hbw).more hbw.size
          go_wp2_with fail
          refine (HRA.out _ hxo).mono ?_
          rintro e w1 ⟨⟨m, rfl⟩, hb1⟩
          have hB1 := hbw.trans (hb1.mono hbw.size)
          have HPT : Hid (PutRet fs = .returned (.tuple #[.string (B (putT fs)), .int .i64 0])) := by
            unfold PutRet putS; rw [HE.out, HX.out, if_pos rfl]; rfl
          clear HRA
          generalize putT fs = pt at *
          go_wp2
          go_ret2
          exact ⟨by rw [HPT.out]; rfl, hB1⟩
end Go.Proofs.YtofbcblhpflleaaDoor
