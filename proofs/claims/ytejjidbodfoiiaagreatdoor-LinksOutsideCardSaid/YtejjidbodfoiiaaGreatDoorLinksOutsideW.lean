/-
  Layer 44 (links): the walk of LinksOutside.
-/
import Derived.Test.YtejjidbodfoiiaaGreatDoorLoABP
namespace Go.Proofs.YtejjidbodfoiiaaGreatDoor
open Go.RowKit
set_option linter.unusedVariables false
set_option linter.unusedSimpArgs false
attribute [local go_sem] B_data B_size

set_option maxHeartbeats 20000000 in
set_option maxRecDepth 100000 in
theorem linksOutside_walk (W : World) (A : Option Addr) (n c : Nat) (fs : List Fl) (h0 : Rd W W.heap.size 2 A n (fs.flatMap flC)) (l0 : n ≤ c ∧ c ≤ maxLen) (hG : Fil.Glob W) :
    Calls Tryz.prog 3 #[.slice A n c] W (fun e W' => e = .returned (.bool true) ∧ Below W.heap.size W W') := by
  have hml : maxLen ≤ 9223372036854775807 := by decide
  have hlen : fs.length = n := h0.count flC 2 flC_len (by omega)
  have HFW := Lib.hid (fun V (hV : Rd V V.heap.size 2 A n (fs.flatMap flC)) => few_any fs A n c V hV (by omega))
  have HAW := Lib.hid (fun V (hV : Fil.Glob V) => lawake_any V hV)
  go_enter Tryz.func3, Tryz.ntmps3
  go_wp2_with fail
  refine (HFW.out _ h0).mono ?_
  rintro e w1 ⟨rfl, hb1⟩
  clear HFW
  cases hfw : fewB fs
  · go_wp2_with fail
    refine (HAW.out _ (hG.below hb1 (Nat.le_refl _))).mono ?_
    rintro e w9 ⟨rfl, hb9⟩
    have hB9 := hb1.trans (hb9.mono hb1.size)
    go_wp2
    go_ret
    exact ⟨rfl, hB9⟩
  · have hn6 : fs.length ≤ 6 := by unfold fewB at hfw; simp at hfw; exact hfw.1
    have hsm : ∀ f ∈ fs, f.1.length ≤ 250 ∧ f.2.length ≤ 800 := fun f hf => by unfold fewB smF at hfw; simp at hfw; exact hfw.2 f.1 f.2 hf
    have h1 := (h0.below hb1).more hb1.size
    have HO1 := Lib.hid (lout_any fs A n c w1 h1 (by omega) (fun f hf => by have := hsm f hf; omega))
    go_wp2_with fail
    refine HO1.out.mono ?_
    intro e w2 hP2
    obtain ⟨A2, c2, rfl, hr2, hb2⟩ := hP2.lp
    have hB2 := hb1.trans (hb2.mono hb1.size)
    have h2 := (h0.below hB2).more hB2.size
    have HO2 := Lib.hid (routs_any fs A n c w2 h2 (by omega) (fun f hf => by have := hsm f hf; omega))
    go_wp2_with fail
    refine HO2.out.mono ?_
    intro e w3 hP3
    obtain ⟨A3, c3, rfl, hr3, hb3⟩ := hP3.lp
    have hB3 := hB2.trans (hb3.mono hB2.size)
    have hrA := (hr2.below hb3).more hb3.size
    have hS := (outsN_srt fs).1
    have hL : (outsN fs).length ≤ 100000000 := by
      have h1 := Lib.compact_length_le ((outsTo fs fs.length).mergeSort fun x y => decide (x ≤ y))
      have h2 := outsTo_len (fs := fs) (fun f hf => by have := hsm f hf; omega) fs.length (Nat.le_refl _)
      rw [List.length_mergeSort] at h1
      unfold outsN; omega
    clear HO1 HO2 hP2 hP3 hr2
    generalize outsN fs = O at *
    go_wp2
    go_loopw [5] (fun i wr => ∃ (j : Nat), j ≤ O.length ∧ i = .int .i64 j ∧ Below w3.heap.size w3 wr) (fun i _ => O.length - (intOf i).toNat)
    case atStart => exact ⟨0, Nat.zero_le _, rfl, .refl _ _⟩
    case round =>
      obtain ⟨j, hj, rfl, hb4⟩ := hrel
      by_cases hlt : j < O.length
      · have hfa : O[j]? = some O[j] := List.getElem?_eq_getElem hlt
        obtain ⟨ad, rfl, hcA⟩ := ((hrA.below hb4).str hlt)
        obtain ⟨ae, rfl, hcB⟩ := ((hr3.below hb4).str hlt)
        rw [show O.getD j [] = O[j] by simp [List.getD, hfa]] at hcA hcB
        have hj1 : (j : Int) < (O.length : Int) := by omega
        by_cases hj0 : j = 0
        · subst hj0
          have hj2 : (0 : Int) < (O.length : Int) := by omega
          have e0 : ∀ a : Addr, a.add 0 = a := fun a => by unfold Addr.add; simp
          rw [e0] at hcA hcB
          clear e0
          generalize O[0] = x at *
          have d3 : (x != x) = false := by simp
          have d4 : (x == x) = true := by simp
          go_wp2
          go_quiet (fail)
          go_wp2
          go_roundw
          case rel => exact ⟨1, by omega, by go_num, below_drewN hb4 _⟩
          case measure => simp [intOf]; omega
        · obtain ⟨k, hk⟩ : ∃ k, j = k + 1 := ⟨j - 1, by omega⟩
          have hjk : (j : Int) - 1 = (k : Int) := by omega
          have hkl : k < O.length := by omega
          have hfk : O[k]? = some O[k] := List.getElem?_eq_getElem hkl
          obtain ⟨ad2, e2, hcC⟩ := ((hrA.below hb4).str hkl)
          injection e2 with e2
          subst e2
          rw [show O.getD k [] = O[k] by simp [List.getD, hfk]] at hcC
          have d1 : Op.bytesLess O[k] O[j] = true := bl_true ((List.pairwise_iff_getElem.1 hS) k j hkl hlt (by omega))
          have ha1 : (0 : Int) < (j : Int) := by omega
          have ha2 : 0 < j := by omega
          have hj3 : (k : Int) < (O.length : Int) := by omega
          generalize O[j] = x at *
          generalize O[k] = y at *
          clear hk
          have d3 : (x != x) = false := by simp
          have d4 : (x == x) = true := by simp
          go_wp2
          go_quiet (fail)
          go_wp2
          go_roundw
          case rel => exact ⟨j + 1, by omega, by go_num, below_drewN hb4 _⟩
          case measure => simp [intOf]; omega
      · have hj1 : ¬ (j : Int) < (O.length : Int) := by omega
        have hB4 := hB3.trans (hb4.mono hB3.size)
        go_wp2_with fail
        refine (HAW.out _ (hG.below hB4 (Nat.le_refl _))).mono ?_
        rintro e w9 ⟨rfl, hb9⟩
        have hB9 := hB4.trans (hb9.mono hB4.size)
        go_wp2
        go_ret
        exact ⟨rfl, hB9⟩
end Go.Proofs.YtejjidbodfoiiaaGreatDoor
