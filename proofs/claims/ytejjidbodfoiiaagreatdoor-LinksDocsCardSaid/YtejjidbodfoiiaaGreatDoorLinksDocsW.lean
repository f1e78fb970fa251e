/-
  Layer 44 (links): the walk of LinksDocs.
-/
import Derived.Test.YtejjidbodfoiiaaGreatDoorLdD
import Derived.Test.YtejjidbodfoiiaaGreatDoorLdF
import Derived.Test.YtejjidbodfoiiaaGreatDoorLkFab
import Derived.Test.YtejjidbodfoiiaaGreatDoorDcOpen
namespace Go.Proofs.YtejjidbodfoiiaaGreatDoor
open Go.RowKit
set_option linter.unusedVariables false
set_option linter.unusedSimpArgs false
attribute [local go_sem] B_data B_size

theorem ft_ner (x : Ft) (y : Bs) (W : World) : (binOp .neq 36 (.agg #[.string (B x.1), .string (B x.2.1), .string (B x.2.2)]) (.agg #[.string ⟨#[114, 101, 102, 101, 114, 101, 110, 99, 101]⟩, .string ⟨#[]⟩, .string (B y)])).run Tryz.prog W = .ok (.bool (!decide (x = (refK, [], y)))) W := ft_ne x (refK, [], y) W
attribute [local go_sem ↓] ft_ner
set_option maxHeartbeats 20000000 in
set_option maxRecDepth 100000 in
theorem linksDocs_walk (w : World) (mt : Sl) (ms : List (Bs × Bs)) (s : Sl) (bl : List (Bk × BC)) (hm : RdT w (fun b => b < w.heap.size) 2 mt (ms.flatMap prF)) (om : okT (ms.flatMap fun p => [p.1, p.2])) (lm : ms.length = mt.n ∧ mt.n ≤ mt.c ∧ mt.c ≤ maxLen)
    (hs : RdT w (fun b => b < w.heap.size) 11 s ((bl.map (·.2)).flatMap BC.cells)) (ls : bl.length = s.n ∧ s.n ≤ s.c ∧ s.c ≤ maxLen) (hb : BsAt w (fun b => b < w.heap.size) (bl.map (·.1)) (bl.map (·.2))) (hG : Fil.Glob w) :
    Calls Tryz.prog 4 #[.agg #[mt.v, s.v]] w (fun e W' => e = .returned (.bool true) ∧ Below w.heap.size w W') := by
  have hB : BsB w w.heap.size (bl.map (·.1)) s := BsB.of_at hs ls.1 hb
  have hM : Rd w w.heap.size 2 mt.A mt.n (ms.flatMap prF) := RdS.rd hm.1 (fun _ h => h)
  clear hm lm hs ls hb
  generalize bl.map (·.1) = ks at *
  obtain ⟨A, n, c⟩ := s
  obtain ⟨Am, nm, cm⟩ := mt
  have hG0 : MG w (.slice Am nm cm) A n c ks (w.alloc (.cells #[.slice Am nm cm, .slice A n c] 30)) := MG.made hB
  have hMm := (hM.below hG0.b).more hG0.b.size
  have HAW := Lib.hid (fun V (hV : Fil.Glob V) => lawake_any V hV)
  go_enter Tryz.func4, Tryz.ntmps4
  go_wp2_with fail
  generalize w.alloc (.cells #[.slice Am nm cm, .slice A n c] 30) = W2 at *
  have k0 := hG0.k0
  have k1 := hG0.k1
  have HSM := Lib.hid (small_any ms ks ⟨Am, nm, cm⟩ ⟨A, n, c⟩ W2 hMm om hG0.d)
  go_wp2_with fail
  refine HSM.out.mono ?_
  rintro e w1 ⟨b, rfl, hsm, hb1⟩
  have hG1 := hG0.step hb1
  clear HSM hG0 hMm hM k0 k1
  cases b
  · clear hsm
    go_wp2_with fail
    refine (HAW.out _ (hG.below hG1.b (Nat.le_refl _))).mono ?_
    rintro e w9 ⟨rfl, hb9⟩
    have hB9 := hG1.b.trans (hb9.mono hG1.b.size)
    go_wp2
    go_ret
    exact ⟨rfl, hB9⟩
  · have hev : (evL ks).length ≤ 120 := (hsm rfl).2.2.1
    clear hsm hb1
    have k0 := hG1.k0
    have k1 := hG1.k1
    have HL := Lib.hid (ldoc_any ks (.slice Am nm cm) A n c w1 hG1.d (by omega))
    go_wp2_with fail
    refine HL.out.mono ?_
    rintro e w2 ⟨A2, c2, rfl, hr2, hb2⟩
    have hG2 := hG1.step hb2
    clear HL hG1 k0 k1
    have k0 := hG2.k0
    have k1 := hG2.k1
    have HL := Lib.hid (missing_any ks (.slice Am nm cm) A n c w2 hG2.d (by omega))
    go_wp2_with fail
    refine HL.out.mono ?_
    intro e w3 hP
    obtain ⟨A3, c3, rfl, hr3, hb3⟩ := hP.lp
    have hG3 := hG2.step hb3
    have hr23 := (hr2.below hb3).more hb3.size
    clear HL hG2 k0 k1 hP hr2 hb3
    have HD : Hid (docF ks = (missN ks).map fun n => (refK, [], n)) := rfl
    have hLn : (missN ks).length ≤ 1000 := by have := addAll_len (missD ks); have := missD_len ks; unfold missN; omega
    have hDl : (docF ks).length = (missN ks).length := by rw [HD.out, List.length_map]
    have HR := Lib.hid (fun V (hV : BsB V V.heap.size ks ⟨A, n, c⟩) => rdoc_any ks (.slice Am nm cm) A n c V hV (by omega))
    generalize missN ks = L at *
    generalize docF ks = D at *
    rw [hDl] at hr23
    go_wp2
    go_loopw [5] (fun i wr => ∃ (j : Nat), j ≤ L.length ∧ i = .int .i64 j ∧ Below w3.heap.size w3 wr) (fun i _ => L.length - (intOf i).toNat)
    case atStart => exact ⟨0, Nat.zero_le _, rfl, .refl _ _⟩
    case round =>
      obtain ⟨j, hj, rfl, hb4⟩ := hrel
      have hG4 := hG3.step hb4
      by_cases hlt : j < L.length
      · have hfb : L[j]? = some L[j] := List.getElem?_eq_getElem hlt
        have hfa : D[j]? = some (refK, [], L[j]) := by rw [HD.out, List.getElem?_map, hfb]; rfl
        obtain ⟨b1, o1, rfl, hbm1, hcell1⟩ := (hr23.below hb4).elem ftC 3 ftC_len (by omega) hfa
        obtain ⟨ad, rfl, hc⟩ := (hr3.below hb4).str hlt
        rw [show L.getD j [] = L[j] by simp [List.getD, hfb]] at hc
        generalize L[j] = y at *
        have HXE : Hid (∃ x : Ft, x = (refK, [], y)) := ⟨_, rfl⟩
        obtain ⟨x, hx⟩ := HXE.out
        rw [← hx] at hcell1
        have x0 : wr.cell? ⟨b1, o1 + j * 3, none⟩ = some (.string (B x.1)) := hcell1 0 _ rfl
        have x1 : wr.cell? ⟨b1, o1 + j * 3 + 1, none⟩ = some (.string (B x.2.1)) := hcell1 1 _ rfl
        have x2 : wr.cell? ⟨b1, o1 + j * 3 + 2, none⟩ = some (.string (B x.2.2)) := hcell1 2 _ rfl
        have hxy : decide (x = (refK, [], y)) = true := decide_eq_true hx
        have hj1 : (j : Int) < (L.length : Int) := by omega
        clear hcell1 hx HXE hfa
        go_wp2_with fail
        go_quiet (fail)
        go_wp2
        go_roundw
        case rel => exact ⟨j + 1, by omega, by go_num, below_drewN hb4 _⟩
        case measure => simp [intOf]; omega
      · have hj1 : ¬ (j : Int) < (L.length : Int) := by omega
        have k0 := hG4.k0
        have k1 := hG4.k1
        have HC := Lib.hid (HR.out wr hG4.d)
        go_wp2_with fail
        refine HC.out.mono ?_
        rintro e w5 ⟨A5, c5, rfl, hr5, hb5⟩
        have hG5 := hG4.step hb5
        have hr25 := (hr23.below (hb4.trans (hb5.mono hb4.size))).more (Nat.le_trans hb4.size hb5.size)
        rw [hDl] at hr5 ⊢
        have HS := Lib.hid (same_any D D A2 A5 L.length c2 L.length c5 w5 hr25 hr5 (by omega) (by omega))
        rw [decide_eq_true rfl] at HS
        clear HC k0 k1 hG4
        go_wp2_with fail
        refine HS.out.mono ?_
        rintro e w6 ⟨rfl, hb6⟩
        have hG6 := hG5.step hb6
        clear HS hG5 hr25 hr5
        go_wp2_with fail
        refine (HAW.out _ (hG.below hG6.b (Nat.le_refl _))).mono ?_
        rintro e w9 ⟨rfl, hb9⟩
        have hB9 := hG6.b.trans (hb9.mono hG6.b.size)
        go_wp2
        go_ret
        exact ⟨rfl, hB9⟩
end Go.Proofs.YtejjidbodfoiiaaGreatDoor
