/-
  Layer 35 (archive): the walk of ArchiveSpoils.
-/
import Derived.Test.YtofbcblhpflleaaDoorArcU
import Derived.Test.YtofbcblhpflleaaDoorArchiveCutsW
import Derived.Deep.RegionWith
namespace Go.Proofs.YtofbcblhpflleaaDoor
open Go.RowKit
set_option linter.unusedVariables false
attribute [local go_sem] B_data B_size

theorem conv1 (c : UInt8) (W : World) : (convert 36 9 (.slice (some ⟨W.heap.size, 0, none⟩) 1 1)).run Tryd.prog (W.alloc (.cells #[.int .u8 (c.toNat : Int)] 5)).drew = .ok (.string (B [c])) (W.alloc (.cells #[.int .u8 (c.toNat : Int)] 5)).drew := by
  refine run_convert_bytes_back _ 36 9 5 ⟨W.heap.size, 0, none⟩ 1 [c] Tryd.underlying36 Tryd.underlying5 Tryd.underlying9 (fun j hj => ?_)
  rw [addr_lit]
  show (W.alloc (.cells #[.int .u8 (c.toNat : Int)] 5)).cell? ⟨W.heap.size, 0 + j, none⟩ = _
  rw [cell_of_row _ W.heap.size _ _ _ (0, 0) (heap_alloc_new W _)]
  have hj : j < 1 := hj
  obtain rfl : j = 0 := by omega
  rfl
theorem byteU8 (x y : UInt8) : (((x.toNat : Int) == (y.toNat : Int)) = true) ↔ x = y := ⟨byte_is, fun h => by simp [h]⟩
theorem spoilt_at (fs : List (List UInt8 × List UInt8)) (hfs : ∀ f ∈ fs, Fits f) (k a : Nat) (hk : k < fs.length) (f : List UInt8 × List UInt8) (hf : fs[k]?.getD ([], []) = f) (D : ByteArray) (hD : D = B f.2) (ha : a < D.size) (q : UInt8) (hq : D[a] ≠ q) :
    a + sizes (fs.take k) + (30 + f.1.length) < (putT fs).length ∧ getG ((putT fs).take (a + sizes (fs.take k) + (30 + f.1.length)) ++ q :: (putT fs).drop (a + sizes (fs.take k) + (30 + f.1.length) + 1)) [] = ([], 14) := by
  subst hD
  subst hf
  have ha' : a < (fs[k]?.getD ([], [])).2.length := by rw [← B_size]; exact ha
  have e : a + sizes (fs.take k) + (30 + (fs[k]?.getD ([], [])).1.length) = placeOf fs k a := by unfold placeOf; omega
  rw [e]
  exact ⟨(spoil_text fs k a hk ha' q).1, get_spoilt fs hfs k a hk ha' q hq⟩
set_option maxHeartbeats 8000000 in
set_option maxRecDepth 100000 in
theorem archiveSpoils_walk (w : World) (A : Option Addr) (n c : Nat) (fs : List (List UInt8 × List UInt8)) (hx : Rd w w.heap.size 2 A n (fls fs)) (hc : n ≤ c ∧ c ≤ maxLen) (i m : Int) (q : UInt8) (hG : Glob w) :
    Calls Tryd.prog 6 #[.slice A n c, .int .i64 i, .int .i64 m, .int .u8 (q.toNat : Int)] w fun e w' => e = .returned (.bool true) ∧ Below w.heap.size w w' := by
  have HL := Lib.hid hx.fls_length
  have HW := Lib.hid (few_any A n c fs w hx (Nat.le_trans hc.1 hc.2))
  clear hc
  have HP := Lib.hid (fun W hW => put_any A n c fs W hW)
  have HX := Lib.hid hx
  clear hx
  go_enter Tryd.func6, Tryd.ntmps6
  go_wp2_with fail
  refine HW.out.mono ?_
  rintro e w1 ⟨b, rfl, hb1, hsm0⟩
  clear HW
  have hG1 := hG.below hb1 (Nat.le_refl _)
  cases b with
  | false =>
    clear HP HL HX
    go_wp2_with fail
    refine (awake_any w1 hG1).mono ?_
    rintro e w2 ⟨rfl, hb2⟩
    go_wp2
    go_ret
    exact ⟨rfl, hb1.trans (hb2.mono hb1.size)⟩
  | true =>
    obtain ⟨h140, hsm⟩ := hsm0 rfl
    clear hsm0
    have HSM := Lib.hid hsm
    clear hsm
    by_cases hi0 : i < 0
    · have d1 : decide (i < 0) = true := by simpa using hi0
      clear HP HL HSM HX
      go_wp2_with fail
      refine (awake_any w1 hG1).mono ?_
      rintro e w2 ⟨rfl, hb2⟩
      go_wp2
      go_ret
      exact ⟨rfl, hb1.trans (hb2.mono hb1.size)⟩
    by_cases hi1 : (n : Int) ≤ i
    · have d1 : decide (i < 0) = false := by simpa using hi0
      have d2 : decide ((n : Int) ≤ i) = true := by simpa using hi1
      clear HP HL HSM HX
      go_wp2_with fail
      refine (awake_any w1 hG1).mono ?_
      rintro e w2 ⟨rfl, hb2⟩
      go_wp2
      go_ret
      exact ⟨rfl, hb1.trans (hb2.mono hb1.size)⟩
    obtain ⟨k, rfl⟩ : ∃ k : Nat, i = k := ⟨i.toNat, by omega⟩
    have hk : k < n := by omega
    have i0 : ¬ ((k : Int) < 0) := by omega
    have i1 : ¬ ((n : Int) ≤ (k : Int)) := by omega
    have i2 : (k : Int) < (n : Int) := by omega
    clear hi0 hi1
    by_cases hm0 : m < 0
    · have d1 : decide (m < 0) = true := by simpa using hm0
      clear HP HL HSM HX
      go_wp2_with fail
      refine (awake_any w1 hG1).mono ?_
      rintro e w2 ⟨rfl, hb2⟩
      go_wp2
      go_ret
      exact ⟨rfl, hb1.trans (hb2.mono hb1.size)⟩
    have d1 : decide (m < 0) = false := by simpa using hm0
    obtain ⟨b, o, rfl, hbb, hc0, hc1⟩ := (HX.out.below hb1).file hk
    have HFM := Lib.hid (fl_mem fs k (by rw [HL.out]; exact hk))
    have HFE : Hid (∀ j, fs[k]?.getD ([], []) = j → fs[k]?.getD ([], []) = j) := fun _ h => h
    have hf1 : (fs[k]?.getD ([], [])).1.length ≤ 300 := (HSM.out _ HFM.out).1
    have hf2 : (fs[k]?.getD ([], [])).2.length ≤ 600 := (HSM.out _ HFM.out).2
    obtain ⟨f, hfe⟩ : ∃ f, fs[k]?.getD ([], []) = f := ⟨_, rfl⟩
    rw [hfe] at hc0 hc1 hf1 hf2
    have HFE := Lib.hid hfe
    clear hfe HFM
    obtain ⟨D, hD⟩ : ∃ D, D = B f.2 := ⟨_, rfl⟩
    have hDs : D.size = f.2.length := by rw [hD, B_size]
    rw [← hD] at hc1
    have HD := Lib.hid hD
    have hD6 : D.size ≤ 600 := by omega
    have HDS := Lib.hid hDs
    clear hD hDs
    by_cases hm1 : (D.size : Int) ≤ m
    · have d2 : decide ((D.size : Int) ≤ m) = true := by simpa using hm1
      clear HP HL HSM HX
      go_wp2_with fail
      refine (awake_any w1 hG1).mono ?_
      rintro e w2 ⟨rfl, hb2⟩
      go_wp2
      go_ret
      exact ⟨rfl, hb1.trans (hb2.mono hb1.size)⟩
    obtain ⟨a, rfl⟩ : ∃ a : Nat, m = a := ⟨m.toNat, by omega⟩
    have ha : a < D.size := by omega
    have j0 : ¬ ((a : Int) < 0) := by omega
    have j1 : ¬ ((D.size : Int) ≤ (a : Int)) := by omega
    have j2 : (a : Int) < (D.size : Int) := by omega
    clear hm0 hm1 d1
    by_cases hcq : D[a] = q
    · have d2 : ((D[a].toNat : Int) == (q.toNat : Int)) = true := by rw [hcq]; simp
      clear hcq
      clear HP HL HSM HX
      go_wp2_with fail
      refine (awake_any w1 hG1).mono ?_
      rintro e w2 ⟨rfl, hb2⟩
      go_wp2
      go_ret
      exact ⟨rfl, hb1.trans (hb2.mono hb1.size)⟩
    have d2 : ((D[a].toNat : Int) == (q.toNat : Int)) = false := by
      cases h : ((D[a].toNat : Int) == (q.toNat : Int)) with
      | false => rfl
      | true => exact absurd (byte_is h) hcq
    have e1 : decide ((k : Int) < 0) = false := by simp
    have e2 : decide (n ≤ k) = false := by simp; omega
    have e3 : decide ((a : Int) < 0) = false := by simp
    have e4 : decide (D.size ≤ a) = false := by simp; omega
    have C := HP.out w1 ((HX.out.below hb1).more hb1.size) (by omega) (fun f hf => ⟨by have := (HSM.out f hf).1; omega, by have := (HSM.out f hf).2; omega⟩) hG1
    have HSP := Lib.hid (spoilt_at fs (fun f hf => small_fits (HSM.out f hf)) k a (by rw [HL.out]; exact hk) f HFE.out D HD.out ha q hcq)
    have HSZ := Lib.hid (put_small fs HSM.out)
    clear HP hcq
    unfold PutRet putS at C
    by_cases hck : acheck fs = 0
    · rw [hck, if_pos rfl] at C
      have HC := Lib.hid C
      have hl : (putT fs).length ≤ 1000000 := by have := HSZ.out; rw [HL.out] at this; omega
      clear C HSZ hck
      generalize putT fs = pt at *
      go_wp2_with fail
      refine HC.out.mono ?_
      rintro e w2 ⟨rfl, hb2'⟩
      have hb2 := hb1.trans (hb2'.mono hb1.size)
      clear HC hb2' hG1 hb1 hc0 hc1
      go_wp2
      go_loopw [11, 12] (fun s i wr => ∃ j z : Nat, j ≤ k ∧ i = .int .i64 j ∧ s = .int .i64 ((a + z : Nat) : Int) ∧ z ≤ 930 * j ∧ Below w.heap.size w wr ∧ Hid (z = sizes (fs.take j))) (fun _ i _ => k - (intOf i).toNat)
      case atStart => exact ⟨0, 0, Nat.zero_le _, rfl, rfl, by omega, hb2, rfl⟩
      case round =>
        obtain ⟨j, z, hj, rfl, rfl, hz, hbw, hr⟩ := hrel
        by_cases hlt : j < k
        · obtain ⟨b', o', hE, hb', h0, h1⟩ := (HX.out.below hbw).file (k := j) (by omega)
          injection hE with hE
          injection hE with e1 e2
          subst e1; subst e2
          have i4 : j < n := by omega
          have HT := Lib.hid (sizes_take fs j (by rw [HL.out]; omega))
          have HFM := fl_mem fs j (by rw [HL.out]; omega)
          have l1 := (HSM.out _ HFM).1
          have l2 := (HSM.out _ HFM).2
          clear HFM
          generalize fs[j]?.getD ([], []) = g at *
          have j1 : IntKind.i64.wrap ((30 : Int) + (g.1.length : Int)) = (30 : Int) + (g.1.length : Int) := IntWalk.i64_in _ (by omega)
          have j2 : IntKind.i64.wrap ((30 : Int) + (g.1.length : Int) + (g.2.length : Int)) = (30 : Int) + (g.1.length : Int) + (g.2.length : Int) := IntWalk.i64_in _ (by omega)
          have j3 : IntKind.i64.wrap (((a + z : Nat) : Int) + ((30 : Int) + (g.1.length : Int) + (g.2.length : Int))) = ((a + z : Nat) : Int) + ((30 : Int) + (g.1.length : Int) + (g.2.length : Int)) := IntWalk.i64_in _ (by omega)
          have j4 : IntKind.i64.wrap ((a : Int) + (z : Int) + ((30 : Int) + (g.1.length : Int) + (g.2.length : Int))) = (a : Int) + (z : Int) + ((30 : Int) + (g.1.length : Int) + (g.2.length : Int)) := IntWalk.i64_in _ (by omega)
          go_wp2
          go_region_held3 (fun w' => w'.cell? ⟨b, o + j * 2, none⟩ = some (.string (B g.1)) ∧ w'.cell? ⟨b, o + j * 2 + 1, none⟩ = some (.string (B g.2))) (first | assumption | exact ⟨h0, h1⟩) (fail)
          go_wp2
          go_roundw
          case rel => exact ⟨j + 1, z + (30 + g.1.length + g.2.length), by omega, by go_num, by go_num, by omega, hbw.drew, by rw [HT.out, ← hr.out]; rfl⟩
          case measure => simp [intOf]; omega
        · obtain rfl : j = k := by omega
          obtain ⟨b', o', hE, hb', h0, h1⟩ := (HX.out.below hbw).file hk
          injection hE with hE
          injection hE with e1 e2
          subst e1; subst e2
          rw [HFE.out] at h0 h1
          have HSP1 := HSP.out.1
          have HSP2 := Lib.hid HSP.out.2
          rw [← hr.out] at HSP1 HSP2
          clear HSP HX HSM HFE HD hr
          have i4 : j < n := hk
          have hP1 : ¬ ((pt.length : Int) ≤ (a : Int) + (z : Int) + (30 + (f.1.length : Int))) := by omega
          go_wp2_with fail
          obtain ⟨P, hP⟩ : ∃ P : Nat, (a : Int) + (z : Int) + (30 + (f.1.length : Int)) = (P : Int) := ⟨a + z + (30 + f.1.length), by omega⟩
          obtain rfl : P = a + z + (30 + f.1.length) := by omega
          rw [hP]
          have HSP2 := Lib.hid HSP2.out
          clear hP hP1
          generalize a + z + (30 + f.1.length) = P at *
          have p0 : (0 : Int) ≤ (P : Int) := by omega
          have p1 : (P : Int) ≤ (pt.length : Int) := by omega
          have p2 : IntKind.i64.wrap ((P : Int) + 1) = (P : Int) + 1 := IntWalk.i64_in _ (by omega)
          have p3 : (P : Int) + 1 ≤ (pt.length : Int) := by omega
          have p4 : (0 : Int) ≤ (P : Int) + 1 := by omega
          have p5 : ((P : Int) + 1).toNat = P + 1 := by omega
          have hx0 : (B pt).extract 0 P = B (pt.take P) := by rw [B_take, B_data]
          have hx1 : (B pt).extract (P + 1) pt.length = B (pt.drop (P + 1)) := by
            have := B_drop (B pt) (P + 1)
            rw [B_size, B_data] at this
            exact this
          have hcv := conv1 q wr
          have hA1 : B (pt.take P) ++ B [q] = B (pt.take P ++ [q]) := (B_app _ _).symm
          have hA2 : B (pt.take P ++ [q]) ++ B (pt.drop (P + 1)) = B (pt.take P ++ q :: pt.drop (P + 1)) := by rw [← B_app]; simp
          have hll : (pt.take P ++ q :: pt.drop (P + 1)).length ≤ 1000000 := by
            rw [List.length_append, List.length_cons, List.length_take, List.length_drop]; omega
          have hGr := hG.below hbw (Nat.le_refl _)
          have HCG := Lib.hid (fun W hW => get_any (pt.take P ++ q :: pt.drop (P + 1)) W hll hW)
          rw [HSP2.out] at HCG
          generalize pt.take P ++ q :: pt.drop (P + 1) = ct at *
          clear hll HSP2
          have hB3 := (hbw.alloc hbw.size (.cells #[.int .u8 (q.toNat : Int)] 5)).drew
          have HG3 := Lib.hid (HCG.out _ (hG.below hB3 (Nat.le_refl _)))
          go_region_with ((go_at_call 15; refine HG3.out.mono ?_; rintro e w3 ⟨v, rfl, hv, hb3'⟩))
          obtain ⟨A3, c3, rfl⟩ := Lst.none hv
          have hb3 := hB3.trans (hb3'.mono hB3.size)
          clear hv hb3' hB3 HG3 HCG
          have hG3 := hG.below hb3 (Nat.le_refl _)
          go_wp2_with fail
          refine (awake_any w3 hG3).mono ?_
          rintro e w4 ⟨rfl, hb4⟩
          go_wp2
          go_ret
          exact ⟨rfl, hb3.trans (hb4.mono hb3.size)⟩
    · rw [if_neg hck] at C
      have HC := Lib.hid C
      clear C HSZ HSP
      generalize acheck fs = ac at *
      have d0 : (ac == 0) = false := by simpa using hck
      have d3 : (ac != 0) = true := by simpa using hck
      clear hck
      go_wp2_with fail
      refine HC.out.mono ?_
      rintro e w2 ⟨rfl, hb2'⟩
      have hb2 := hb1.trans (hb2'.mono hb1.size)
      have hG2 := hG.below hb2 (Nat.le_refl _)
      clear HC
      go_wp2_with fail
      refine (awake_any w2 hG2).mono ?_
      rintro e w3 ⟨rfl, hb3⟩
      go_wp2
      go_ret
      exact ⟨rfl, hb2.trans (hb3.mono hb2.size)⟩
end Go.Proofs.YtofbcblhpflleaaDoor
