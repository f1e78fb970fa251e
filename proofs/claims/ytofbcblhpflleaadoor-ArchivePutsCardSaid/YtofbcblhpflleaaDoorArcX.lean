/-
  Layer 35 (archive): the page's examples; the walk of ArchiveSums.
-/
import Derived.Test.YtofbcblhpflleaaDoorArcK
namespace Go.Proofs.YtofbcblhpflleaaDoor
open Go.RowKit
set_option linter.unusedVariables false
attribute [local go_sem] B_data B_size

def emptyA : List UInt8 := [80, 75, 5, 6, 0, 0, 0, 0, 0, 0, 0, 0, 0, 0, 0, 0, 0, 0, 0, 0, 0, 0]
theorem ex1 : PutRet [] = .returned (.tuple #[.string (B emptyA), .int .i64 0]) := by kernel_rfl
theorem ex2 : getG emptyA [] = ([], 0) := by kernel_rfl
theorem ex3 : getG [] [] = ([], 4) := by kernel_rfl
theorem ex4 : getG [120] [] = ([], 5) := by kernel_rfl
theorem ex5 : acheck [([97], [120])] = 0 := by decide +kernel
theorem ex6 : (putT [([97], [120])]).length = 101 := by decide +kernel
theorem ex7 : crc [49, 50, 51, 52, 53, 54, 55, 56, 57] = 3421780262 := by decide +kernel
theorem Lst.none {w : World} {v : Value} (h : Lst w v []) : ∃ A c, v = .slice A 0 c := by
  obtain ⟨A, n, c, rfl, _, hr⟩ := h
  obtain rfl : 0 = n := hr.fls_length
  exact ⟨A, c, rfl⟩
set_option maxHeartbeats 4000000 in
set_option maxRecDepth 100000 in
theorem awake_any (w : World) (hG : Glob w) : Calls Tryd.prog 9 #[] w fun e w' => e = .returned (.bool true) ∧ Below w.heap.size w w' := by
  go_enter Tryd.func9, Tryd.ntmps9
  go_wp2_with fail
  have C := put_any none 0 0 [] w Rd.nil (by omega) (by simp) hG
  rw [ex1] at C
  refine C.mono ?_
  rintro e w1 ⟨rfl, hb1⟩
  clear C
  have hG1 := hG.below hb1 (Nat.le_refl _)
  go_wp2_with fail
  have C := get_any emptyA w1 (by decide) hG1
  rw [ex2] at C
  refine C.mono ?_
  rintro e w2 ⟨v, rfl, hv, hb2'⟩
  obtain ⟨A, c, rfl⟩ := Lst.none hv
  have hb2 := hb1.trans (hb2'.mono hb1.size)
  clear C hv hb1 hb2' hG1
  have hG2 := hG.below hb2 (Nat.le_refl _)
  go_wp2_with fail
  have C := get_any [] w2 (by decide) hG2
  rw [ex3] at C
  refine C.mono ?_
  rintro e w3 ⟨v3, rfl, hv3, hb3'⟩
  have hb3 := hb2.trans (hb3'.mono hb2.size)
  clear C hv3 hb2 hb3' hG2
  have hG3 := hG.below hb3 (Nat.le_refl _)
  go_wp2_with fail
  have C := get_any [120] w3 (by decide) hG3
  rw [ex4] at C
  refine C.mono ?_
  rintro e w4 ⟨v4, rfl, hv4, hb4'⟩
  have hb4 := hb3.trans (hb4'.mono hb3.size)
  clear C hv4 hb3 hb4' hG3
  have hx : Rd (w4.alloc (.cells #[.string ⟨#[97]⟩, .string ⟨#[120]⟩] 35)) (w4.alloc (.cells #[.string ⟨#[97]⟩, .string ⟨#[120]⟩] 35)).heap.size 2 (some ⟨w4.heap.size, 0, none⟩) 1 (fls [([97], [120])]) := by
    refine ⟨rfl, fun _ => ⟨_, rfl, by simp, fun j u hj => ?_⟩⟩
    rw [addr_lit, cell_of_row _ w4.heap.size _ _ _ (0, 0) (heap_alloc_new w4 _)]
    simpa [fls, B] using hj
  have hb5 := hb4.alloc hb4.size (.cells #[.string ⟨#[97]⟩, .string ⟨#[120]⟩] 35)
  have hG5 := hG.below hb5 (Nat.le_refl _)
  have C := put_any (some ⟨w4.heap.size, 0, none⟩) 1 1 [([97], [120])] _ hx (by omega) (by simp) hG5
  unfold PutRet putS at C
  rw [ex5, if_pos rfl] at C
  have HPL := Lib.hid ex6
  generalize putT [([97], [120])] = pt at *
  have HC := Lib.hid C
  clear C hx hG5
  go_wp2_with fail
  refine HC.out.mono ?_
  rintro e w6 ⟨rfl, hb6'⟩
  have hb6 := hb5.trans (hb6'.mono hb5.size)
  clear HC hb4 hb5 hb6'
  have C := sum_any (B [49, 50, 51, 52, 53, 54, 55, 56, 57]) w6 (by decide)
  rw [B_data, ex7] at C
  have HC := Lib.hid C
  clear C
  go_wp2_with fail
  refine HC.out.mono ?_
  rintro e w7 ⟨rfl, hb7'⟩
  have hb7 := hb6.trans (hb7'.mono hb6.size)
  clear HC
  have l1 : emptyA.length = 22 := rfl
  have l2 := HPL.out
  go_wp2
  go_ret
  exact ⟨rfl, hb7⟩
set_option maxHeartbeats 2000000 in
theorem archiveSums_walk (w : World) (a : ByteArray) (ha : a.size ≤ maxLen) (hG : Glob w) :
    Calls Tryd.prog 3 #[.string a] w fun e w' => e = .returned (.bool true) ∧ Below w.heap.size w w' := by
  unfold maxLen at ha
  by_cases h : 2000 < a.size
  · have d1 : decide ((2000 : Int) < (a.size : Int)) = true := by simp; omega
    go_enter Tryd.func3, Tryd.ntmps3
    go_wp2_with fail
    refine (awake_any w hG).mono ?_
    rintro e w1 ⟨rfl, hb1⟩
    go_wp2
    go_ret
    exact ⟨rfl, hb1⟩
  · have d1 : decide ((2000 : Int) < (a.size : Int)) = false := by simp; omega
    have d2 : decide ((a.size : Int) ≤ 2000) = true := by simp; omega
    have C1 := Lib.hid (sum_any a w (by omega))
    have C2 := Lib.hid (fun W => rsum_any a W (by omega))
    generalize crc a.toList = cr at *
    have e1 : ((cr : Int) == (cr : Int)) = true := by simp
    go_enter Tryd.func3, Tryd.ntmps3
    go_wp2_with fail
    refine C1.out.mono ?_
    rintro e w1 ⟨rfl, hb1⟩
    go_wp2_with fail
    refine (C2.out w1).mono ?_
    rintro e w2 ⟨rfl, rfl⟩
    clear C1 C2
    go_wp2_with fail
    refine (awake_any w1 (hG.below hb1 (Nat.le_refl _))).mono ?_
    rintro e w3 ⟨rfl, hb3⟩
    go_wp2
    go_ret
    exact ⟨rfl, hb1.trans (hb3.mono hb1.size)⟩
end Go.Proofs.YtofbcblhpflleaaDoor
