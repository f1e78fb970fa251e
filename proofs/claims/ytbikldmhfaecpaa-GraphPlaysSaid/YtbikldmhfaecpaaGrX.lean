/-
  Layer 48 (graph): the page's examples.
-/
import Derived.Test.YtbikldmhfaecpaaGrO
namespace Go.Proofs.Ytbikldmhfaecpaa
open Go.RowKit
set_option linter.unusedVariables false
set_option linter.unusedSimpArgs false
attribute [local go_sem] B_data B_size

def sA1 : GS := (setX GS.new [97] [49]).2
def sA2 : GS := (ruleX sA1 [98] [[97], [97]] (some 0)).2
def sA3 : GS := (ruleX sA2 [99] [[98]] (some 1)).2
def sA4 : GS := (getX sA3 [98]).1
def sA5 : GS := (getX sA4 [99]).1
def sA6 : GS := (setX sA5 [97] [50]).2
def sA7 : GS := (getX sA6 [99]).1
def sA8 : GS := (ruleX sA7 [120] [[120]] (some 0)).2
def sA9 : GS := (ruleX sA8 [98] [] (some 0)).2
def sA10 : GS := (getX sA9 [120]).1
theorem xa1 : (setX GS.new [97] [49]).1 = 0 := by kernel_rfl
theorem xa2 : (ruleX sA1 [98] [[97], [97]] (some 0)).1 = 0 := by kernel_rfl
theorem xa3 : (ruleX sA2 [99] [[98]] (some 1)).1 = 0 := by kernel_rfl
theorem xa4 : (getX sA3 [98]).2 = ([49, 49], 0) := by kernel_rfl
theorem xa5 : (getX sA4 [99]).2 = ([50], 0) := by kernel_rfl
theorem xa6 : (setX sA5 [97] [50]).1 = 0 := by kernel_rfl
theorem xa7 : (getX sA6 [99]).2 = ([50], 0) := by kernel_rfl
theorem xa8 : (ruleX sA7 [120] [[120]] (some 0)).1 = 0 := by kernel_rfl
theorem xa9 : (ruleX sA8 [98] [] (some 0)).1 = 7 := by kernel_rfl
theorem xa10 : (getX sA9 [120]).2 = ([], 10) := by kernel_rfl
theorem xa11 : (getX sA10 [110, 111, 110, 101]).2 = ([], 13) := by kernel_rfl
theorem xr5 : sA5.runs = 2 := by kernel_rfl
theorem xr7 : sA7.runs = 4 := by kernel_rfl
theorem xs5 : (staleX sA5).length = 0 := by unfold staleX; rw [List.length_mergeSort]; kernel_rfl
theorem xs6 : (staleX sA6).length = 2 := by unfold staleX; rw [List.length_mergeSort]; kernel_rfl
theorem ga1 : GI 0 sA1 := (setX_gi (GI.new 0) _ _ (by decide)).1
theorem ga2 : GI 0 sA2 := (ruleX_gi ga1 _ _ _).1
theorem ga3 : GI 0 sA3 := (ruleX_gi ga2 _ _ _).1
theorem ga4 : GI 1024 sA4 := (getX_gi ga3 _).1
theorem ga5 : GI 2048 sA5 := (getX_gi ga4 _).1
theorem ga6 : GI 2048 sA6 := (setX_gi ga5 _ _ (by decide)).1
theorem ga7 : GI 3072 sA7 := (getX_gi ga6 _).1
theorem ga8 : GI 3072 sA8 := (ruleX_gi ga7 _ _ _).1
theorem ga9 : GI 3072 sA9 := (ruleX_gi ga8 _ _ _).1
theorem ga10 : GI 4096 sA10 := (getX_gi ga9 _).1
theorem ca1 : sA1.changes = 1 := by kernel_rfl
theorem ca2 : sA2.changes = 2 := by kernel_rfl
theorem ca5 : sA5.changes = 3 := by kernel_rfl
theorem ca7 : sA7.changes = 4 := by kernel_rfl
theorem ca8 : sA8.changes = 5 := by kernel_rfl
set_option maxHeartbeats 8000000 in
set_option maxRecDepth 100000 in
theorem awake_any (w : World) : Calls Try.prog 10 #[] w fun e w' => e = .returned (.bool true) ∧ Below w.heap.size w w' := by
  have H0 := Lib.hid (GT.new 0 (Below.refl w.heap.size w))
  go_enter Try.func10, Try.ntmps10
  go_wp2_with fail
  refine (new_any w).mono ?_
  rintro e w1 ⟨rfl, hw1⟩
  rw [← hw1] at H0
  clear hw1
  generalize w.heap.size = gb at H0 ⊢
  go_wp2_with fail
  have C := GT.set H0.out (GI.new 0) (by decide) [97] [49]
  rw [xa1] at C
  refine C.mono ?_
  rintro e w2 ⟨rfl, h⟩
  have H1 : Hid (GT 0 gb sA1 w w2) := h
  clear h C H0
  go_wp2_with fail
  have C := GT.ruleLit H1.out ga1 (by rw [ca1]; decide) [98] (some 0) #[.string ⟨#[97]⟩, .string ⟨#[97]⟩] (needs := [[97], [97]]) rfl rfl (by decide)
  rw [xa2] at C
  refine C.mono ?_
  rintro e w3 ⟨rfl, h⟩
  have H2 : Hid (GT 0 gb sA2 w w3) := h
  clear h C H1
  go_wp2_with fail
  have C := GT.ruleLit H2.out ga2 (by rw [ca2]; decide) [99] (some 1) #[.string ⟨#[98]⟩] (needs := [[98]]) rfl rfl (by decide)
  rw [xa3] at C
  refine C.mono ?_
  rintro e w4 ⟨rfl, h⟩
  have H3 : Hid (GT 0 gb sA3 w w4) := h
  clear h C H2
  go_wp2_with fail
  have C := GT.get H3.out ga3 (by decide) [98]
  rw [xa4] at C
  simp only [ResV] at C
  refine C.mono ?_
  rintro e w5 ⟨rfl, h⟩
  have H4 : Hid (GT 0 gb sA4 w w5) := h
  clear h C H3
  go_wp2_with fail
  have C := GT.get H4.out ga4 (by decide) [99]
  rw [xa5] at C
  simp only [ResV] at C
  refine C.mono ?_
  rintro e w6 ⟨rfl, h⟩
  have H5 : Hid (GT 0 gb sA5 w w6) := h
  clear h C H4
  go_wp2_with fail
  have C := GT.runs H5.out
  rw [xr5] at C
  refine C.mono ?_
  rintro e wx ⟨rfl, rfl⟩
  have H6 := H5
  clear C H5
  go_wp2_with fail
  have C := GT.stale H6.out ga5
  rw [xs5] at C
  refine C.mono ?_
  rintro e w8 ⟨A6, c6, rfl, _, _, h⟩
  have H7 := Lib.hid h
  clear h C H6
  go_wp2_with fail
  have C := GT.set H7.out ga5 (by rw [ca5]; decide) [97] [50]
  rw [xa6] at C
  refine C.mono ?_
  rintro e w9 ⟨rfl, h⟩
  have H8 : Hid (GT 0 gb sA6 w w9) := h
  clear h C H7
  go_wp2_with fail
  have C := GT.stale H8.out ga6
  rw [xs6] at C
  refine C.mono ?_
  rintro e w10 ⟨A8, c8, rfl, _, _, h⟩
  have H9 := Lib.hid h
  clear h C H8
  go_wp2_with fail
  have C := GT.get H9.out ga6 (by decide) [99]
  rw [xa7] at C
  simp only [ResV] at C
  refine C.mono ?_
  rintro e w11 ⟨rfl, h⟩
  have H10 : Hid (GT 0 gb sA7 w w11) := h
  clear h C H9
  go_wp2_with fail
  have C := GT.runs H10.out
  rw [xr7] at C
  refine C.mono ?_
  rintro e wx ⟨rfl, rfl⟩
  have H11 := H10
  clear C H10
  go_wp2_with fail
  have C := GT.ruleLit H11.out ga7 (by rw [ca7]; decide) [120] (some 0) #[.string ⟨#[120]⟩] (needs := [[120]]) rfl rfl (by decide)
  rw [xa8] at C
  refine C.mono ?_
  rintro e w13 ⟨rfl, h⟩
  have H12 : Hid (GT 0 gb sA8 w w13) := h
  clear h C H11
  go_wp2_with fail
  have C := GT.rule H12.out ga8 (by rw [ca8]; decide) [98] (some 0) (A := none) (m := 0) (c := 0) (needs := []) Rd.nil (fun ad e => by cases e) (by decide) (by decide)
  rw [xa9] at C
  refine C.mono ?_
  rintro e w14 ⟨rfl, h⟩
  have H13 : Hid (GT 0 gb sA9 w w14) := h
  clear h C H12
  go_wp2_with fail
  have C := GT.get H13.out ga9 (by decide) [120]
  rw [xa10] at C
  simp only [ResV] at C
  refine C.mono ?_
  rintro e w15 ⟨rfl, h⟩
  have H14 : Hid (GT 0 gb sA10 w w15) := h
  clear h C H13
  go_wp2_with fail
  have C := GT.get H14.out ga10 (by decide) [110, 111, 110, 101]
  rw [xa11] at C
  simp only [ResV] at C
  refine C.mono ?_
  rintro e w16 ⟨rfl, h⟩
  have H15 := Lib.hid h.b
  clear h C H14
  go_wp2
  go_ret
  exact ⟨rfl, H15.out⟩
end Go.Proofs.Ytbikldmhfaecpaa
