/-
  Layer 49 (project): what is trimmed, what is a path, what stands behind an equals sign.
-/
import Derived.Test.YtmkenekngaihhaaDoorMkF
import Derived.Test.YtmkenekngaihhaaDoorLinesP
import Derived.Test.YtmkenekngaihhaaDoorFilesD
import Derived.Test.YtmkenekngaihhaaDoorLocB
import Derived.Test.YtmkenekngaihhaaDoorPjP
import Derived.Test.YtmkenekngaihhaaDoorMap
import Derived.Lib.IndexAny
namespace Go.Proofs.YtmkenekngaihhaaDoor
open Go.RowKit
set_option linter.unusedVariables false
set_option linter.unusedSimpArgs false
attribute [local go_sem] B_data B_size

/-- a trimmed line of clean text -/
def trimB (s : List UInt8) : Bool := validB s && !decide (10 ∈ s) && (trim s == s)
/-- a path in normal form -/
def pathB (s : List UInt8) : Bool := decide (Fil.clean s ≠ []) && (Fil.clean s == s)
theorem contains_one (l : List UInt8) (c : UInt8) : decide (0 ≤ Lib.indexByte l c) = decide (c ∈ l) := by
  rw [← Lib.contains_iff_indexByte]
  simp
theorem toList_data (s : ByteArray) : s.data.toList = s.toList := (ByteArray.toList_eq s).symm
theorem has_lf_any (s : ByteArray) (w : World) : Calls Tryd.prog 35 #[.string s, .string ⟨#[10]⟩] w fun e w' => e = .returned (.bool (decide (10 ∈ s.toList))) ∧ w = w' :=
  (Tryd.strings_Contains_one s 10 w).mono fun e w' ⟨h1, h2⟩ => ⟨by rw [h1, contains_one, toList_data], h2.symm⟩
set_option maxHeartbeats 2000000 in
set_option maxRecDepth 100000 in
theorem trimmed_any (s : ByteArray) (w : World) (hs : s.size ≤ 1000000000) :
    Calls Tryd.prog 23 #[.string s] w (QPost (trimB s.toList) w) := by
  have HC := Lib.hid (fun V => has_lf_any s V)
  have HT := Lib.hid (fun V => trim_any s V (by omega))
  have HV := Lib.hid (valid_any s w (by omega))
  cases a : validB s.toList
  · have HR : Hid (trimB s.toList = false) := by simp [trimB, a, Hid]
    rw [a] at HV
    clear a
    go_enter Tryd.func23, Tryd.ntmps23
    go_wp2_with fail
    refine HV.out.mono ?_
    rintro e w1 ⟨rfl, k, rfl⟩
    go_wp2
    go_ret
    exact ⟨by rw [HR.out]; rfl, _, rfl⟩
  · rw [a] at HV
    by_cases b : 10 ∈ s.toList
    · have HR : Hid (trimB s.toList = false) := by simp [trimB, a, b, Hid]
      have hd : decide (10 ∈ s.toList) = true := by simpa using b
      rw [hd] at HC
      clear a b hd
      go_enter Tryd.func23, Tryd.ntmps23
      go_wp2_with fail
      refine HV.out.mono ?_
      rintro e w1 ⟨rfl, k, rfl⟩
      go_wp2_with fail
      refine (HC.out _).mono ?_
      rintro e w1 ⟨rfl, rfl⟩
      go_wp2
      go_ret
      exact ⟨by rw [HR.out]; rfl, _, rfl⟩
    · have hd : decide (10 ∈ s.toList) = false := by simpa using b
      have HR : Hid (trimB s.toList = (trim s.toList == s.toList)) := by simp [trimB, a, b, Hid]
      rw [hd] at HC
      clear a b hd
      go_enter Tryd.func23, Tryd.ntmps23
      go_wp2_with fail
      refine HV.out.mono ?_
      rintro e w1 ⟨rfl, k, rfl⟩
      go_wp2_with fail
      refine (HC.out _).mono ?_
      rintro e w1 ⟨rfl, rfl⟩
      go_wp2_with fail
      refine (HT.out _).mono ?_
      rintro e w1 ⟨rfl, rfl⟩
      go_wp2
      go_ret
      exact ⟨by rw [HR.out]; rfl, _, rfl⟩
theorem below_of_quiet {w w' : World} (h : ∃ k, w' = w.drewN k) : Below w.heap.size w w' := by
  obtain ⟨k, rfl⟩ := h
  exact below_of_drewN _ _ _
theorem pathB_no {s : List UInt8} (h : Fil.clean s = []) : pathB s = false := by simp [pathB, h]
theorem pathB_yes {s : List UInt8} (h : Fil.clean s ≠ []) : pathB s = (Fil.clean s == s) := by simp [pathB, h]
set_option maxHeartbeats 2000000 in
set_option maxRecDepth 100000 in
theorem path_any (s : ByteArray) (w : World) (hs : s.size ≤ 1000000) (hG : Fil.Glob w) :
    Calls Tryd.prog 26 #[.string s] w (BPost (pathB s.toList) w) := by
  have HV := Lib.hid (Fil.clean_any s w hs hG)
  unfold Fil.CleanRet Fil.errK at HV
  by_cases h : Fil.clean s.toList = []
  · have HR := Lib.hid (pathB_no h)
    rw [if_pos h] at HV
    clear h
    go_enter Tryd.func26, Tryd.ntmps26
    go_wp2_with fail
    refine HV.out.mono ?_
    rintro e w1 ⟨rfl, hb⟩
    go_wp2
    go_ret
    exact ⟨by rw [HR.out]; rfl, hb⟩
  · have HR := Lib.hid (pathB_yes h)
    rw [if_neg h] at HV
    clear h
    go_enter Tryd.func26, Tryd.ntmps26
    go_wp2_with fail
    refine HV.out.mono ?_
    rintro e w1 ⟨rfl, hb⟩
    go_wp2
    go_ret
    exact ⟨by rw [HR.out]; rfl, hb⟩
end Go.Proofs.YtmkenekngaihhaaDoor
