/-
  Layer 49 (project): what is trimmed, what is a path, what stands behind an equals sign.
-/
import Derived.Test.YtmkenekngaihhaaGreatDoorMkF
import Derived.Test.YtmkenekngaihhaaGreatDoorLinesP
import Derived.Test.YtmkenekngaihhaaGreatDoorFilesD
import Derived.Test.YtmkenekngaihhaaGreatDoorLocB
import Derived.Test.YtmkenekngaihhaaGreatDoorPjP
import Derived.Test.YtmkenekngaihhaaGreatDoorMap
import Derived.Lib.IndexAny
namespace Go.Proofs.YtmkenekngaihhaaGreatDoor
open Go.RowKit
set_option linter.unusedVariables false
set_option linter.unusedSimpArgs false
attribute [local go_sem] B_data B_size

/-- a trimmed line of clean text -/
def trimB (s : List UInt8) : Bool := validB s && !decide (10 ∈ s) && (trim s == s)
/-- a path in normal form -/
def pathB (s : List UInt8) : Bool := decide (Fil.clean s ≠ []) && (Fil.clean s == s)
theorem contains_one (l : List UInt8) (c : UInt8) : decide (0 ≤ Lib.indexByte l c) = decide (c ∈ l) := by
  rw [← Lib.contains_iff_indexByte]
  simp
theorem toList_data (s : ByteArray) : s.data.toList = s.toList := (ByteArray.toList_eq s).symm
theorem str_beq (a b : ByteArray) : (a == b) = (a.toList == b.toList) := by
  have := B_beq a.toList b.toList
  rw [B_self, B_self] at this
  rw [this]
  by_cases h : a.toList = b.toList <;> simp [h]
theorem has_lf_any (s : ByteArray) (w : World) : Calls Tryz.prog 47 #[.string s, .string ⟨#[10]⟩] w fun e w' => e = .returned (.bool (decide (10 ∈ s.toList))) ∧ w = w' :=
  (Tryz.strings_Contains_one s 10 w).mono fun e w' ⟨h1, h2⟩ => ⟨by rw [h1, contains_one, toList_data], h2.symm⟩
set_option maxHeartbeats 2000000 in
set_option maxRecDepth 100000 in
theorem trimmed_any (s : ByteArray) (w : World) (hs : s.size ≤ 1000000000) :
    Calls Tryz.prog 17 #[.string s] w (QPost (trimB s.toList) w) := by
  have HC := Lib.hid (fun V => has_lf_any s V)
  have HT := Lib.hid (fun V => trim_any s V (by omega))
  have HV := Lib.hid (valid_any s w (by omega))
  cases a : validB s.toList
  · have HR : Hid (trimB s.toList = false) := by simp [trimB, a, Hid]
    rw [a] at HV
    clear a
    go_enter Tryz.func17, Tryz.ntmps17
    go_wp2_with fail
    refine HV.out.mono ?_
    rintro e w1 ⟨rfl, k, rfl⟩
    go_wp2
    go_ret
    exact ⟨by rw [HR.out]; rfl, _, rfl⟩
  · rw [a] at HV
    by_cases b : 10 ∈ s.toList
    · have HR : Hid (trimB s.toList = false) := by simp [trimB, a, b, Hid]
      have hd : decide (10 ∈ s.toList) = true := by simpa using b
      rw [hd] at HC
      clear a b hd
      go_enter Tryz.func17, Tryz.ntmps17
      go_wp2_with fail
      refine HV.out.mono ?_
      rintro e w1 ⟨rfl, k, rfl⟩
      go_wp2_with fail
      refine (HC.out _).mono ?_
      rintro e w1 ⟨rfl, rfl⟩
      go_wp2
      go_ret
      exact ⟨by rw [HR.out]; rfl, _, rfl⟩
    · have hd : decide (10 ∈ s.toList) = false := by simpa using b
      have HR : Hid (trimB s.toList = (trim s.toList == s.toList)) := by simp [trimB, a, b, Hid]
      rw [hd] at HC
      clear a b hd
      go_enter Tryz.func17, Tryz.ntmps17
      go_wp2_with fail
      refine HV.out.mono ?_
      rintro e w1 ⟨rfl, k, rfl⟩
      go_wp2_with fail
      refine (HC.out _).mono ?_
      rintro e w1 ⟨rfl, rfl⟩
      go_wp2_with fail
      refine (HT.out _).mono ?_
      rintro e w1 ⟨rfl, rfl⟩
      go_wp2
      go_ret
      exact ⟨by rw [HR.out]; rfl, _, rfl⟩
theorem below_of_quiet {w w' : World} (h : ∃ k, w' = w.drewN k) : Below w.heap.size w w' := by
  obtain ⟨k, rfl⟩ := h
  exact below_of_drewN _ _ _
/-- the chapter's line -/
def lineB (s : List UInt8) : Bool := !decide (10 ∈ s) && validB s
set_option maxHeartbeats 2000000 in
set_option maxRecDepth 100000 in
theorem rline_any (s : ByteArray) (w : World) (hs : s.size ≤ 1000000000) :
    Calls Tryz.prog 78 #[.string s] w (BPost (lineB s.toList) w) := by
  have HV := Lib.hid (rvalid_any s w hs)
  go_enter Tryz.func78, Tryz.ntmps78
  go_wp2
  go_loop [3] (fun i => ∃ k : Nat, k ≤ s.size ∧ i = .int .i64 k ∧ Hid (10 ∉ s.toList.take k)) (fun i => s.size - (intOf i).toNat)
  case atStart => exact ⟨0, Nat.zero_le _, rfl, by simp [Hid]⟩
  case round =>
    obtain ⟨k, hk, rfl, hno⟩ := hrel
    by_cases hlt : k < s.size
    · have ht := take_byte s k hlt
      by_cases hc : s[k].toNat = 10
      · have hb : ((s[k].toNat : Int) == 10) = true := by simp [hc]
        have HR : Hid (lineB s.toList = false) := by
          have hm : (10 : UInt8) ∈ s.toList := by
            have : s[k] = 10 := UInt8.toNat_inj.1 hc
            refine List.mem_of_mem_take (i := k + 1) ?_
            rw [ht, this]; simp
          simp [lineB, hm, Hid]
        clear ht hc hno
        go_wp2
        go_ret
        exact ⟨by rw [HR.out]; rfl, Below.refl _ _⟩
      · have hb : ((s[k].toNat : Int) == 10) = false := by
          cases h : ((s[k].toNat : Int) == 10) with
          | false => rfl
          | true =>
            have h : (s[k].toNat : Int) = 10 := by simpa using h
            exact absurd (by omega) hc
        have HN : Hid (10 ∉ s.toList.take (k + 1)) := by
          show 10 ∉ _
          rw [ht, List.mem_append, not_or]
          refine ⟨hno.out, ?_⟩
          intro h
          have : 10 = s[k] := by simpa using h
          exact hc (by rw [← this]; rfl)
        clear ht hc hno
        go_wp2
        go_round
        case rel => exact ⟨k + 1, by omega, by go_num, HN⟩
        case measure => simp [intOf]; omega
    · have HR : Hid (lineB s.toList = validB s.toList) := by
        have h10 : 10 ∉ s.toList := by
          have := hno.out
          rw [List.take_of_length_le (by rw [len_toList]; omega)] at this
          exact this
        simp [lineB, h10, Hid]
      clear hno
      go_wp2_with fail
      refine HV.out.mono ?_
      rintro e w1 ⟨rfl, hb⟩
      go_wp2
      go_ret
      exact ⟨by rw [HR.out]; rfl, hb⟩
set_option maxHeartbeats 2000000 in
set_option maxRecDepth 100000 in
theorem rtrimmed_any (s : ByteArray) (w : World) (hs : s.size ≤ 1000000000) :
    Calls Tryz.prog 53 #[.string s] w (BPost (trimB s.toList) w) := by
  have HT := Lib.hid (fun V => rtrim_any s V (by omega))
  have HV := Lib.hid (rline_any s w (by omega))
  cases a : lineB s.toList
  · have HR : Hid (trimB s.toList = false) := by
      show _ = _
      have : trimB s.toList = (lineB s.toList && (trim s.toList == s.toList)) := by unfold trimB lineB; cases validB s.toList <;> simp
      rw [this, a]; rfl
    rw [a] at HV
    clear a
    go_enter Tryz.func53, Tryz.ntmps53
    go_wp2_with fail
    refine HV.out.mono ?_
    rintro e w1 ⟨rfl, hb⟩
    go_wp2
    go_ret
    exact ⟨by rw [HR.out]; rfl, hb⟩
  · have HR : Hid (trimB s.toList = (trim s.toList == s.toList)) := by
      show _ = _
      have : trimB s.toList = (lineB s.toList && (trim s.toList == s.toList)) := by unfold trimB lineB; cases validB s.toList <;> simp
      rw [this, a]; rfl
    rw [a] at HV
    clear a
    go_enter Tryz.func53, Tryz.ntmps53
    go_wp2_with fail
    refine HV.out.mono ?_
    rintro e w1 ⟨rfl, hb⟩
    go_wp2_with fail
    refine (HT.out _).mono ?_
    rintro e w2 ⟨rfl, rfl⟩
    go_wp2
    go_ret
    exact ⟨by rw [HR.out]; rfl, hb⟩
theorem pathB_no {s : List UInt8} (h : Fil.clean s = []) : pathB s = false := by simp [pathB, h]
theorem pathB_yes {s : List UInt8} (h : Fil.clean s ≠ []) : pathB s = (Fil.clean s == s) := by simp [pathB, h]
set_option maxHeartbeats 2000000 in
set_option maxRecDepth 100000 in
theorem path_any (s : ByteArray) (w : World) (hs : s.size ≤ 1000000) (hG : Fil.Glob w) :
    Calls Tryz.prog 20 #[.string s] w (BPost (pathB s.toList) w) := by
  have HV := Lib.hid (Fil.clean_any s w hs hG)
  unfold Fil.CleanRet Fil.errK at HV
  by_cases h : Fil.clean s.toList = []
  · have HR := Lib.hid (pathB_no h)
    rw [if_pos h] at HV
    clear h
    go_enter Tryz.func20, Tryz.ntmps20
    go_wp2_with fail
    refine HV.out.mono ?_
    rintro e w1 ⟨rfl, hb⟩
    go_wp2
    go_ret
    exact ⟨by rw [HR.out]; rfl, hb⟩
  · have HR := Lib.hid (pathB_yes h)
    rw [if_neg h] at HV
    clear h
    go_enter Tryz.func20, Tryz.ntmps20
    go_wp2_with fail
    refine HV.out.mono ?_
    rintro e w1 ⟨rfl, hb⟩
    go_wp2
    go_ret
    exact ⟨by rw [HR.out]; rfl, hb⟩
set_option maxHeartbeats 2000000 in
set_option maxRecDepth 100000 in
theorem rpath_any (s : ByteArray) (w : World) (hs : s.size ≤ 1000000) :
    Calls Tryz.prog 55 #[.string s] w (BPost (pathB s.toList) w) := by
  have HV := Lib.hid (Fil.rclean_any s w hs)
  unfold Fil.CleanRet Fil.errK at HV
  by_cases h : Fil.clean s.toList = []
  · have HR := Lib.hid (pathB_no h)
    rw [if_pos h] at HV
    clear h
    go_enter Tryz.func55, Tryz.ntmps55
    go_wp2_with fail
    refine HV.out.mono ?_
    rintro e w1 ⟨rfl, hb⟩
    go_wp2
    go_ret
    exact ⟨by rw [HR.out]; rfl, hb⟩
  · have HR := Lib.hid (pathB_yes h)
    rw [if_neg h] at HV
    clear h
    go_enter Tryz.func55, Tryz.ntmps55
    go_wp2_with fail
    refine HV.out.mono ?_
    rintro e w1 ⟨rfl, hb⟩
    go_wp2
    go_ret
    exact ⟨by rw [HR.out]; rfl, hb⟩
end Go.Proofs.YtmkenekngaihhaaGreatDoor
