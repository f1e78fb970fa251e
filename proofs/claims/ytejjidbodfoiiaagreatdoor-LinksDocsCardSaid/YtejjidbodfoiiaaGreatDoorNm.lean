/-
  Layer 3 (attr): names.
-/
import Derived.Test.YtejjidbodfoiiaaGreatDoorBytes
namespace Go.Proofs.YtejjidbodfoiiaaGreatDoor
open Go.RowKit
set_option linter.unusedVariables false
set_option linter.unusedSimpArgs false
attribute [local go_sem] B_data B_size

def letB (c : UInt8) : Bool := (decide (97 ≤ c.toNat) && decide (c.toNat ≤ 122)) || (decide (65 ≤ c.toNat) && decide (c.toNat ≤ 90))
def prtB (c : UInt8) : Bool := letB c || (decide (48 ≤ c.toNat) && decide (c.toNat ≤ 57)) || decide (c.toNat = 45) || decide (c.toNat = 95) || decide (c.toNat = 46) || decide (c.toNat = 58)
/-- a name -/
def nm3 (s : List UInt8) : Bool := decide (1 ≤ s.length) && decide (s.length ≤ 60) && letB (s.getD 0 0) && s.all prtB
theorem aletter_any (c : UInt8) (w : World) : Calls Tryz.prog 39 #[.int .u8 (c.toNat : Int)] w fun e w' => e = .returned (.bool (letB c)) ∧ w = w' := by
  go_enter Tryz.func39, Tryz.ntmps39
  go_wp2
  all_goals
    go_ret
    refine ⟨ret_bool ?_, rfl⟩
    unfold letB
    rw [Bool.eq_iff_iff]
    simp only [Bool.or_eq_true, Bool.and_eq_true, decide_eq_true_eq, beq_iff_eq, bne_iff_ne, ne_eq, Bool.true_eq_false, Bool.false_eq_true, true_iff, false_iff]
    omega
set_option maxHeartbeats 1000000 in
theorem ainName_any (c : UInt8) (w : World) : Calls Tryz.prog 66 #[.int .u8 (c.toNat : Int)] w fun e w' => e = .returned (.bool (prtB c)) ∧ w = w' := by
  cases hl : letB c
  · have HL : Hid (prtB c = ((decide (48 ≤ c.toNat) && decide (c.toNat ≤ 57)) || decide (c.toNat = 45) || decide (c.toNat = 95) || decide (c.toNat = 46) || decide (c.toNat = 58))) := by simp [prtB, hl, Hid]
    have HC := Lib.hid (aletter_any c w)
    rw [hl] at HC
    clear hl
    go_enter Tryz.func66, Tryz.ntmps66
    go_wp2_with (first | ((with_reducible refine HC.out.mono ?_); rintro e w' ⟨rfl, rfl⟩))
    all_goals
      go_ret
      refine ⟨ret_bool ?_, rfl⟩
      rw [HL.out, Bool.eq_iff_iff]
      clear HC
      try simp only [beq_iff_eq, beq_eq_false_iff_ne, ne_eq] at *
      simp only [Bool.or_eq_true, Bool.and_eq_true, decide_eq_true_eq, beq_iff_eq, bne_iff_ne, ne_eq, Bool.true_eq_false, Bool.false_eq_true, true_iff, false_iff]
      omega
  · have HL : Hid (prtB c = true) := by simp [prtB, hl, Hid]
    have HC := Lib.hid (aletter_any c w)
    rw [hl] at HC
    clear hl
    go_enter Tryz.func66, Tryz.ntmps66
    go_wp2_with (first | ((with_reducible refine HC.out.mono ?_); rintro e w' ⟨rfl, rfl⟩))
    all_goals
      go_ret
      exact ⟨ret_bool HL.out.symm, rfl⟩
/-- where the longest sequence of characters of names ends -/
def wEnd (s : List UInt8) : Nat := (s.takeWhile prtB).length
theorem wEnd_all (s : List UInt8) : (wEnd s = s.length) ↔ s.all prtB = true := by
  unfold wEnd
  induction s with
  | nil => simp
  | cons c r ih =>
    rw [List.takeWhile_cons]
    cases h : prtB c
    · simp [h]
    · simp only [if_true, List.length_cons, List.all_cons, h, Bool.true_and, Nat.add_right_cancel_iff]
      exact ih
set_option maxHeartbeats 1000000 in
set_option maxRecDepth 100000 in
theorem awordEnd_any (s : ByteArray) (w : World) (hs : s.size ≤ 9223372036854775807) :
    Calls Tryz.prog 40 #[.string s, .int .i64 0] w fun e w' => e = .returned (.int .i64 (wEnd s.toList : Nat)) ∧ w = w' := by
  have HL := Lib.hid (len_toList s)
  go_enter Tryz.func40, Tryz.ntmps40
  go_wp2
  go_loop [1] (fun i => ∃ k : Nat, k ≤ s.size ∧ i = .int .i64 k ∧ Hid (wEnd s.toList = k + wEnd (s.toList.drop k))) (fun i => s.size - (intOf i).toNat)
  case atStart => exact ⟨0, Nat.zero_le _, rfl, by simp [Hid]⟩
  case round =>
    obtain ⟨k, hk, rfl, hr⟩ := hrel
    by_cases hlt : k < s.size
    · have HD := Lib.hid (drop_byte s k hlt)
      cases hp : prtB s[k]
      · have HF : Hid (wEnd s.toList = k) := by rw [hr.out, HD.out]; simp [wEnd, hp, Hid]
        go_wp2_with fail
        refine (ainName_any _ _).mono ?_
        rintro e w' ⟨rfl, rfl⟩
        rw [hp]
        go_wp2
        go_ret
        exact ⟨by rw [HF.out]; rfl, rfl⟩
      · have HF : Hid (wEnd s.toList = (k + 1) + wEnd (s.toList.drop (k + 1))) := by
          rw [hr.out, HD.out]
          simp only [wEnd, List.takeWhile_cons, hp, if_true, List.length_cons]
          show _ = _
          omega
        go_wp2_with fail
        refine (ainName_any _ _).mono ?_
        rintro e w' ⟨rfl, rfl⟩
        rw [hp]
        go_wp2
        go_round
        case rel => exact ⟨k + 1, by omega, by go_num, HF⟩
        case measure => simp [intOf]; omega
    · have HF : Hid (wEnd s.toList = k) := by rw [hr.out, List.drop_of_length_le (by rw [HL.out]; omega)]; rfl
      go_wp2
      go_ret
      exact ⟨by rw [HF.out]; rfl, rfl⟩
theorem nm3_short (s : ByteArray) (h : s.size = 0) : nm3 s.toList = false := by
  have : s.toList = [] := List.eq_nil_of_length_eq_zero (by rw [len_toList]; exact h)
  rw [this]; rfl
theorem nm3_long (s : ByteArray) (h : 60 < s.size) : nm3 s.toList = false := by
  simp [nm3, len_toList]; omega
theorem nm3_eq (s : ByteArray) (h : 0 < s.size) (h' : s.size ≤ 60) : nm3 s.toList = (letB s[0] && decide (wEnd s.toList = s.size)) := by
  have h0 : s.toList.getD 0 0 = s[0] := by
    have := drop_byte s 0 h
    rw [List.drop_zero] at this
    rw [this]; rfl
  have h1 : s.toList.all prtB = decide (wEnd s.toList = s.size) := by
    have := wEnd_all s.toList
    rw [len_toList] at this
    rw [Bool.eq_iff_iff, decide_eq_true_eq]
    exact this.symm
  unfold nm3
  rw [h0, h1, len_toList]
  have a : decide (1 ≤ s.size) = true := decide_eq_true h
  have b : decide (s.size ≤ 60) = true := by simpa using h'
  rw [a, b]; simp
set_option maxHeartbeats 1000000 in
set_option maxRecDepth 100000 in
theorem aname_any (s : ByteArray) (w : World) (hs : s.size ≤ 9223372036854775807) : Calls Tryz.prog 18 #[.string s] w fun e w' => e = .returned (.bool (nm3 s.toList)) ∧ w = w' := by
  by_cases h0 : s.size = 0
  · have HN := Lib.hid (nm3_short s h0)
    go_enter Tryz.func18, Tryz.ntmps18
    go_wp2
    go_ret
    exact ⟨ret_bool HN.out.symm, rfl⟩
  by_cases h60 : 60 < s.size
  · have HN := Lib.hid (nm3_long s h60)
    go_enter Tryz.func18, Tryz.ntmps18
    go_wp2
    go_ret
    exact ⟨ret_bool HN.out.symm, rfl⟩
  have hp : 0 < s.size := by omega
  have HN := Lib.hid (nm3_eq s hp (by omega))
  have HL := Lib.hid (aletter_any s[0] w)
  have q1 : ((s.size : Int) == 0) = false := by simpa using h0
  have q2 : decide (60 < (s.size : Int)) = false := by simp; omega
  cases hl : letB s[0]
  · have HN : Hid (nm3 s.toList = false) := by rw [HN.out, hl]; rfl
    rw [hl] at HL
    clear hl
    go_enter Tryz.func18, Tryz.ntmps18
    go_wp2_with fail
    refine HL.out.mono ?_
    rintro e w' ⟨rfl, rfl⟩
    go_wp2
    go_ret
    exact ⟨ret_bool HN.out.symm, rfl⟩
  · have HN : Hid (nm3 s.toList = decide (wEnd s.toList = s.size)) := by rw [HN.out, hl]; rfl
    rw [hl] at HL
    clear hl
    go_enter Tryz.func18, Tryz.ntmps18
    go_wp2_with fail
    refine HL.out.mono ?_
    rintro e w' ⟨rfl, rfl⟩
    go_wp2_with fail
    refine (awordEnd_any s _ hs).mono ?_
    rintro e w' ⟨rfl, rfl⟩
    go_wp2
    go_ret
    exact ⟨ret_bool (by rw [HN.out, Bool.eq_iff_iff]; simp; first | done | omega), rfl⟩
end Go.Proofs.YtejjidbodfoiiaaGreatDoor
