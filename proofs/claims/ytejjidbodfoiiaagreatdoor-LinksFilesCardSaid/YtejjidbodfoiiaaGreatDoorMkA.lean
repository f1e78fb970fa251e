/-
  Layer 1 (chars): bytes of names and of clean text; the functions on one byte.
-/
import Derived.Test.YtejjidbodfoiiaaGreatDoorMkS
import Derived.Test.YtejjidbodfoiiaaGreatDoorMem
namespace Go.Proofs.YtejjidbodfoiiaaGreatDoor
open Go.RowKit
set_option linter.unusedVariables false
set_option linter.unusedSimpArgs false
attribute [local go_sem] B_data B_size

/-- the length of a sequence by its first byte -/
def wid (n : Nat) : Nat := if n < 128 then 1 else if n < 194 then 0 else if n ≤ 223 then 2 else if n ≤ 239 then 3 else if n ≤ 244 then 4 else 0
set_option maxRecDepth 100000 in
theorem width_any (n : Nat) (w : World) : Calls Tryz.prog 148 #[.int .u8 (n : Int)] w fun e w' => e = .returned (.int .i64 ((wid n : Nat) : Int)) ∧ w = w' := by
  have HW : Hid (∀ k, k = wid n → k = wid n) := fun _ h => h
  go_enter Tryz.func148, Tryz.ntmps148
  go_wp2
  all_goals
    go_ret
    exact ⟨ret_int (by unfold wid; (repeat' split) <;> first | rfl | omega), rfl⟩
def loB (n : Nat) : Nat := if n = 224 then 160 else if n = 240 then 144 else 128
def hiB (n : Nat) : Nat := if n = 237 then 159 else if n = 244 then 143 else 191
set_option maxRecDepth 100000 in
theorem second_any (n : Nat) (w : World) : Calls Tryz.prog 149 #[.int .u8 (n : Int)] w fun e w' => e = .returned (.tuple #[.int .u8 ((loB n : Nat) : Int), .int .u8 ((hiB n : Nat) : Int)]) ∧ w = w' := by
  have key : ∀ a b, (n = 224 ∧ a = 160 ∧ b = 191) ∨ (n = 237 ∧ a = 128 ∧ b = 159) ∨ (n = 240 ∧ a = 144 ∧ b = 191) ∨ (n = 244 ∧ a = 128 ∧ b = 143) ∨ (n ≠ 224 ∧ n ≠ 237 ∧ n ≠ 240 ∧ n ≠ 244 ∧ a = 128 ∧ b = 191) → a = loB n ∧ b = hiB n := by
    intro a b h
    unfold loB hiB
    rcases h with ⟨rfl, rfl, rfl⟩ | ⟨rfl, rfl, rfl⟩ | ⟨rfl, rfl, rfl⟩ | ⟨rfl, rfl, rfl⟩ | ⟨h1, h2, h3, h4, rfl, rfl⟩
    · decide
    · decide
    · decide
    · decide
    · simp [h1, h2, h3, h4]
  have KEY := Lib.hid key
  clear key
  by_cases h1 : n = 224
  · subst h1
    go_enter Tryz.func149, Tryz.ntmps149
    go_wp2
    go_ret2
    exact ⟨rfl, rfl⟩
  by_cases h2 : n = 237
  · subst h2
    go_enter Tryz.func149, Tryz.ntmps149
    go_wp2
    go_ret2
    exact ⟨rfl, rfl⟩
  by_cases h3 : n = 240
  · subst h3
    go_enter Tryz.func149, Tryz.ntmps149
    go_wp2
    go_ret2
    exact ⟨rfl, rfl⟩
  by_cases h4 : n = 244
  · subst h4
    go_enter Tryz.func149, Tryz.ntmps149
    go_wp2
    go_ret2
    exact ⟨rfl, rfl⟩
  have d1 : ((n : Int) == 224) = false := beq_eq_false_iff_ne.2 (by omega)
  have d2 : ((n : Int) == 237) = false := beq_eq_false_iff_ne.2 (by omega)
  have d3 : ((n : Int) == 240) = false := beq_eq_false_iff_ne.2 (by omega)
  have d4 : ((n : Int) == 244) = false := beq_eq_false_iff_ne.2 (by omega)
  have HE := Lib.hid (KEY.out 128 191 (.inr (.inr (.inr (.inr ⟨h1, h2, h3, h4, rfl, rfl⟩)))))
  clear h1 h2 h3 h4 KEY
  go_enter Tryz.func149, Tryz.ntmps149
  go_wp2
  go_ret2
  exact ⟨by rw [← HE.out.1, ← HE.out.2]; rfl, rfl⟩
/-- a code point that clean text does not have -/
def unclB (c : Int) : Bool := (decide (c < 32) && c != 10) || c == 127
theorem unclean_any (c : Int) (w : World) : Calls Tryz.prog 126 #[.int .i64 c] w fun e w' => e = .returned (.bool (unclB c)) ∧ w = w' := by
  go_enter Tryz.func126, Tryz.ntmps126
  go_wp2
  all_goals
    go_ret
    refine ⟨ret_bool ?_, rfl⟩
    unfold unclB
    rw [Bool.eq_iff_iff]
    simp only [Bool.or_eq_true, Bool.and_eq_true, decide_eq_true_eq, beq_iff_eq, bne_iff_ne, ne_eq, Bool.true_eq_false, Bool.false_eq_true, true_iff, false_iff, not_or, not_and, Decidable.not_not, true_or, or_true]
    omega
theorem inName_any (c : UInt8) (w : World) : Calls Tryz.prog 127 #[.int .u8 (c.toNat : Int)] w fun e w' => e = .returned (.bool (partB c)) ∧ w = w' := by
  have HP : Hid (partB c = ((decide (97 ≤ c.toNat) && decide (c.toNat ≤ 122)) || (decide (48 ≤ c.toNat) && decide (c.toNat ≤ 57)) || decide (c.toNat = 45) || decide (c.toNat = 58))) := by
    unfold partB Hid
    rw [show (c == 45) = decide (c.toNat = 45) from by rw [Bool.eq_iff_iff]; simp [← UInt8.toNat_inj], show (c == 58) = decide (c.toNat = 58) from by rw [Bool.eq_iff_iff]; simp [← UInt8.toNat_inj]]
    simp only [UInt8.le_iff_toNat_le]
    rfl
  go_enter Tryz.func127, Tryz.ntmps127
  go_wp2
  all_goals
    go_ret
    refine ⟨ret_bool ?_, rfl⟩
    rw [HP.out, Bool.eq_iff_iff]
    simp only [Bool.or_eq_true, Bool.and_eq_true, decide_eq_true_eq, beq_iff_eq, bne_iff_ne, ne_eq, Bool.true_eq_false, Bool.false_eq_true, true_iff, false_iff]
    omega
theorem part_any (c : UInt8) (w : World) : Calls Tryz.prog 140 #[.int .u8 (c.toNat : Int)] w fun e w' => e = .returned (.bool (partB c)) ∧ w = w' := by
  have HP : Hid (partB c = ((decide (97 ≤ c.toNat) && decide (c.toNat ≤ 122)) || (decide (48 ≤ c.toNat) && decide (c.toNat ≤ 57)) || decide (c.toNat = 45) || decide (c.toNat = 58))) := by
    unfold partB Hid
    rw [show (c == 45) = decide (c.toNat = 45) from by rw [Bool.eq_iff_iff]; simp [← UInt8.toNat_inj], show (c == 58) = decide (c.toNat = 58) from by rw [Bool.eq_iff_iff]; simp [← UInt8.toNat_inj]]
    simp only [UInt8.le_iff_toNat_le]
    rfl
  go_enter Tryz.func140, Tryz.ntmps140
  go_wp2
  all_goals
    go_ret
    refine ⟨ret_bool ?_, rfl⟩
    rw [HP.out, Bool.eq_iff_iff]
    simp only [Bool.or_eq_true, Bool.and_eq_true, decide_eq_true_eq, beq_iff_eq, bne_iff_ne, ne_eq, Bool.true_eq_false, Bool.false_eq_true, true_iff, false_iff]
    omega
theorem rclean_any (c : Int) (w : World) : Calls Tryz.prog 153 #[.int .i64 c] w fun e w' => e = .returned (.bool (!unclB c)) ∧ w = w' := by
  go_enter Tryz.func153, Tryz.ntmps153
  go_wp2
  all_goals
    go_ret
    refine ⟨ret_bool ?_, rfl⟩
    unfold unclB
    rw [Bool.eq_iff_iff]
    simp only [Bool.not_eq_true', Bool.or_eq_false_iff, Bool.and_eq_false_iff, decide_eq_false_iff_not, bne_eq_false_iff_eq, beq_eq_false_iff_ne, Bool.or_eq_true, Bool.and_eq_true, decide_eq_true_eq, beq_iff_eq, bne_iff_ne, ne_eq, Bool.true_eq_false, Bool.false_eq_true, true_iff, false_iff]
    omega
theorem emptyB_eq (l : List UInt8) : emptyB l = (l == [98, 114] || (l == [104, 114] || (l == [105, 109, 103] || (l == [108, 105, 110, 107] || l == [109, 101, 116, 97])))) := by
  unfold emptyB emptyNames
  rw [Bool.eq_iff_iff]
  simp
set_option maxHeartbeats 1000000 in
theorem isEmpty_any (s : ByteArray) (w : World) : Calls Tryz.prog 99 #[.string s] w fun e w' => e = .returned (.bool (emptyB s.toList)) ∧ w = w' := by
  have HE := Lib.hid (emptyB_eq s.toList)
  go_enter Tryz.func99, Tryz.ntmps99
  go_wp2
  all_goals
    go_ret
    refine ⟨ret_bool ?_, rfl⟩
    rw [HE.out]
    simp_all
theorem rEmpty_any (s : ByteArray) (w : World) : Calls Tryz.prog 117 #[.string s] w fun e w' => e = .returned (.bool (emptyB s.toList)) ∧ w = w' := by
  have HE := Lib.hid (emptyB_eq s.toList)
  go_enter Tryz.func117, Tryz.ntmps117
  go_wp2
  all_goals
    go_ret
    refine ⟨ret_bool ?_, rfl⟩
    rw [HE.out]
    first | (simp_all; done) | (simp [Bool.or_assoc]; done) | rfl
theorem lowB_cons (s : ByteArray) (h : 0 < s.size) : lowB s.toList = (decide (97 ≤ s[0].toNat) && decide (s[0].toNat ≤ 122)) := by
  have := drop_byte s 0 h
  rw [List.drop_zero] at this
  rw [this, lowB]
  simp only [UInt8.le_iff_toNat_le]
  rfl
theorem nameB_nil (s : ByteArray) (h : s.size = 0) : nameB s.toList = false := by
  have : s.toList = [] := List.eq_nil_of_length_eq_zero (by rw [len_toList]; exact h)
  rw [this]; rfl
set_option maxHeartbeats 1000000 in
set_option maxRecDepth 100000 in
theorem isName_any (s : ByteArray) (w : World) (hs : s.size ≤ 9223372036854775807) : Calls Tryz.prog 98 #[.string s] w fun e w' => e = .returned (.bool (nameB s.toList)) ∧ w = w' := by
  have hl := len_toList s
  by_cases h0 : s.size = 0
  · have HN := Lib.hid (nameB_nil s h0)
    have h1 : s.toList = [] := List.eq_nil_of_length_eq_zero (by omega)
    go_enter Tryz.func98, Tryz.ntmps98
    go_wp2
    go_ret
    exact ⟨ret_bool HN.out.symm, rfl⟩
  have h1 : (s.toList == []) = false := by
    rw [beq_eq_false_iff_ne]; intro e; rw [e] at hl; simp at hl; omega
  have h2 : s.toList.isEmpty = false := isEmpty_of s (by omega)
  have hp : 0 < s.size := by omega
  have HLO := Lib.hid (lowB_cons s hp)
  have HL := Lib.hid hl
  clear hl h0
  by_cases h60 : 60 < s.size
  · have HN : Hid (nameB s.toList = false) := by unfold nameB Hid; rw [HL.out]; simp; omega
    go_enter Tryz.func98, Tryz.ntmps98
    go_wp2
    go_ret
    exact ⟨ret_bool HN.out.symm, rfl⟩
  by_cases hlo : 97 ≤ s[0].toNat ∧ s[0].toNat ≤ 122
  · have HN : Hid (nameB s.toList = s.toList.all partB) := by unfold nameB Hid; rw [HL.out, HLO.out]; simp [hlo]; omega
    obtain ⟨l1, l2⟩ := hlo
    go_enter Tryz.func98, Tryz.ntmps98
    go_wp2
    go_loop [3, 23] (fun _ i => ∃ k : Nat, k ≤ s.size ∧ i = .int .i64 k ∧ Hid (nameB s.toList = (s.toList.drop k).all partB)) (fun _ i => s.size - (intOf i).toNat)
    case atStart => exact ⟨0, Nat.zero_le _, rfl, HN⟩
    case round =>
      obtain ⟨k, hk, rfl, hr⟩ := hrel
      by_cases hlt : k < s.size
      · have HD := Lib.hid (drop_byte s k hlt)
        cases hp : partB s[k]
        · have HF : Hid (nameB s.toList = false) := by rw [hr.out, HD.out]; simp [hp, Hid]
          go_wp2_with fail
          refine (inName_any _ _).mono ?_
          rintro e w' ⟨rfl, rfl⟩
          rw [hp]
          go_wp2
          go_ret
          exact ⟨ret_bool HF.out.symm, rfl⟩
        · have HF : Hid (nameB s.toList = (s.toList.drop (k + 1)).all partB) := by rw [hr.out, HD.out]; simp [hp, Hid]
          go_wp2_with fail
          refine (inName_any _ _).mono ?_
          rintro e w' ⟨rfl, rfl⟩
          rw [hp]
          go_wp2
          go_round
          case rel => exact ⟨k + 1, by omega, by go_num, HF⟩
          case measure => simp [intOf]; omega
      · have HF : Hid (nameB s.toList = true) := by rw [hr.out, List.drop_of_length_le (by rw [HL.out]; omega)]; rfl
        go_wp2
        go_ret
        exact ⟨ret_bool HF.out.symm, rfl⟩
  · have HN : Hid (nameB s.toList = false) := by
      unfold nameB Hid; rw [HLO.out]
      simp
      intro _ _ h
      omega
    by_cases l1 : 97 ≤ s[0].toNat
    all_goals
      go_enter Tryz.func98, Tryz.ntmps98
      go_wp2
      all_goals first | (exfalso; omega) | skip
      go_ret
      exact ⟨ret_bool HN.out.symm, rfl⟩
set_option maxHeartbeats 1000000 in
set_option maxRecDepth 100000 in
theorem rName_any (s : ByteArray) (w : World) (hs : s.size ≤ 9223372036854775807) : Calls Tryz.prog 141 #[.string s] w fun e w' => e = .returned (.bool (nameB s.toList)) ∧ w = w' := by
  have HL := Lib.hid (len_toList s)
  have HN : Hid (nameB s.toList = (s.toList.all partB && (decide (s.size ≤ 60) && lowB s.toList))) := by unfold nameB Hid; rw [HL.out]
  have HLO := Lib.hid (lowB_cons s)
  have HNN := Lib.hid (nameB_nil s)
  go_enter Tryz.func141, Tryz.ntmps141
  go_wp2
  go_loop [3] (fun i => ∃ k : Nat, k ≤ s.size ∧ i = .int .i64 k ∧ Hid (s.toList.all partB = (s.toList.drop k).all partB)) (fun i => s.size - (intOf i).toNat)
  case atStart => exact ⟨0, Nat.zero_le _, rfl, rfl⟩
  case round =>
    obtain ⟨k, hk, rfl, hr⟩ := hrel
    by_cases hlt : k < s.size
    · have HD := Lib.hid (drop_byte s k hlt)
      cases hp : partB s[k]
      · have HF : Hid (nameB s.toList = false) := by rw [HN.out, hr.out, HD.out]; simp [hp, Hid]
        go_wp2_with fail
        refine (part_any _ _).mono ?_
        rintro e w' ⟨rfl, rfl⟩
        rw [hp]
        go_wp2
        go_ret
        exact ⟨ret_bool HF.out.symm, rfl⟩
      · have HF : Hid (s.toList.all partB = (s.toList.drop (k + 1)).all partB) := by rw [hr.out, HD.out]; simp [hp, Hid]
        go_wp2_with fail
        refine (part_any _ _).mono ?_
        rintro e w' ⟨rfl, rfl⟩
        rw [hp]
        go_wp2
        go_round
        case rel => exact ⟨k + 1, by omega, by go_num, HF⟩
        case measure => simp [intOf]; omega
    · have HA : Hid (s.toList.all partB = true) := by rw [hr.out, List.drop_of_length_le (by rw [HL.out]; omega)]; rfl
      obtain rfl : k = s.size := by omega
      by_cases h0 : s.size = 0
      · have HF := Lib.hid (HNN.out h0)
        have d1 : decide (1 ≤ s.size) = false := decide_eq_false (by omega)
        clear hlt hr
        go_wp2
        go_ret
        exact ⟨ret_bool HF.out.symm, rfl⟩
      · have hp : 0 < s.size := by omega
        have hp' : 1 ≤ s.size := hp
        have HF : Hid (nameB s.toList = (decide (s.size ≤ 60) && (decide (97 ≤ s[0].toNat) && decide (s[0].toNat ≤ 122)))) := by rw [HN.out, HA.out, HLO.out hp]; rfl
        clear hlt hr
        go_wp2
        all_goals
          go_ret
          refine ⟨ret_bool ?_, rfl⟩
          rw [HF.out, Bool.eq_iff_iff]
          simp only [Bool.or_eq_true, Bool.and_eq_true, decide_eq_true_eq, beq_iff_eq, bne_iff_ne, ne_eq, Bool.true_eq_false, Bool.false_eq_true, true_iff, false_iff]
          omega
end Go.Proofs.YtejjidbodfoiiaaGreatDoor
