/-
  Layer 1 (chars): bytes of names and of clean text; the functions on one byte.
  Layer 1 (chars): Next and Valid.
  Layer 1 (chars): Valid, the program's and the chapter's.
-/
import Derived.Test.YtejjidbodfoiiaaGreatDoorMkPS
import Derived.Test.YtejjidbodfoiiaaGreatDoorMem
import Derived.LoopN
import Derived.IntWalk
namespace Go.Proofs.YtejjidbodfoiiaaGreatDoor
open Go.RowKit
set_option linter.unusedVariables false
set_option linter.unusedSimpArgs false
attribute [local go_sem] B_data B_size

/-- the length of a sequence by its first byte -/
def wid (n : Nat) : Nat := if n < 128 then 1 else if n < 194 then 0 else if n ≤ 223 then 2 else if n ≤ 239 then 3 else if n ≤ 244 then 4 else 0
set_option maxRecDepth 100000 in
theorem width_any (n : Nat) (w : World) : Calls Tryz.prog 148 #[.int .u8 (n : Int)] w fun e w' => e = .returned (.int .i64 ((wid n : Nat) : Int)) ∧ w = w' := by
  have HW : Hid (∀ k, k = wid n → k = wid n) := fun _ h => h
  go_enter Tryz.func148, Tryz.ntmps148
  go_wp2
  all_goals
    go_ret
    exact ⟨ret_int (by unfold wid; (repeat' split) <;> first | rfl | omega), rfl⟩
def loB (n : Nat) : Nat := if n = 224 then 160 else if n = 240 then 144 else 128
def hiB (n : Nat) : Nat := if n = 237 then 159 else if n = 244 then 143 else 191
set_option maxRecDepth 100000 in
theorem second_any (n : Nat) (w : World) : Calls Tryz.prog 149 #[.int .u8 (n : Int)] w fun e w' => e = .returned (.tuple #[.int .u8 ((loB n : Nat) : Int), .int .u8 ((hiB n : Nat) : Int)]) ∧ w = w' := by
  have key : ∀ a b, (n = 224 ∧ a = 160 ∧ b = 191) ∨ (n = 237 ∧ a = 128 ∧ b = 159) ∨ (n = 240 ∧ a = 144 ∧ b = 191) ∨ (n = 244 ∧ a = 128 ∧ b = 143) ∨ (n ≠ 224 ∧ n ≠ 237 ∧ n ≠ 240 ∧ n ≠ 244 ∧ a = 128 ∧ b = 191) → a = loB n ∧ b = hiB n := by
    intro a b h
    unfold loB hiB
    rcases h with ⟨rfl, rfl, rfl⟩ | ⟨rfl, rfl, rfl⟩ | ⟨rfl, rfl, rfl⟩ | ⟨rfl, rfl, rfl⟩ | ⟨h1, h2, h3, h4, rfl, rfl⟩
    · decide
    · decide
    · decide
    · decide
    · simp [h1, h2, h3, h4]
  have KEY := Lib.hid key
  clear key
  by_cases h1 : n = 224
  · subst h1
    go_enter Tryz.func149, Tryz.ntmps149
    go_wp2
    go_ret2
    exact ⟨rfl, rfl⟩
  by_cases h2 : n = 237
  · subst h2
    go_enter Tryz.func149, Tryz.ntmps149
    go_wp2
    go_ret2
    exact ⟨rfl, rfl⟩
  by_cases h3 : n = 240
  · subst h3
    go_enter Tryz.func149, Tryz.ntmps149
    go_wp2
    go_ret2
    exact ⟨rfl, rfl⟩
  by_cases h4 : n = 244
  · subst h4
    go_enter Tryz.func149, Tryz.ntmps149
    go_wp2
    go_ret2
    exact ⟨rfl, rfl⟩
  have d1 : ((n : Int) == 224) = false := beq_eq_false_iff_ne.2 (by omega)
  have d2 : ((n : Int) == 237) = false := beq_eq_false_iff_ne.2 (by omega)
  have d3 : ((n : Int) == 240) = false := beq_eq_false_iff_ne.2 (by omega)
  have d4 : ((n : Int) == 244) = false := beq_eq_false_iff_ne.2 (by omega)
  have HE := Lib.hid (KEY.out 128 191 (.inr (.inr (.inr (.inr ⟨h1, h2, h3, h4, rfl, rfl⟩)))))
  clear h1 h2 h3 h4 KEY
  go_enter Tryz.func149, Tryz.ntmps149
  go_wp2
  go_ret2
  exact ⟨by rw [← HE.out.1, ← HE.out.2]; rfl, rfl⟩
/-- a code point that clean text does not have -/
def unclB (c : Int) : Bool := (decide (c < 32) && c != 10) || c == 127
theorem unclean_any (c : Int) (w : World) : Calls Tryz.prog 126 #[.int .i64 c] w fun e w' => e = .returned (.bool (unclB c)) ∧ w = w' := by
  go_enter Tryz.func126, Tryz.ntmps126
  go_wp2
  all_goals
    go_ret
    refine ⟨ret_bool ?_, rfl⟩
    unfold unclB
    rw [Bool.eq_iff_iff]
    simp only [Bool.or_eq_true, Bool.and_eq_true, decide_eq_true_eq, beq_iff_eq, bne_iff_ne, ne_eq, Bool.true_eq_false, Bool.false_eq_true, true_iff, false_iff, not_or, not_and, Decidable.not_not, true_or, or_true]
    omega
theorem inName_any (c : UInt8) (w : World) : Calls Tryz.prog 127 #[.int .u8 (c.toNat : Int)] w fun e w' => e = .returned (.bool (partB c)) ∧ w = w' := by
  have HP : Hid (partB c = ((decide (97 ≤ c.toNat) && decide (c.toNat ≤ 122)) || (decide (48 ≤ c.toNat) && decide (c.toNat ≤ 57)) || decide (c.toNat = 45) || decide (c.toNat = 58))) := by
    unfold partB Hid
    rw [show (c == 45) = decide (c.toNat = 45) from by rw [Bool.eq_iff_iff]; simp [← UInt8.toNat_inj], show (c == 58) = decide (c.toNat = 58) from by rw [Bool.eq_iff_iff]; simp [← UInt8.toNat_inj]]
    simp only [UInt8.le_iff_toNat_le]
    rfl
  go_enter Tryz.func127, Tryz.ntmps127
  go_wp2
  all_goals
    go_ret
    refine ⟨ret_bool ?_, rfl⟩
    rw [HP.out, Bool.eq_iff_iff]
    simp only [Bool.or_eq_true, Bool.and_eq_true, decide_eq_true_eq, beq_iff_eq, bne_iff_ne, ne_eq, Bool.true_eq_false, Bool.false_eq_true, true_iff, false_iff]
    omega
theorem part_any (c : UInt8) (w : World) : Calls Tryz.prog 140 #[.int .u8 (c.toNat : Int)] w fun e w' => e = .returned (.bool (partB c)) ∧ w = w' := by
  have HP : Hid (partB c = ((decide (97 ≤ c.toNat) && decide (c.toNat ≤ 122)) || (decide (48 ≤ c.toNat) && decide (c.toNat ≤ 57)) || decide (c.toNat = 45) || decide (c.toNat = 58))) := by
    unfold partB Hid
    rw [show (c == 45) = decide (c.toNat = 45) from by rw [Bool.eq_iff_iff]; simp [← UInt8.toNat_inj], show (c == 58) = decide (c.toNat = 58) from by rw [Bool.eq_iff_iff]; simp [← UInt8.toNat_inj]]
    simp only [UInt8.le_iff_toNat_le]
    rfl
  go_enter Tryz.func140, Tryz.ntmps140
  go_wp2
  all_goals
    go_ret
    refine ⟨ret_bool ?_, rfl⟩
    rw [HP.out, Bool.eq_iff_iff]
    simp only [Bool.or_eq_true, Bool.and_eq_true, decide_eq_true_eq, beq_iff_eq, bne_iff_ne, ne_eq, Bool.true_eq_false, Bool.false_eq_true, true_iff, false_iff]
    omega
theorem rclean_any (c : Int) (w : World) : Calls Tryz.prog 153 #[.int .i64 c] w fun e w' => e = .returned (.bool (!unclB c)) ∧ w = w' := by
  go_enter Tryz.func153, Tryz.ntmps153
  go_wp2
  all_goals
    go_ret
    refine ⟨ret_bool ?_, rfl⟩
    unfold unclB
    rw [Bool.eq_iff_iff]
    simp only [Bool.not_eq_true', Bool.or_eq_false_iff, Bool.and_eq_false_iff, decide_eq_false_iff_not, bne_eq_false_iff_eq, beq_eq_false_iff_ne, Bool.or_eq_true, Bool.and_eq_true, decide_eq_true_eq, beq_iff_eq, bne_iff_ne, ne_eq, Bool.true_eq_false, Bool.false_eq_true, true_iff, false_iff]
    omega
theorem emptyB_eq (l : List UInt8) : emptyB l = (l == [98, 114] || (l == [104, 114] || (l == [105, 109, 103] || (l == [108, 105, 110, 107] || l == [109, 101, 116, 97])))) := by
  unfold emptyB emptyNames
  rw [Bool.eq_iff_iff]
  simp
set_option maxHeartbeats 1000000 in
theorem isEmpty_any (s : ByteArray) (w : World) : Calls Tryz.prog 99 #[.string s] w fun e w' => e = .returned (.bool (emptyB s.toList)) ∧ w = w' := by
  have HE := Lib.hid (emptyB_eq s.toList)
  go_enter Tryz.func99, Tryz.ntmps99
  go_wp2
  all_goals
    go_ret
    refine ⟨ret_bool ?_, rfl⟩
    rw [HE.out]
    simp_all
theorem rEmpty_any (s : ByteArray) (w : World) : Calls Tryz.prog 117 #[.string s] w fun e w' => e = .returned (.bool (emptyB s.toList)) ∧ w = w' := by
  have HE := Lib.hid (emptyB_eq s.toList)
  go_enter Tryz.func117, Tryz.ntmps117
  go_wp2
  all_goals
    go_ret
    refine ⟨ret_bool ?_, rfl⟩
    rw [HE.out]
    first | (simp_all; done) | (simp [Bool.or_assoc]; done) | rfl
theorem lowB_cons (s : ByteArray) (h : 0 < s.size) : lowB s.toList = (decide (97 ≤ s[0].toNat) && decide (s[0].toNat ≤ 122)) := by
  have := drop_byte s 0 h
  rw [List.drop_zero] at this
  rw [this, lowB]
  simp only [UInt8.le_iff_toNat_le]
  rfl
theorem nameB_nil (s : ByteArray) (h : s.size = 0) : nameB s.toList = false := by
  have : s.toList = [] := List.eq_nil_of_length_eq_zero (by rw [len_toList]; exact h)
  rw [this]; rfl
set_option maxHeartbeats 1000000 in
set_option maxRecDepth 100000 in
theorem isName_any (s : ByteArray) (w : World) (hs : s.size ≤ 9223372036854775807) : Calls Tryz.prog 98 #[.string s] w fun e w' => e = .returned (.bool (nameB s.toList)) ∧ w = w' := by
  have hl := len_toList s
  by_cases h0 : s.size = 0
  · have HN := Lib.hid (nameB_nil s h0)
    have h1 : s.toList = [] := List.eq_nil_of_length_eq_zero (by omega)
    go_enter Tryz.func98, Tryz.ntmps98
    go_wp2
    go_ret
    exact ⟨ret_bool HN.out.symm, rfl⟩
  have h1 : (s.toList == []) = false := by
    rw [beq_eq_false_iff_ne]; intro e; rw [e] at hl; simp at hl; omega
  have h2 : s.toList.isEmpty = false := isEmpty_of s (by omega)
  have hp : 0 < s.size := by omega
  have HLO := Lib.hid (lowB_cons s hp)
  have HL := Lib.hid hl
  clear hl h0
  by_cases h60 : 60 < s.size
  · have HN : Hid (nameB s.toList = false) := by unfold nameB Hid; rw [HL.out]; simp; omega
    go_enter Tryz.func98, Tryz.ntmps98
    go_wp2
    go_ret
    exact ⟨ret_bool HN.out.symm, rfl⟩
  by_cases hlo : 97 ≤ s[0].toNat ∧ s[0].toNat ≤ 122
  · have HN : Hid (nameB s.toList = s.toList.all partB) := by unfold nameB Hid; rw [HL.out, HLO.out]; simp [hlo]; omega
    obtain ⟨l1, l2⟩ := hlo
    go_enter Tryz.func98, Tryz.ntmps98
    go_wp2
    go_loop [3, 23] (fun _ i => ∃ k : Nat, k ≤ s.size ∧ i = .int .i64 k ∧ Hid (nameB s.toList = (s.toList.drop k).all partB)) (fun _ i => s.size - (intOf i).toNat)
    case atStart => exact ⟨0, Nat.zero_le _, rfl, HN⟩
    case round =>
      obtain ⟨k, hk, rfl, hr⟩ := hrel
      by_cases hlt : k < s.size
      · have HD := Lib.hid (drop_byte s k hlt)
        cases hp : partB s[k]
        · have HF : Hid (nameB s.toList = false) := by rw [hr.out, HD.out]; simp [hp, Hid]
          go_wp2_with fail
          refine (inName_any _ _).mono ?_
          rintro e w' ⟨rfl, rfl⟩
          rw [hp]
          go_wp2
          go_ret
          exact ⟨ret_bool HF.out.symm, rfl⟩
        · have HF : Hid (nameB s.toList = (s.toList.drop (k + 1)).all partB) := by rw [hr.out, HD.out]; simp [hp, Hid]
          go_wp2_with fail
          refine (inName_any _ _).mono ?_
          rintro e w' ⟨rfl, rfl⟩
          rw [hp]
          go_wp2
          go_round
          case rel => exact ⟨k + 1, by omega, by go_num, HF⟩
          case measure => simp [intOf]; omega
      · have HF : Hid (nameB s.toList = true) := by rw [hr.out, List.drop_of_length_le (by rw [HL.out]; omega)]; rfl
        go_wp2
        go_ret
        exact ⟨ret_bool HF.out.symm, rfl⟩
  · have HN : Hid (nameB s.toList = false) := by
      unfold nameB Hid; rw [HLO.out]
      simp
      intro _ _ h
      omega
    by_cases l1 : 97 ≤ s[0].toNat
    all_goals
      go_enter Tryz.func98, Tryz.ntmps98
      go_wp2
      all_goals first | (exfalso; omega) | skip
      go_ret
      exact ⟨ret_bool HN.out.symm, rfl⟩
set_option maxHeartbeats 1000000 in
set_option maxRecDepth 100000 in
theorem rName_any (s : ByteArray) (w : World) (hs : s.size ≤ 9223372036854775807) : Calls Tryz.prog 141 #[.string s] w fun e w' => e = .returned (.bool (nameB s.toList)) ∧ w = w' := by
  have HL := Lib.hid (len_toList s)
  have HN : Hid (nameB s.toList = (s.toList.all partB && (decide (s.size ≤ 60) && lowB s.toList))) := by unfold nameB Hid; rw [HL.out]
  have HLO := Lib.hid (lowB_cons s)
  have HNN := Lib.hid (nameB_nil s)
  go_enter Tryz.func141, Tryz.ntmps141
  go_wp2
  go_loop [3] (fun i => ∃ k : Nat, k ≤ s.size ∧ i = .int .i64 k ∧ Hid (s.toList.all partB = (s.toList.drop k).all partB)) (fun i => s.size - (intOf i).toNat)
  case atStart => exact ⟨0, Nat.zero_le _, rfl, rfl⟩
  case round =>
    obtain ⟨k, hk, rfl, hr⟩ := hrel
    by_cases hlt : k < s.size
    · have HD := Lib.hid (drop_byte s k hlt)
      cases hp : partB s[k]
      · have HF : Hid (nameB s.toList = false) := by rw [HN.out, hr.out, HD.out]; simp [hp, Hid]
        go_wp2_with fail
        refine (part_any _ _).mono ?_
        rintro e w' ⟨rfl, rfl⟩
        rw [hp]
        go_wp2
        go_ret
        exact ⟨ret_bool HF.out.symm, rfl⟩
      · have HF : Hid (s.toList.all partB = (s.toList.drop (k + 1)).all partB) := by rw [hr.out, HD.out]; simp [hp, Hid]
        go_wp2_with fail
        refine (part_any _ _).mono ?_
        rintro e w' ⟨rfl, rfl⟩
        rw [hp]
        go_wp2
        go_round
        case rel => exact ⟨k + 1, by omega, by go_num, HF⟩
        case measure => simp [intOf]; omega
    · have HA : Hid (s.toList.all partB = true) := by rw [hr.out, List.drop_of_length_le (by rw [HL.out]; omega)]; rfl
      obtain rfl : k = s.size := by omega
      by_cases h0 : s.size = 0
      · have HF := Lib.hid (HNN.out h0)
        have d1 : decide (1 ≤ s.size) = false := decide_eq_false (by omega)
        clear hlt hr
        go_wp2
        go_ret
        exact ⟨ret_bool HF.out.symm, rfl⟩
      · have hp : 0 < s.size := by omega
        have hp' : 1 ≤ s.size := hp
        have HF : Hid (nameB s.toList = (decide (s.size ≤ 60) && (decide (97 ≤ s[0].toNat) && decide (s[0].toNat ≤ 122)))) := by rw [HN.out, HA.out, HLO.out hp]; rfl
        clear hlt hr
        go_wp2
        all_goals
          go_ret
          refine ⟨ret_bool ?_, rfl⟩
          rw [HF.out, Bool.eq_iff_iff]
          simp only [Bool.or_eq_true, Bool.and_eq_true, decide_eq_true_eq, beq_iff_eq, bne_iff_ne, ne_eq, Bool.true_eq_false, Bool.false_eq_true, true_iff, false_iff]
          omega
end Go.Proofs.YtejjidbodfoiiaaGreatDoor
namespace Go.Proofs.YtejjidbodfoiiaaGreatDoor
open Go.RowKit
set_option linter.unusedVariables false
set_option linter.unusedSimpArgs false
attribute [local go_sem] B_data B_size

theorem cont_iff (x : UInt8) : contB x = true ↔ 128 ≤ x.toNat ∧ x.toNat ≤ 191 := by
  simp only [contB, Bool.and_eq_true, decide_eq_true_eq, UInt8.le_iff_toNat_le]; exact Iff.rfl
theorem two_iff (b x : UInt8) : two b x = true ↔ (194 ≤ b.toNat ∧ b.toNat ≤ 223) ∧ (128 ≤ x.toNat ∧ x.toNat ≤ 191) := by
  simp only [two, Bool.and_eq_true, decide_eq_true_eq, UInt8.le_iff_toNat_le, cont_iff]; exact Iff.rfl
theorem snd_iff (b x : UInt8) : sndB b x = true ↔ loB b.toNat ≤ x.toNat ∧ x.toNat ≤ hiB b.toNat := by
  simp only [sndB, Bool.and_eq_true, Bool.or_eq_true, decide_eq_true_eq, UInt8.le_iff_toNat_le, cont_iff, bne_iff_ne, ne_eq, ← UInt8.toNat_inj, loB, hiB]
  have h1 : (224 : UInt8).toNat = 224 := rfl
  have h2 : (237 : UInt8).toNat = 237 := rfl
  have h3 : (240 : UInt8).toNat = 240 := rfl
  have h4 : (244 : UInt8).toNat = 244 := rfl
  have h5 : (160 : UInt8).toNat = 160 := rfl
  have h6 : (159 : UInt8).toNat = 159 := rfl
  have h7 : (144 : UInt8).toNat = 144 := rfl
  have h8 : (143 : UInt8).toNat = 143 := rfl
  rw [h1, h2, h3, h4, h5, h6, h7, h8]
  repeat' split
  all_goals omega
theorem thr_iff (b x y : UInt8) : thr b x y = true ↔ (224 ≤ b.toNat ∧ b.toNat ≤ 239) ∧ (loB b.toNat ≤ x.toNat ∧ x.toNat ≤ hiB b.toNat) ∧ (128 ≤ y.toNat ∧ y.toNat ≤ 191) := by
  simp only [thr, Bool.and_eq_true, decide_eq_true_eq, UInt8.le_iff_toNat_le, cont_iff, snd_iff, and_assoc]; exact Iff.rfl
theorem fou_iff (b x y z : UInt8) : fou b x y z = true ↔ (240 ≤ b.toNat ∧ b.toNat ≤ 244) ∧ (loB b.toNat ≤ x.toNat ∧ x.toNat ≤ hiB b.toNat) ∧ (128 ≤ y.toNat ∧ y.toNat ≤ 191) ∧ (128 ≤ z.toNat ∧ z.toNat ≤ 191) := by
  simp only [fou, Bool.and_eq_true, decide_eq_true_eq, UInt8.le_iff_toNat_le, cont_iff, snd_iff, and_assoc]; exact Iff.rfl
theorem small_iff (b : UInt8) : b < 128 ↔ b.toNat < 128 := by rw [UInt8.lt_iff_toNat_lt]; exact Iff.rfl
/-- what begins at a byte: its code point c, and n bytes -/
def Nx (l : List UInt8) (c : Int) (n : Nat) : Prop := (sq l = 0 ∧ c = 65533 ∧ n = 1) ∨ (∃ b r, l = b :: r ∧ b.toNat < 128 ∧ c = (b.toNat : Int) ∧ n = 1) ∨ (2 ≤ sq l ∧ n = sq l ∧ 128 ≤ c ∧ c < 2097152)
theorem Nx.bad {l : List UInt8} (h : sq l = 0) : Nx l 65533 1 := .inl ⟨h, rfl, rfl⟩
theorem sq_cons (b : UInt8) (r : List UInt8) : sq (b :: r) = if b < 128 then 1 else match r with
    | [] => 0
    | x :: r1 => if two b x then 2 else match r1 with
      | [] => 0
      | y :: r2 => if thr b x y then 3 else match r2 with
        | [] => 0
        | z :: r3 => if fou b x y z then 4 else 0 := rfl
theorem sq_w0 (b : UInt8) (r : List UInt8) (h : wid b.toNat = 0) : sq (b :: r) = 0 := by
  have hb : ¬ b < 128 := by rw [small_iff]; intro hb; unfold wid at h; rw [if_pos hb] at h; cases h
  have h2 : ∀ x, two b x = false := fun x => by
    cases e : two b x; rfl; exfalso; have := ((two_iff _ _).1 e).1; unfold wid at h; repeat' split at h
    all_goals omega
  have h3 : ∀ x y, thr b x y = false := fun x y => by
    cases e : thr b x y; rfl; exfalso; have := ((thr_iff _ _ _).1 e).1; unfold wid at h; repeat' split at h
    all_goals omega
  have h4 : ∀ x y z, fou b x y z = false := fun x y z => by
    cases e : fou b x y z; rfl; exfalso; have := ((fou_iff _ _ _ _).1 e).1; unfold wid at h; repeat' split at h
    all_goals omega
  rw [sq_cons, if_neg hb]
  rcases r with _ | ⟨x, _ | ⟨y, _ | ⟨z, r⟩⟩⟩ <;> simp [h2, h3, h4]
theorem wid_two {n : Nat} (h : wid n = 2) : 194 ≤ n ∧ n ≤ 223 := by unfold wid at h; repeat' split at h
                                                                    all_goals omega
theorem wid_thr {n : Nat} (h : wid n = 3) : 224 ≤ n ∧ n ≤ 239 := by unfold wid at h; repeat' split at h
                                                                    all_goals omega
theorem wid_fou {n : Nat} (h : wid n = 4) : 240 ≤ n ∧ n ≤ 244 := by unfold wid at h; repeat' split at h
                                                                    all_goals omega
theorem wid_one {n : Nat} (h : wid n = 1) : n < 128 := by unfold wid at h; repeat' split at h
                                                          all_goals omega
theorem sq_w2 (b x : UInt8) (r : List UInt8) (h : wid b.toNat = 2) : sq (b :: x :: r) = if 128 ≤ x.toNat ∧ x.toNat ≤ 191 then 2 else 0 := by
  have hw := wid_two h
  have hb : ¬ b < 128 := by rw [small_iff]; omega
  have h3 : ∀ x y, thr b x y = false := fun x y => by cases e : thr b x y; rfl; exfalso; have := ((thr_iff _ _ _).1 e).1; omega
  have h4 : ∀ x y z, fou b x y z = false := fun x y z => by cases e : fou b x y z; rfl; exfalso; have := ((fou_iff _ _ _ _).1 e).1; omega
  have h2 : (two b x = true) = (128 ≤ x.toNat ∧ x.toNat ≤ 191) := by rw [two_iff]; apply propext; constructor; exact fun h => h.2; exact fun h => ⟨hw, h⟩
  rw [sq_cons, if_neg hb]
  rcases r with _ | ⟨y, _ | ⟨z, r⟩⟩ <;> simp only [h2, h3, h4] <;> simp
theorem sq_w3 (b x y : UInt8) (r : List UInt8) (h : wid b.toNat = 3) : sq (b :: x :: y :: r) = if (loB b.toNat ≤ x.toNat ∧ x.toNat ≤ hiB b.toNat) ∧ (128 ≤ y.toNat ∧ y.toNat ≤ 191) then 3 else 0 := by
  have hw := wid_thr h
  have hb : ¬ b < 128 := by rw [small_iff]; omega
  have h2 : ∀ x, two b x = false := fun x => by cases e : two b x; rfl; exfalso; have := ((two_iff _ _).1 e).1; omega
  have h4 : ∀ x y z, fou b x y z = false := fun x y z => by cases e : fou b x y z; rfl; exfalso; have := ((fou_iff _ _ _ _).1 e).1; omega
  have h3 : (thr b x y = true) = ((loB b.toNat ≤ x.toNat ∧ x.toNat ≤ hiB b.toNat) ∧ (128 ≤ y.toNat ∧ y.toNat ≤ 191)) := by rw [thr_iff]; apply propext; constructor; exact fun h => h.2; exact fun h => ⟨hw, h⟩
  rw [sq_cons, if_neg hb]
  rcases r with _ | ⟨z, r⟩ <;> simp only [h2, h3, h4] <;> simp
theorem sq_w4 (b x y z : UInt8) (r : List UInt8) (h : wid b.toNat = 4) : sq (b :: x :: y :: z :: r) = if (loB b.toNat ≤ x.toNat ∧ x.toNat ≤ hiB b.toNat) ∧ (128 ≤ y.toNat ∧ y.toNat ≤ 191) ∧ (128 ≤ z.toNat ∧ z.toNat ≤ 191) then 4 else 0 := by
  have hw := wid_fou h
  have hb : ¬ b < 128 := by rw [small_iff]; omega
  have h2 : ∀ x, two b x = false := fun x => by cases e : two b x; rfl; exfalso; have := ((two_iff _ _).1 e).1; omega
  have h3 : ∀ x y, thr b x y = false := fun x y => by cases e : thr b x y; rfl; exfalso; have := ((thr_iff _ _ _).1 e).1; omega
  have h4 : (fou b x y z = true) = ((loB b.toNat ≤ x.toNat ∧ x.toNat ≤ hiB b.toNat) ∧ (128 ≤ y.toNat ∧ y.toNat ≤ 191) ∧ (128 ≤ z.toNat ∧ z.toNat ≤ 191)) := by rw [fou_iff]; apply propext; constructor; exact fun h => h.2; exact fun h => ⟨hw, h⟩
  rw [sq_cons, if_neg hb]
  simp only [h2, h3, h4]; simp
theorem sq_short (b : UInt8) (r : List UInt8) (h : (b :: r).length < wid b.toNat) : sq (b :: r) = 0 := by
  have hw4 : wid b.toNat ≤ 4 := by unfold wid; repeat' split
                                   all_goals omega
  have hb : ¬ b < 128 := by rw [small_iff]; intro hb; unfold wid at h; rw [if_pos hb] at h; simp at h
  rw [sq_cons, if_neg hb]
  rcases r with _ | ⟨x, _ | ⟨y, _ | ⟨z, r⟩⟩⟩
  · rfl
  · have : two b x = false := by
      cases e : two b x; rfl; exfalso; have := ((two_iff _ _).1 e).1; simp only [List.length] at h; unfold wid at h; repeat' split at h
      all_goals omega
    simp [this]
  · have h2 : two b x = false := by
      cases e : two b x; rfl; exfalso; have := ((two_iff _ _).1 e).1; simp only [List.length] at h; unfold wid at h; repeat' split at h
      all_goals omega
    have h3 : thr b x y = false := by
      cases e : thr b x y; rfl; exfalso; have := ((thr_iff _ _ _).1 e).1; simp only [List.length] at h; unfold wid at h; repeat' split at h
      all_goals omega
    simp [h2, h3]
  · simp only [List.length] at h; omega
theorem ofInt_64 (a : Nat) (h : a < 9223372036854775808) : (BitVec.ofInt 64 (a : Int)).toNat = a := by
  rw [BitVec.toNat_ofInt]; omega
theorem i64_and_nat (a b : Nat) (ha : a < 9223372036854775808) (hb : b < 9223372036854775808) : bits .and .i64 (a : Int) (b : Int) = ((a &&& b : Nat) : Int) := by
  show IntKind.i64.wrap ((BitVec.ofInt 64 (a : Int) &&& BitVec.ofInt 64 (b : Int)).toNat : Int) = _
  rw [BitVec.toNat_and, ofInt_64 a ha, ofInt_64 b hb]
  have : a &&& b ≤ a := Nat.and_le_left
  exact IntWalk.i64_in _ (by omega)
theorem i64_or_nat (a b : Nat) (ha : a < 4611686018427387904) (hb : b < 4611686018427387904) : bits .or .i64 (a : Int) (b : Int) = ((a ||| b : Nat) : Int) := by
  show IntKind.i64.wrap ((BitVec.ofInt 64 (a : Int) ||| BitVec.ofInt 64 (b : Int)).toNat : Int) = _
  rw [BitVec.toNat_or, ofInt_64 a (by omega), ofInt_64 b (by omega)]
  have : a ||| b < 2 ^ 62 := Nat.or_lt_two_pow (by omega) (by omega)
  exact IntWalk.i64_in _ (by omega)
theorem and_mask (b m k : Nat) (hb : b < 256) (hm : m = 2 ^ k - 1) (hm2 : m < 256) : bits .and .i64 (b : Int) (m : Int) = ((b % 2 ^ k : Nat) : Int) := by
  rw [i64_and_nat b m (by omega) (by omega), hm, Nat.and_two_pow_sub_one_eq_mod]
theorem or_64 (c x : Int) (h0 : 0 ≤ c) (h1 : c < 1048576) (h2 : 0 ≤ x) (h3 : x < 64) : bits .or .i64 (c * 64) x = c * 64 + x := by
  obtain ⟨a, rfl⟩ := Int.eq_ofNat_of_zero_le h0
  obtain ⟨b, rfl⟩ := Int.eq_ofNat_of_zero_le h2
  have := Nat.two_pow_add_eq_or_of_lt (i := 6) (b := b) (by omega) a
  have e := i64_or_nat (2 ^ 6 * a) b (by omega) (by omega)
  rw [show ((a : Int) * 64) = ((2 ^ 6 * a : Nat) : Int) from by omega, e, ← this]
  omega
def NextPost (l : List UInt8) (w : World) (e : Ending) (w' : World) : Prop := ∃ c n, Nx l c n ∧ e = .returned (.tuple #[.int .i64 c, .int .i64 ((n : Nat) : Int)]) ∧ ∃ k, w' = w.drewN k
set_option maxHeartbeats 4000000 in
set_option maxRecDepth 100000 in
theorem next2 (s : ByteArray) (i : Nat) (w : World) (hs : s.size ≤ 9223372036854775000) (hi : i + 1 < s.size) (h2 : wid s[i].toNat = 2) :
    Calls Tryz.prog 125 #[.string s, .int .i64 (i : Int)] w (NextPost (s.toList.drop i) w) := by
  have hw := wid_two h2
  have HD : Hid (s.toList.drop i = s[i] :: s[i+1] :: s.toList.drop (i + 2)) := by rw [drop_byte s i (by omega), drop_byte s (i + 1) (by omega)]; rfl
  have HS := Lib.hid (sq_w2 s[i] s[i+1] (s.toList.drop (i + 2)) h2)
  have hlo1 : 128 ≤ loB s[i].toNat := by unfold loB; repeat' split
                                         all_goals omega
  have hhi1 : hiB s[i].toNat ≤ 191 := by unfold hiB; repeat' split
                                         all_goals omega
  have hlo2 : s[i].toNat = 224 → loB s[i].toNat = 160 := fun h => by rw [h]; rfl
  have hlo4 : s[i].toNat = 240 → loB s[i].toNat = 144 := fun h => by rw [h]; rfl
  have H2 : Hid (((wid s[i].toNat : Nat) : Int) = 2) := by rw [h2]; rfl
  clear h2
  have hlo3 : loB s[i].toNat = 128 := by unfold loB; rw [if_neg (by omega), if_neg (by omega)]
  have hhi3 : hiB s[i].toNat = 191 := by unfold hiB; rw [if_neg (by omega), if_neg (by omega)]
  have HM : Hid (bits .and .i64 (s[i].toNat : Int) 31 = ((s[i].toNat % 2 ^ 5 : Nat) : Int)) := and_mask s[i].toNat 31 5 (s[i].toNat_lt) rfl (by omega)
  obtain ⟨c0, hc0⟩ : ∃ c0 : Int, ((s[i].toNat % 2 ^ 5 : Nat) : Int) = c0 := ⟨_, rfl⟩
  rw [hc0] at HM
  have hcb : 0 ≤ c0 ∧ c0 < 32 ∧ c0 = s[i].toNat - 192 := by omega
  clear hc0
  obtain ⟨hc1, hc2, hc3⟩ := hcb
  have HC3 := Lib.hid hc3
  clear hc3
  generalize hlo : loB s[i].toNat = lo at *
  generalize hhi : hiB s[i].toNat = hh at *
  have HLO := Lib.hid hlo
  have HHI := Lib.hid hhi
  clear hlo hhi
  have HL3 := Lib.hid hlo3
  have HH3 := Lib.hid hhi3
  clear hlo3 hhi3
  have HL2 := Lib.hid (And.intro hlo2 hlo4)
  clear hlo2 hlo4
  by_cases hx1 : lo ≤ s[i+1].toNat ∧ s[i+1].toNat ≤ hh
  rotate_left
  · have HQ : Hid (sq (s.toList.drop i) = 0) := by rw [HD.out, HS.out, if_neg (by intro h; apply hx1; rw [HL3.out, HH3.out]; exact h)]; rfl
    go_enter Tryz.func125, Tryz.ntmps125
    go_wp2_with fail
    refine (width_any _ _).mono ?_
    rintro e w' ⟨rfl, rfl⟩
    rw [H2.out]
    go_wp2_with fail
    refine (second_any _ _).mono ?_
    rintro e w' ⟨rfl, rfl⟩
    rw [HLO.out, HHI.out]
    go_wp2
    all_goals first | (exfalso; omega) | skip
    all_goals
      go_ret2
      exact ⟨_, 1, Nx.bad HQ.out, rfl, 0, rfl⟩
  have HQ : Hid (sq (s.toList.drop i) = 2) := by rw [HD.out, HS.out, if_pos (by rw [HL3.out, HH3.out] at hx1; exact hx1)]; rfl
  obtain ⟨ha1, hb1⟩ := hx1
  go_enter Tryz.func125, Tryz.ntmps125
  go_wp2_with fail
  refine (width_any _ _).mono ?_
  rintro e w' ⟨rfl, rfl⟩
  rw [H2.out]
  go_wp2_with fail
  refine (second_any _ _).mono ?_
  rintro e w' ⟨rfl, rfl⟩
  rw [HLO.out, HHI.out]
  go_wp2
  go_quiet (fail)
  rw [HM.out]
  go_wp2
  refine wp_loop_rounds 3 ?_
  rw [rounds_succ]
  go_wp2
  rw [or_64 _ _ (by omega) (by omega) (by omega) (by omega)]
  rw [rounds_succ]
  go_wp2
  go_ret2
  refine ⟨_, 2, .inr (.inr ⟨by rw [HQ.out]; omega, HQ.out.symm, ?_, ?_⟩), rfl, _, rfl⟩
  · have := HC3.out; have := HL2.out; omega
  · have := HC3.out; omega
set_option maxHeartbeats 4000000 in
set_option maxRecDepth 100000 in
theorem next3 (s : ByteArray) (i : Nat) (w : World) (hs : s.size ≤ 9223372036854775000) (hi : i + 2 < s.size) (h2 : wid s[i].toNat = 3) :
    Calls Tryz.prog 125 #[.string s, .int .i64 (i : Int)] w (NextPost (s.toList.drop i) w) := by
  have hw := wid_thr h2
  have HD : Hid (s.toList.drop i = s[i] :: s[i+1] :: s[i+1+1] :: s.toList.drop (i + 3)) := by rw [drop_byte s i (by omega), drop_byte s (i + 1) (by omega), drop_byte s (i + 2) (by omega)]; rfl
  have HS := Lib.hid (sq_w3 s[i] s[i+1] s[i+1+1] (s.toList.drop (i + 3)) h2)
  have hlo1 : 128 ≤ loB s[i].toNat := by unfold loB; repeat' split
                                         all_goals omega
  have hhi1 : hiB s[i].toNat ≤ 191 := by unfold hiB; repeat' split
                                         all_goals omega
  have hlo2 : s[i].toNat = 224 → loB s[i].toNat = 160 := fun h => by rw [h]; rfl
  have hlo4 : s[i].toNat = 240 → loB s[i].toNat = 144 := fun h => by rw [h]; rfl
  have H2 : Hid (((wid s[i].toNat : Nat) : Int) = 3) := by rw [h2]; rfl
  clear h2
  have HM : Hid (bits .and .i64 (s[i].toNat : Int) 15 = ((s[i].toNat % 2 ^ 4 : Nat) : Int)) := and_mask s[i].toNat 15 4 (s[i].toNat_lt) rfl (by omega)
  obtain ⟨c0, hc0⟩ : ∃ c0 : Int, ((s[i].toNat % 2 ^ 4 : Nat) : Int) = c0 := ⟨_, rfl⟩
  rw [hc0] at HM
  have hcb : 0 ≤ c0 ∧ c0 < 16 ∧ c0 = s[i].toNat - 224 := by omega
  clear hc0
  obtain ⟨hc1, hc2, hc3⟩ := hcb
  have HC3 := Lib.hid hc3
  clear hc3
  generalize hlo : loB s[i].toNat = lo at *
  generalize hhi : hiB s[i].toNat = hh at *
  have HLO := Lib.hid hlo
  have HHI := Lib.hid hhi
  clear hlo hhi
  have HL2 := Lib.hid (And.intro hlo2 hlo4)
  clear hlo2 hlo4
  by_cases hx1 : lo ≤ s[i+1].toNat ∧ s[i+1].toNat ≤ hh
  rotate_left
  · have HQ : Hid (sq (s.toList.drop i) = 0) := by rw [HD.out, HS.out, if_neg (by intro h; exact hx1 h.1)]; rfl
    go_enter Tryz.func125, Tryz.ntmps125
    go_wp2_with fail
    refine (width_any _ _).mono ?_
    rintro e w' ⟨rfl, rfl⟩
    rw [H2.out]
    go_wp2_with fail
    refine (second_any _ _).mono ?_
    rintro e w' ⟨rfl, rfl⟩
    rw [HLO.out, HHI.out]
    go_wp2
    all_goals first | (exfalso; omega) | skip
    all_goals
      go_ret2
      exact ⟨_, 1, Nx.bad HQ.out, rfl, 0, rfl⟩
  by_cases hx2 : 128 ≤ s[i+1+1].toNat ∧ s[i+1+1].toNat ≤ 191
  rotate_left
  · have HQ : Hid (sq (s.toList.drop i) = 0) := by rw [HD.out, HS.out, if_neg (by intro h; exact hx2 h.2)]; rfl
    go_enter Tryz.func125, Tryz.ntmps125
    go_wp2_with fail
    refine (width_any _ _).mono ?_
    rintro e w' ⟨rfl, rfl⟩
    rw [H2.out]
    go_wp2_with fail
    refine (second_any _ _).mono ?_
    rintro e w' ⟨rfl, rfl⟩
    rw [HLO.out, HHI.out]
    go_wp2
    go_quiet (fail)
    rw [HM.out]
    go_wp2
    refine wp_loop_rounds 4 ?_
    rw [rounds_succ]
    go_wp2
    rw [or_64 _ _ (by omega) (by omega) (by omega) (by omega)]
    rw [rounds_succ]
    go_wp2
    all_goals first | (exfalso; omega) | skip
    all_goals
      go_ret2
      exact ⟨_, 1, Nx.bad HQ.out, rfl, _, rfl⟩
  have HQ : Hid (sq (s.toList.drop i) = 3) := by rw [HD.out, HS.out, if_pos ⟨hx1, hx2⟩]; rfl
  obtain ⟨ha1, hb1⟩ := hx1
  obtain ⟨ha2, hb2⟩ := hx2
  go_enter Tryz.func125, Tryz.ntmps125
  go_wp2_with fail
  refine (width_any _ _).mono ?_
  rintro e w' ⟨rfl, rfl⟩
  rw [H2.out]
  go_wp2_with fail
  refine (second_any _ _).mono ?_
  rintro e w' ⟨rfl, rfl⟩
  rw [HLO.out, HHI.out]
  go_wp2
  go_quiet (fail)
  rw [HM.out]
  go_wp2
  refine wp_loop_rounds 4 ?_
  rw [rounds_succ]
  go_wp2
  rw [or_64 _ _ (by omega) (by omega) (by omega) (by omega)]
  rw [rounds_succ]
  go_wp2
  rw [or_64 _ _ (by omega) (by omega) (by omega) (by omega)]
  rw [rounds_succ]
  go_wp2
  go_ret2
  refine ⟨_, 3, .inr (.inr ⟨by rw [HQ.out]; omega, HQ.out.symm, ?_, ?_⟩), rfl, _, rfl⟩
  · have := HC3.out; have := HL2.out; omega
  · have := HC3.out; omega
set_option maxHeartbeats 4000000 in
set_option maxRecDepth 100000 in
theorem next4 (s : ByteArray) (i : Nat) (w : World) (hs : s.size ≤ 9223372036854775000) (hi : i + 3 < s.size) (h2 : wid s[i].toNat = 4) :
    Calls Tryz.prog 125 #[.string s, .int .i64 (i : Int)] w (NextPost (s.toList.drop i) w) := by
  have hw := wid_fou h2
  have HD : Hid (s.toList.drop i = s[i] :: s[i+1] :: s[i+1+1] :: s[i+1+2] :: s.toList.drop (i + 4)) := by rw [drop_byte s i (by omega), drop_byte s (i + 1) (by omega), drop_byte s (i + 2) (by omega), drop_byte s (i + 3) (by omega)]; rfl
  have HS := Lib.hid (sq_w4 s[i] s[i+1] s[i+1+1] s[i+1+2] (s.toList.drop (i + 4)) h2)
  have hlo1 : 128 ≤ loB s[i].toNat := by unfold loB; repeat' split
                                         all_goals omega
  have hhi1 : hiB s[i].toNat ≤ 191 := by unfold hiB; repeat' split
                                         all_goals omega
  have hlo2 : s[i].toNat = 224 → loB s[i].toNat = 160 := fun h => by rw [h]; rfl
  have hlo4 : s[i].toNat = 240 → loB s[i].toNat = 144 := fun h => by rw [h]; rfl
  have H2 : Hid (((wid s[i].toNat : Nat) : Int) = 4) := by rw [h2]; rfl
  clear h2
  have HM : Hid (bits .and .i64 (s[i].toNat : Int) 7 = ((s[i].toNat % 2 ^ 3 : Nat) : Int)) := and_mask s[i].toNat 7 3 (s[i].toNat_lt) rfl (by omega)
  obtain ⟨c0, hc0⟩ : ∃ c0 : Int, ((s[i].toNat % 2 ^ 3 : Nat) : Int) = c0 := ⟨_, rfl⟩
  rw [hc0] at HM
  have hcb : 0 ≤ c0 ∧ c0 < 8 ∧ c0 = s[i].toNat - 240 := by omega
  clear hc0
  obtain ⟨hc1, hc2, hc3⟩ := hcb
  have HC3 := Lib.hid hc3
  clear hc3
  generalize hlo : loB s[i].toNat = lo at *
  generalize hhi : hiB s[i].toNat = hh at *
  have HLO := Lib.hid hlo
  have HHI := Lib.hid hhi
  clear hlo hhi
  have HL2 := Lib.hid (And.intro hlo2 hlo4)
  clear hlo2 hlo4
  by_cases hx1 : lo ≤ s[i+1].toNat ∧ s[i+1].toNat ≤ hh
  rotate_left
  · have HQ : Hid (sq (s.toList.drop i) = 0) := by rw [HD.out, HS.out, if_neg (by intro h; exact hx1 h.1)]; rfl
    go_enter Tryz.func125, Tryz.ntmps125
    go_wp2_with fail
    refine (width_any _ _).mono ?_
    rintro e w' ⟨rfl, rfl⟩
    rw [H2.out]
    go_wp2_with fail
    refine (second_any _ _).mono ?_
    rintro e w' ⟨rfl, rfl⟩
    rw [HLO.out, HHI.out]
    go_wp2
    all_goals first | (exfalso; omega) | skip
    all_goals
      go_ret2
      exact ⟨_, 1, Nx.bad HQ.out, rfl, 0, rfl⟩
  by_cases hx2 : 128 ≤ s[i+1+1].toNat ∧ s[i+1+1].toNat ≤ 191
  rotate_left
  · have HQ : Hid (sq (s.toList.drop i) = 0) := by rw [HD.out, HS.out, if_neg (by intro h; exact hx2 h.2.1)]; rfl
    go_enter Tryz.func125, Tryz.ntmps125
    go_wp2_with fail
    refine (width_any _ _).mono ?_
    rintro e w' ⟨rfl, rfl⟩
    rw [H2.out]
    go_wp2_with fail
    refine (second_any _ _).mono ?_
    rintro e w' ⟨rfl, rfl⟩
    rw [HLO.out, HHI.out]
    go_wp2
    go_quiet (fail)
    rw [HM.out]
    go_wp2
    refine wp_loop_rounds 5 ?_
    rw [rounds_succ]
    go_wp2
    rw [or_64 _ _ (by omega) (by omega) (by omega) (by omega)]
    rw [rounds_succ]
    go_wp2
    all_goals first | (exfalso; omega) | skip
    all_goals
      go_ret2
      exact ⟨_, 1, Nx.bad HQ.out, rfl, _, rfl⟩
  by_cases hx3 : 128 ≤ s[i+1+2].toNat ∧ s[i+1+2].toNat ≤ 191
  rotate_left
  · have HQ : Hid (sq (s.toList.drop i) = 0) := by rw [HD.out, HS.out, if_neg (by intro h; exact hx3 h.2.2)]; rfl
    go_enter Tryz.func125, Tryz.ntmps125
    go_wp2_with fail
    refine (width_any _ _).mono ?_
    rintro e w' ⟨rfl, rfl⟩
    rw [H2.out]
    go_wp2_with fail
    refine (second_any _ _).mono ?_
    rintro e w' ⟨rfl, rfl⟩
    rw [HLO.out, HHI.out]
    go_wp2
    go_quiet (fail)
    rw [HM.out]
    go_wp2
    refine wp_loop_rounds 5 ?_
    rw [rounds_succ]
    go_wp2
    rw [or_64 _ _ (by omega) (by omega) (by omega) (by omega)]
    rw [rounds_succ]
    go_wp2
    rw [or_64 _ _ (by omega) (by omega) (by omega) (by omega)]
    rw [rounds_succ]
    go_wp2
    all_goals first | (exfalso; omega) | skip
    all_goals
      go_ret2
      exact ⟨_, 1, Nx.bad HQ.out, rfl, _, rfl⟩
  have HQ : Hid (sq (s.toList.drop i) = 4) := by rw [HD.out, HS.out, if_pos ⟨hx1, hx2, hx3⟩]; rfl
  obtain ⟨ha1, hb1⟩ := hx1
  obtain ⟨ha2, hb2⟩ := hx2
  obtain ⟨ha3, hb3⟩ := hx3
  go_enter Tryz.func125, Tryz.ntmps125
  go_wp2_with fail
  refine (width_any _ _).mono ?_
  rintro e w' ⟨rfl, rfl⟩
  rw [H2.out]
  go_wp2_with fail
  refine (second_any _ _).mono ?_
  rintro e w' ⟨rfl, rfl⟩
  rw [HLO.out, HHI.out]
  go_wp2
  go_quiet (fail)
  rw [HM.out]
  go_wp2
  refine wp_loop_rounds 5 ?_
  rw [rounds_succ]
  go_wp2
  rw [or_64 _ _ (by omega) (by omega) (by omega) (by omega)]
  rw [rounds_succ]
  go_wp2
  rw [or_64 _ _ (by omega) (by omega) (by omega) (by omega)]
  rw [rounds_succ]
  go_wp2
  rw [or_64 _ _ (by omega) (by omega) (by omega) (by omega)]
  rw [rounds_succ]
  go_wp2
  go_ret2
  refine ⟨_, 4, .inr (.inr ⟨by rw [HQ.out]; omega, HQ.out.symm, ?_, ?_⟩), rfl, _, rfl⟩
  · have := HC3.out; have := HL2.out; omega
  · have := HC3.out; omega
set_option maxHeartbeats 1000000 in
set_option maxRecDepth 100000 in
theorem next0 (s : ByteArray) (i : Nat) (w : World) (hs : s.size ≤ 9223372036854775000) (hi : i < s.size) (h2 : wid s[i].toNat = 0 ∨ s.size - i < wid s[i].toNat) :
    Calls Tryz.prog 125 #[.string s, .int .i64 (i : Int)] w (NextPost (s.toList.drop i) w) := by
  have HQ : Hid (sq (s.toList.drop i) = 0) := by
    rw [drop_byte s i hi]
    rcases h2 with h | h
    · exact sq_w0 _ _ h
    · exact sq_short _ _ (by rw [← drop_byte s i hi, List.length_drop, len_toList]; exact h)
  generalize hw : wid s[i].toNat = k at *
  have HW := Lib.hid hw
  clear hw
  rcases h2 with rfl | h2
  · go_enter Tryz.func125, Tryz.ntmps125
    go_wp2_with fail
    refine (width_any _ _).mono ?_
    rintro e w' ⟨rfl, rfl⟩
    rw [HW.out]
    go_wp2
    go_ret2
    exact ⟨_, 1, Nx.bad HQ.out, rfl, 0, rfl⟩
  · have hk4 : k ≤ 4 := by
      rw [← HW.out]; unfold wid; repeat' split
      all_goals omega
    by_cases h0 : k = 0
    · subst h0; omega
    have hne : ((k : Int) == 0) = false := beq_eq_false_iff_ne.2 (by omega)
    have hlt : decide ((s.size : Int) - (i : Int) < (k : Int)) = true := by simp; omega
    clear h0
    go_enter Tryz.func125, Tryz.ntmps125
    go_wp2_with fail
    refine (width_any _ _).mono ?_
    rintro e w' ⟨rfl, rfl⟩
    rw [HW.out]
    go_wp2
    go_ret2
    exact ⟨_, 1, Nx.bad HQ.out, rfl, 0, rfl⟩
set_option maxHeartbeats 1000000 in
set_option maxRecDepth 100000 in
theorem next1 (s : ByteArray) (i : Nat) (w : World) (hs : s.size ≤ 9223372036854775000) (hi : i < s.size) (h2 : wid s[i].toNat = 1) :
    Calls Tryz.prog 125 #[.string s, .int .i64 (i : Int)] w (NextPost (s.toList.drop i) w) := by
  have hw := wid_one h2
  have H2 : Hid (((wid s[i].toNat : Nat) : Int) = 1) := by rw [h2]; rfl
  have HD := Lib.hid (drop_byte s i hi)
  clear h2
  go_enter Tryz.func125, Tryz.ntmps125
  go_wp2_with fail
  refine (width_any _ _).mono ?_
  rintro e w' ⟨rfl, rfl⟩
  rw [H2.out]
  go_wp2
  go_ret2
  exact ⟨_, 1, .inr (.inl ⟨_, _, HD.out, hw, rfl, rfl⟩), rfl, 0, rfl⟩
theorem next_any (s : ByteArray) (i : Nat) (w : World) (hs : s.size ≤ 9223372036854775000) (hi : i < s.size) :
    Calls Tryz.prog 125 #[.string s, .int .i64 (i : Int)] w (NextPost (s.toList.drop i) w) := by
  by_cases h0 : wid s[i].toNat = 0 ∨ s.size - i < wid s[i].toNat
  · exact next0 s i w hs hi h0
  · have h1 : wid s[i].toNat ≠ 0 := fun e => h0 (.inl e)
    have h2 : ¬ s.size - i < wid s[i].toNat := fun e => h0 (.inr e)
    have h4 : wid s[i].toNat ≤ 4 := by
      unfold wid; repeat' split
      all_goals omega
    rcases (by omega : wid s[i].toNat = 1 ∨ wid s[i].toNat = 2 ∨ wid s[i].toNat = 3 ∨ wid s[i].toNat = 4) with h | h | h | h
    · exact next1 s i w hs hi h
    · exact next2 s i w hs (by omega) h
    · exact next3 s i w hs (by omega) h
    · exact next4 s i w hs (by omega) h
end Go.Proofs.YtejjidbodfoiiaaGreatDoor
namespace Go.Proofs.YtejjidbodfoiiaaGreatDoor
open Go.RowKit
set_option linter.unusedVariables false
set_option linter.unusedSimpArgs false
attribute [local go_sem] B_data B_size

theorem uncl_clean (b : UInt8) : unclB (b.toNat : Int) = !cleanB b := by
  unfold unclB cleanB
  rw [Bool.eq_iff_iff]
  have h10 : (b == 10) = decide (b.toNat = 10) := by rw [Bool.eq_iff_iff]; simp [← UInt8.toNat_inj]
  have h127 : (b != 127) = decide (b.toNat ≠ 127) := by rw [Bool.eq_iff_iff]; simp [← UInt8.toNat_inj]
  have h32 : (decide (32 ≤ b)) = decide (32 ≤ b.toNat) := by simp [UInt8.le_iff_toNat_le]
  rw [h10, h127, h32]
  simp only [Bool.not_eq_true', Bool.or_eq_false_iff, Bool.and_eq_false_iff, decide_eq_false_iff_not, Bool.or_eq_true, Bool.and_eq_true, decide_eq_true_eq, beq_iff_eq, bne_iff_ne, ne_eq]
  omega
/-- what the code point c of n bytes tells of clean text -/
theorem Nx.valid {l : List UInt8} {c : Int} {n : Nat} (h : Nx l c n) (hl : l ≠ []) :
    (((c = 65533 ∧ n = 1) ∨ unclB c = true) ∧ validB l = false) ∨ (¬ (c = 65533 ∧ n = 1) ∧ unclB c = false ∧ validB l = validB (l.drop n) ∧ 1 ≤ n ∧ n ≤ l.length) := by
  cases l with
  | nil => exact absurd rfl hl
  | cons b r =>
    rcases h with ⟨h, rfl, rfl⟩ | ⟨b', r', e, h, rfl, rfl⟩ | ⟨h, rfl, h1, h2⟩
    · have hb : ¬ b < 128 := by
        intro hb; rw [sq_cons, if_pos hb] at h; cases h
      left
      exact ⟨.inl ⟨rfl, rfl⟩, by rw [validB_sq b r hb, if_pos h]⟩
    · injection e with e1 e2
      subst e1 e2
      have hb : b < 128 := (small_iff b).2 h
      rw [uncl_clean, validB_cons, if_pos hb]
      cases hc : cleanB b
      · left; exact ⟨.inr rfl, rfl⟩
      · right; exact ⟨by omega, rfl, by simp, by omega, by simp⟩
    · have hb : ¬ b < 128 := by
        intro hb; rw [sq_cons, if_pos hb] at h; omega
      right
      refine ⟨by omega, ?_, ?_, by omega, sq_le _⟩
      · unfold unclB; rw [Bool.or_eq_false_iff]; simp; omega
      · rw [validB_sq b r hb, if_neg (by omega)]
theorem drop_ne {s : ByteArray} {k : Nat} (h : k < s.size) : s.toList.drop k ≠ [] := by rw [drop_byte s k h]; simp
theorem drop_len (s : ByteArray) (k : Nat) : (s.toList.drop k).length = s.size - k := by rw [List.length_drop, len_toList]
def QPost (r : Bool) (w : World) (e : Ending) (w' : World) : Prop := e = .returned (.bool r) ∧ ∃ k, w' = w.drewN k
set_option maxHeartbeats 2000000 in
set_option maxRecDepth 100000 in
theorem valid_any (s : ByteArray) (w : World) (hs : s.size ≤ 9223372036854775000) :
    Calls Tryz.prog 97 #[.string s] w (QPost (validB s.toList) w) := by
  go_enter Tryz.func97, Tryz.ntmps97
  go_wp2
  go_loopw [3] (fun i wr => ∃ k m : Nat, k ≤ s.size ∧ i = .int .i64 k ∧ Hid (wr = w.drewN m) ∧ Hid (validB s.toList = validB (s.toList.drop k))) (fun i _ => s.size - (intOf i).toNat)
  case atStart => exact ⟨0, 0, Nat.zero_le _, rfl, rfl, rfl⟩
  case round =>
    obtain ⟨k, m, hk, rfl, hwr, hr⟩ := hrel
    by_cases hlt : k < s.size
    · go_wp2_with fail
      refine (next_any s k _ hs hlt).mono ?_
      rintro e w' ⟨c, n, hx, rfl, m', hw'⟩
      have HWW : Hid (w' = w.drewN (m + m')) := by rw [hw', hwr.out]; simp [Hid]
      have hv := hx.valid (drop_ne hlt)
      rw [drop_len] at hv
      clear hx hw' hwr
      rcases hv with ⟨hb, hv⟩ | ⟨hb, hu, hv, hn1, hn2⟩
      · have HF : Hid (validB s.toList = false) := by rw [hr.out, hv]; rfl
        by_cases hc : c = 65533 ∧ n = 1
        · obtain ⟨rfl, rfl⟩ := hc
          go_wp2
          go_ret
          exact ⟨ret_bool HF.out.symm, _, HWW.out⟩
        · have hu : unclB c = true := by rcases hb with h | h; exact absurd h hc; exact h
          by_cases h1 : c = 65533
          · subst h1
            have hn : ((n : Int) == 1) = false := beq_eq_false_iff_ne.2 (by omega)
            clear hb hc
            go_wp2_with fail
            refine (unclean_any _ _).mono ?_
            rintro e w2 ⟨rfl, rfl⟩
            rw [hu]
            go_wp2
            go_ret
            exact ⟨ret_bool HF.out.symm, _, HWW.out⟩
          · have hn : ((c : Int) == 65533) = false := beq_eq_false_iff_ne.2 h1
            clear hb hc h1
            go_wp2_with fail
            refine (unclean_any _ _).mono ?_
            rintro e w2 ⟨rfl, rfl⟩
            rw [hu]
            go_wp2
            go_ret
            exact ⟨ret_bool HF.out.symm, _, HWW.out⟩
      · have HF : Hid (validB s.toList = validB (s.toList.drop (k + n))) := by rw [hr.out, hv, List.drop_drop]; rfl
        clear hr hv
        by_cases h1 : c = 65533
        · subst h1
          have hn : ((n : Int) == 1) = false := beq_eq_false_iff_ne.2 (by omega)
          clear hb
          go_wp2_with fail
          refine (unclean_any _ _).mono ?_
          rintro e w2 ⟨rfl, rfl⟩
          rw [hu]
          go_wp2
          go_roundw
          case rel => exact ⟨k + n, _, by omega, by go_num, HWW, HF⟩
          case measure => simp [intOf]; omega
        · have hn : ((c : Int) == 65533) = false := beq_eq_false_iff_ne.2 h1
          clear hb h1
          go_wp2_with fail
          refine (unclean_any _ _).mono ?_
          rintro e w2 ⟨rfl, rfl⟩
          rw [hu]
          go_wp2
          go_roundw
          case rel => exact ⟨k + n, _, by omega, by go_num, HWW, HF⟩
          case measure => simp [intOf]; omega
    · have HF : Hid (validB s.toList = true) := by rw [hr.out, List.drop_of_length_le (by rw [len_toList]; omega)]; rfl
      go_wp2
      go_ret
      exact ⟨ret_bool HF.out.symm, _, hwr.out⟩
end Go.Proofs.YtejjidbodfoiiaaGreatDoor
