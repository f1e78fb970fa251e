/-
  Layer 35 (archive): the checksum, on both sides.
-/
import Derived.Test.YtofbcblhpflleaaDoorMem
import Derived.Test.YtofbcblhpflleaaDoorCrcP
import Derived.Laws.BitsAllLaws
namespace Go.Proofs.YtofbcblhpflleaaDoor
open Go.RowKit
set_option linter.unusedVariables false
attribute [local go_sem] B_data B_size

theorem bitN_out (j : Nat) : ∀ r, bitN (j + 1) r = bitS (bitN j r) := by
  induction j with
  | zero => intro r; rfl
  | succ j ih => intro r; rw [bitN, ih, ← bitN]
theorem and_one (r : Nat) (h : r < 4294967296) : bits .and .u32 (r : Int) 1 = ((r % 2 : Nat) : Int) := by
  have := u32_and_nat r 1 h (by decide)
  rw [show ((1 : Nat) : Int) = 1 from rfl] at this
  rw [this, Nat.and_one_is_mod]
theorem xor_pol (r : Nat) (h : r < 4294967296) : bits .xor .u32 ((r : Int) / 2) 3988292384 = ((r / 2 ^^^ pol : Nat) : Int) := by
  have := u32_xor_nat (r / 2) pol (by omega) (by decide)
  rw [show ((pol : Nat) : Int) = 3988292384 from rfl, show ((r / 2 : Nat) : Int) = (r : Int) / 2 from by omega] at this
  exact this
theorem bitS_odd {r : Nat} (h : r % 2 = 1) : bitS r = r / 2 ^^^ pol := by unfold bitS; rw [if_pos h]
theorem bitS_even {r : Nat} (h : ¬ r % 2 = 1) : bitS r = r / 2 := by unfold bitS; rw [if_neg h]
theorem xor_ones (r : Nat) (h : r < 4294967296) : bits .xor .u32 (r : Int) 4294967295 = ((ones ^^^ r : Nat) : Int) := by
  have := u32_xor_nat r ones h (by decide)
  rw [show ((ones : Nat) : Int) = 4294967295 from rfl, Nat.xor_comm] at this
  exact this
theorem ones_xor (r : Nat) (h : r < 4294967296) : bits .xor .u32 4294967295 (r : Int) = ((ones ^^^ r : Nat) : Int) := by
  have := u32_xor_nat ones r (by decide) h
  rw [show ((ones : Nat) : Int) = 4294967295 from rfl] at this
  exact this

set_option maxHeartbeats 2000000 in
theorem rsum_any (s : ByteArray) (w : World) (hs : s.size ≤ 1000000) : Calls Tryd.prog 11 #[.string s] w fun e w' => e = .returned (.int .u32 (crc s.toList : Nat)) ∧ w = w' := by
  go_enter Tryd.func11, Tryd.ntmps11
  go_wp2
  go_loop [3, 4] (fun r i => ∃ k : Nat, k ≤ s.size ∧ i = .int .i64 k ∧ r = .int .u32 (crcGo ones (s.toList.take k) : Nat)) (fun _ i => s.size - (intOf i).toNat)
  case atStart => exact ⟨0, Nat.zero_le _, rfl, rfl⟩
  case round =>
    obtain ⟨k, hk, rfl, rfl⟩ := hrel
    have hr := crcGo_lt (s.toList.take k) ones (by decide)
    by_cases hlt : k < s.size
    · have HT := Lib.hid (take_byte s k hlt)
      have hb : s[k].toNat < 256 := UInt8.toNat_lt _
      have hX := u32_xor_nat (crcGo ones (s.toList.take k)) s[k].toNat hr (by omega)
      have HN : Hid (crcGo ones (s.toList.take (k + 1)) = bitN 8 (crcGo ones (s.toList.take k) ^^^ s[k].toNat)) := by rw [HT.out, crcGo_app]; rfl
      have hlx := xor_lt hr (show s[k].toNat < 4294967296 by omega)
      generalize crcGo ones (s.toList.take k) = R at *
      go_wp2
      generalize R ^^^ s[k].toNat = X at *
      clear hX
      go_loop [3, 5] (fun r i => ∃ j : Nat, j ≤ 8 ∧ i = .int .i64 j ∧ r = .int .u32 (bitN j X : Nat)) (fun _ i => 8 - (intOf i).toNat)
      case atStart => exact ⟨0, by omega, rfl, rfl⟩
      case round =>
        obtain ⟨j, hj, rfl, rfl⟩ := hrel
        by_cases hjt : j < 8
        · have hq := bitN_lt j X hlx
          have HS := Lib.hid (bitN_out j X)
          have hA := and_one (bitN j X) hq
          have hP := xor_pol (bitN j X) hq
          by_cases ho : bitN j X % 2 = 1
          · have HE := Lib.hid (bitS_odd ho)
            generalize bitN j X = q at *
            have e1 : (((q % 2 : Nat) : Int) == 1) = true := by simp; omega
            rw [ho] at hA
            have HO := Lib.hid ho
            clear ho e1
            go_wp2
            go_round
            case rel => exact ⟨j + 1, by omega, by go_num, by rw [HS.out, HE.out]⟩
            case measure => simp [intOf]; omega
          · have HE := Lib.hid (bitS_even ho)
            have ho0 : bitN j X % 2 = 0 := by omega
            rw [ho0] at hA
            generalize bitN j X = q at *
            clear ho ho0
            go_wp2
            go_round
            case rel => exact ⟨j + 1, by omega, by go_num, by rw [HS.out, HE.out]; rfl⟩
            case measure => simp [intOf]; omega
        · obtain rfl : j = 8 := by omega
          rw [← HN.out]
          go_wp2
          go_round
          case rel => exact ⟨k + 1, by omega, by go_num, rfl⟩
          case measure => simp [intOf]; omega
    · have HE : Hid (s.toList.take k = s.toList) := List.take_of_length_le (by rw [len_toList]; omega)
      have hX := xor_ones _ hr
      have HC : Hid (crc s.toList = ones ^^^ crcGo ones s.toList) := rfl
      rw [HE.out] at hX
      rw [HE.out]
      rw [← HC.out] at hX
      go_wp2
      go_ret
      exact ⟨rfl, rfl⟩
end Go.Proofs.YtofbcblhpflleaaDoor
