/-
  Layer 35 (archive): the checksum by the table.
-/
import Derived.Test.YtofbcblhpflleaaDoorArcA
namespace Go.Proofs.YtofbcblhpflleaaDoor
open Go.RowKit
set_option linter.unusedVariables false
attribute [local go_sem] B_data B_size

/-- the table behind k entries -/
def tabV (k i : Nat) : Value := .int .u32 ((if i < k then bitN 8 i else 0 : Nat) : Int)
def tabL (k : Nat) : List Value := (List.range 256).map (tabV k)
theorem tab_zero : Tryd.zeroCells42 = (tabL 0).toArray := by kernel_rfl
theorem tab_len (k : Nat) : (tabL k).length = 256 := by simp [tabL]
theorem tab_get (k i : Nat) (h : i < 256) : (tabL k)[i]? = some (tabV k i) := by simp [tabL, h]
theorem tab_set (k : Nat) (h : k < 256) : (tabL k).set k (.int .u32 ((bitN 8 k : Nat) : Int)) = tabL (k + 1) := by
  apply List.ext_getElem?
  intro i
  by_cases hi : i < 256
  · rw [tab_get (k + 1) i hi, List.getElem?_set]
    by_cases e : k = i
    · subst e
      rw [if_pos rfl, if_pos (by rw [tab_len]; exact h)]
      unfold tabV
      rw [if_pos (by omega)]
    · rw [if_neg e, tab_get k i hi]
      unfold tabV
      by_cases hk : i < k
      · rw [if_pos hk, if_pos (by omega)]
      · rw [if_neg hk, if_neg (by omega)]
  · rw [List.getElem?_eq_none (by rw [List.length_set, tab_len]; omega), List.getElem?_eq_none (by rw [tab_len]; omega)]
/-- the table in memory -/
def Tab (w : World) (b k : Nat) : Prop := w.heap[b]? = some (.cells (tabL k).toArray 42 (0, 0))
theorem Tab.cell {w : World} {b k : Nat} (h : Tab w b k) (i : Nat) (hi : i < 256) : w.cell? ⟨b, i, none⟩ = some (tabV k i) := by
  unfold Tab at h
  simp [World.cell?, h, tab_get k i hi]
theorem Tab.free {w : World} {b k : Nat} (h : Tab w b k) (i : Nat) : w.frozen? ⟨b, i, none⟩ = false := by
  unfold Tab at h
  simp [World.frozen?, h]
theorem Tab.set {w : World} {b k : Nat} (h : Tab w b k) (hk : k < 256) : Tab (w.setCell ⟨b, k, none⟩ (.int .u32 ((bitN 8 k : Nat) : Int))) b (k + 1) := by
  unfold Tab at h ⊢
  rw [← tab_set k hk]
  simp [World.setCell, Array.getElem?_modify, h]

set_option maxRecDepth 100000 in
set_option maxHeartbeats 4000000 in
theorem sum_any (s : ByteArray) (w : World) (hs : s.size ≤ 100000000) : Calls Tryd.prog 10 #[.string s] w fun e w' => e = .returned (.int .u32 (crc s.toList : Nat)) ∧ Below w.heap.size w w' := by
  have h0 : Tab (w.alloc (.cells Tryd.zeroCells42 42)) w.heap.size 0 := by unfold Tab; rw [← tab_zero]; exact heap_alloc_new w _
  have hb0 : Below w.heap.size w (w.alloc (.cells Tryd.zeroCells42 42)) := (Below.refl _ _).alloc (Nat.le_refl _) _
  go_enter Tryd.func10, Tryd.ntmps10
  go_wp2
  generalize w.alloc (.cells Tryd.zeroCells42 42) = W at *
  go_loopw [8] (fun i wr => ∃ k : Nat, k ≤ 256 ∧ i = .int .i64 k ∧ Tab wr w.heap.size k ∧ Below w.heap.size w wr) (fun i _ => 256 - (intOf i).toNat)
  case atStart => exact ⟨0, by omega, rfl, h0, hb0⟩
  case round =>
    obtain ⟨k, hk, rfl, ht, hbw⟩ := hrel
    by_cases hlt : k < 256
    · rename World => wo
      go_wp2
      go_loop [5, 13] (fun r i => ∃ j : Nat, j ≤ 8 ∧ i = .int .i64 j ∧ r = .int .u32 (bitN j k : Nat)) (fun _ i => 8 - (intOf i).toNat)
      case atStart => exact ⟨0, by omega, rfl, rfl⟩
      case round =>
        obtain ⟨j, hj, rfl, rfl⟩ := hrel
        have hq := bitN_lt j k (by omega)
        by_cases hjt : j < 8
        · have HS := Lib.hid (bitN_out j k)
          have hA := and_one (bitN j k) hq
          have hP := xor_pol (bitN j k) hq
          by_cases ho : bitN j k % 2 = 1
          · have HE := Lib.hid (bitS_odd ho)
            rw [ho] at hA
            generalize bitN j k = q at *
            clear ho
            go_wp2
            go_round
            case rel => exact ⟨j + 1, by omega, by go_num, by rw [HS.out, HE.out]⟩
            case measure => simp [intOf]; omega
          · have HE := Lib.hid (bitS_even ho)
            have ho0 : bitN j k % 2 = 0 := by omega
            rw [ho0] at hA
            generalize bitN j k = q at *
            clear ho ho0
            go_wp2
            go_round
            case rel => exact ⟨j + 1, by omega, by go_num, by rw [HS.out, HE.out]; rfl⟩
            case measure => simp [intOf]; omega
        · obtain rfl : j = 8 := by omega
          rw [show ((8 : Nat) : Int) = 8 from rfl]
          have c1 := ht.cell k hlt
          have z1 := ht.free k
          have H2 := Lib.hid (ht.set hlt)
          have HB : Hid (Below w.heap.size w (wo.setCell ⟨w.heap.size, k, none⟩ (.int .u32 ((bitN 8 k : Nat) : Int)))) := hbw.setCell (p := ⟨w.heap.size, k, none⟩) (Nat.le_refl _) _
          generalize bitN 8 k = q at *
          go_wp2
          go_roundw
          case rel => exact ⟨k + 1, by omega, by go_num, H2.out, HB.out⟩
          case measure => simp [intOf]; omega
    · obtain rfl : k = 256 := by omega
      rw [show ((256 : Nat) : Int) = 256 from rfl]
      rename World => wo
      go_wp2
      go_loop [6, 30] (fun r i => ∃ k : Nat, k ≤ s.size ∧ i = .int .i64 k ∧ r = .int .u32 (crcGo ones (s.toList.take k) : Nat)) (fun _ i => s.size - (intOf i).toNat)
      case atStart => exact ⟨0, Nat.zero_le _, rfl, rfl⟩
      case round =>
        obtain ⟨k, hk, rfl, rfl⟩ := hrel
        have hr := crcGo_lt (s.toList.take k) ones (by decide)
        by_cases hlt : k < s.size
        · have HT := Lib.hid (take_byte s k hlt)
          have hb : s[k].toNat < 256 := UInt8.toNat_lt _
          have HN : Hid (crcGo ones (s.toList.take (k + 1)) = stT (crcGo ones (s.toList.take k)) s[k].toNat) := by rw [HT.out, crcGo_app, st_eq]; rfl
          generalize crcGo ones (s.toList.take k) = R at *
          have hi : R % 256 ^^^ s[k].toNat < 256 := Nat.xor_lt_two_pow (n := 8) (by omega) hb
          have hx8 : bits .xor .u8 ((R : Int) % 256) (s[k].toNat : Int) = ((R % 256 ^^^ s[k].toNat : Nat) : Int) := by
            have := u8_xor_nat (R % 256) s[k].toNat (by omega) hb
            rw [show ((R % 256 : Nat) : Int) = (R : Int) % 256 from by omega] at this
            exact this
          have c1 : wo.cell? ⟨w.heap.size, R % 256 ^^^ s[k].toNat, none⟩ = some (.int .u32 ((bitN 8 (R % 256 ^^^ s[k].toNat) : Nat) : Int)) := by
            rw [ht.cell _ hi]; unfold tabV; rw [if_pos hi]
          have hx32 : bits .xor .u32 ((R : Int) / 256) ((bitN 8 (R % 256 ^^^ s[k].toNat) : Nat) : Int) = ((stT R s[k].toNat : Nat) : Int) := by
            have := u32_xor_nat (R / 256) (bitN 8 (R % 256 ^^^ s[k].toNat)) (by omega) (bitN_lt 8 _ (by omega))
            rw [show ((R / 256 : Nat) : Int) = (R : Int) / 256 from by omega] at this
            exact this
          have hi0 : (0 : Int) ≤ ((R % 256 ^^^ s[k].toNat : Nat) : Int) := by omega
          have hi1 : ((R % 256 ^^^ s[k].toNat : Nat) : Int) < 256 := by omega
          generalize stT R s[k].toNat = N at *
          generalize bitN 8 (R % 256 ^^^ s[k].toNat) = T at *
          generalize R % 256 ^^^ s[k].toNat = I at *
          go_wp2
          go_round
          case rel => exact ⟨k + 1, by omega, by go_num, by rw [HN.out]⟩
          case measure => simp [intOf]; omega
        · have HE : Hid (s.toList.take k = s.toList) := List.take_of_length_le (by rw [len_toList]; omega)
          have hX := ones_xor _ hr
          have HC : Hid (crc s.toList = ones ^^^ crcGo ones s.toList) := rfl
          rw [HE.out] at hX
          rw [HE.out]
          rw [← HC.out] at hX
          go_wp2
          go_ret
          exact ⟨ret_int (k := .u32) hX, hbw⟩
end Go.Proofs.YtofbcblhpflleaaDoor
