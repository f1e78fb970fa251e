/-
  Layer 33 (markup): Escape, the program's.
  Layer 33 (markup): Escape, the chapter's.
-/
import Derived.Test.YtejjidbodfoiiaaGreatDoorMkEFG
import Derived.Test.YtejjidbodfoiiaaGreatDoorBuilderW
import Derived.Lib.SlBytesConst
namespace Go.Proofs.YtejjidbodfoiiaaGreatDoor
open Go.RowKit
set_option linter.unusedVariables false
set_option linter.unusedSimpArgs false
attribute [local go_sem] B_data B_size

def SPost (r : List UInt8) (w : World) (e : Ending) (w' : World) : Prop := e = .returned (.string (B r)) ∧ Below w.heap.size w w'
theorem esc_take (s : ByteArray) (k : Nat) (h : k < s.size) : esc (s.toList.take (k + 1)) = esc (s.toList.take k) ++ escB s[k] := by
  rw [take_byte s k h, esc_append]; simp [esc]
theorem esc_take_len (l : List UInt8) (k : Nat) : (esc (l.take k)).length ≤ 6 * l.length := by
  have := esc_len6 (l.take k)
  have := List.length_take_le' k l
  omega
set_option maxHeartbeats 4000000 in
set_option maxRecDepth 100000 in
theorem escape_any (s : ByteArray) (w : World) (hs : s.size ≤ 10000000000) : Calls Tryz.prog 102 #[.string s] w (SPost (esc s.toList) w) := by
  have HL := Lib.hid (len_toList s)
  have h0 : Bd (w.alloc (.cells #[.pointer none, .slice none 0 0] 110)) w.heap.size [] := Bd.new w
  have hb0 := below_alloc w (.cells #[.pointer none, .slice none 0 0] 110)
  have HEL := Lib.hid (fun k => esc_take_len s.toList k)
  go_enter Tryz.func102, Tryz.ntmps102
  go_wp2
  generalize w.alloc (.cells #[.pointer none, .slice none 0 0] 110) = W at *
  go_loopw [7] (fun i wr => ∃ k : Nat, k ≤ s.size ∧ i = .int .i64 k ∧ Bd wr w.heap.size (esc (s.toList.take k)) ∧ Below w.heap.size w wr) (fun i _ => s.size - (intOf i).toNat)
  case atStart => exact ⟨0, Nat.zero_le _, rfl, h0, hb0⟩
  case round =>
    obtain ⟨k, hk, rfl, hbd, hbw⟩ := hrel
    have hbs := hbw.size
    have hel := HEL.out k
    rw [HL.out] at hel
    by_cases hlt : k < s.size
    · have HT := Lib.hid (esc_take s k hlt)
      generalize esc (s.toList.take k) = L at *
      by_cases h1 : s[k] = 38
      · have hn : s[k].toNat = 38 := by rw [h1]; rfl
        have d1 : ((s[k].toNat : Int) == 38) = true := by rw [hn]; rfl
        have HT2 : Hid (esc (s.toList.take (k + 1)) = L ++ [38, 97, 109, 112, 59]) := by rw [HT.out, h1]; rfl
        clear h1 hn
        go_wp2_with fail
        refine (writeString_any w.heap.size L (B [38, 97, 109, 112, 59]) _ hbd (by rw [B_size]; simp only [List.length]; omega)).mono ?_
        rintro e w1 ⟨rfl, hd1, hk1⟩
        rw [B_data] at hd1
        rw [← HT2.out] at hd1
        have hB1 := hbw.trans hk1.1
        go_wp2
        go_roundw
        case rel => exact ⟨k + 1, by omega, by go_num, hd1, hB1⟩
        case measure => simp [intOf]; omega
      by_cases h2 : s[k] = 60
      · have hn : s[k].toNat = 60 := by rw [h2]; rfl
        have d1 : ((s[k].toNat : Int) == 38) = false := by rw [hn]; rfl
        have d2 : ((s[k].toNat : Int) == 60) = true := by rw [hn]; rfl
        have HT2 : Hid (esc (s.toList.take (k + 1)) = L ++ [38, 108, 116, 59]) := by rw [HT.out, h2]; rfl
        clear h1 h2 hn
        go_wp2_with fail
        refine (writeString_any w.heap.size L (B [38, 108, 116, 59]) _ hbd (by rw [B_size]; simp only [List.length]; omega)).mono ?_
        rintro e w1 ⟨rfl, hd1, hk1⟩
        rw [B_data] at hd1
        rw [← HT2.out] at hd1
        have hB1 := hbw.trans hk1.1
        go_wp2
        go_roundw
        case rel => exact ⟨k + 1, by omega, by go_num, hd1, hB1⟩
        case measure => simp [intOf]; omega
      by_cases h3 : s[k] = 62
      · have hn : s[k].toNat = 62 := by rw [h3]; rfl
        have d1 : ((s[k].toNat : Int) == 38) = false := by rw [hn]; rfl
        have d2 : ((s[k].toNat : Int) == 60) = false := by rw [hn]; rfl
        have d3 : ((s[k].toNat : Int) == 62) = true := by rw [hn]; rfl
        have HT2 : Hid (esc (s.toList.take (k + 1)) = L ++ [38, 103, 116, 59]) := by rw [HT.out, h3]; rfl
        clear h1 h2 h3 hn
        go_wp2_with fail
        refine (writeString_any w.heap.size L (B [38, 103, 116, 59]) _ hbd (by rw [B_size]; simp only [List.length]; omega)).mono ?_
        rintro e w1 ⟨rfl, hd1, hk1⟩
        rw [B_data] at hd1
        rw [← HT2.out] at hd1
        have hB1 := hbw.trans hk1.1
        go_wp2
        go_roundw
        case rel => exact ⟨k + 1, by omega, by go_num, hd1, hB1⟩
        case measure => simp [intOf]; omega
      by_cases h4 : s[k] = 34
      · have hn : s[k].toNat = 34 := by rw [h4]; rfl
        have d1 : ((s[k].toNat : Int) == 38) = false := by rw [hn]; rfl
        have d2 : ((s[k].toNat : Int) == 60) = false := by rw [hn]; rfl
        have d3 : ((s[k].toNat : Int) == 62) = false := by rw [hn]; rfl
        have d4 : ((s[k].toNat : Int) == 34) = true := by rw [hn]; rfl
        have HT2 : Hid (esc (s.toList.take (k + 1)) = L ++ [38, 113, 117, 111, 116, 59]) := by rw [HT.out, h4]; rfl
        clear h1 h2 h3 h4 hn
        go_wp2_with fail
        refine (writeString_any w.heap.size L (B [38, 113, 117, 111, 116, 59]) _ hbd (by rw [B_size]; simp only [List.length]; omega)).mono ?_
        rintro e w1 ⟨rfl, hd1, hk1⟩
        rw [B_data] at hd1
        rw [← HT2.out] at hd1
        have hB1 := hbw.trans hk1.1
        go_wp2
        go_roundw
        case rel => exact ⟨k + 1, by omega, by go_num, hd1, hB1⟩
        case measure => simp [intOf]; omega
      have HT2 : Hid (esc (s.toList.take (k + 1)) = L ++ [s[k]]) := by rw [HT.out, escB, if_neg h1, if_neg h2, if_neg h3, if_neg h4]; rfl
      have nn : ∀ m : UInt8, s[k] ≠ m → ((s[k].toNat : Int) == (m.toNat : Int)) = false := fun m hm => by
        rw [beq_eq_false_iff_ne]; intro e; exact hm (UInt8.toNat_inj.1 (by omega))
      have d1 : ((s[k].toNat : Int) == 38) = false := nn 38 h1
      have d2 : ((s[k].toNat : Int) == 60) = false := nn 60 h2
      have d3 : ((s[k].toNat : Int) == 62) = false := nn 62 h3
      have d4 : ((s[k].toNat : Int) == 34) = false := nn 34 h4
      clear h1 h2 h3 h4 nn
      go_wp2_with fail
      refine (writeByte_any w.heap.size L s[k] _ hbd (by omega)).mono ?_
      rintro e w1 ⟨rfl, hd1, hk1⟩
      rw [← HT2.out] at hd1
      have hB1 := hbw.trans hk1.1
      go_wp2
      go_roundw
      case rel => exact ⟨k + 1, by omega, by go_num, hd1, hB1⟩
      case measure => simp [intOf]; omega
    · have HF : Hid (esc (s.toList.take k) = esc s.toList) := by rw [List.take_of_length_le (by rw [HL.out]; omega)]; rfl
      go_wp2_with fail
      refine (string_any w.heap.size _ _ hbd).mono ?_
      rintro e w1 ⟨rfl, hd1, hk1⟩
      rw [HF.out]
      go_wp2
      go_ret
      exact ⟨rfl, hbw.trans hk1.1⟩
end Go.Proofs.YtejjidbodfoiiaaGreatDoor
namespace Go.Proofs.YtejjidbodfoiiaaGreatDoor
open Go.RowKit
set_option linter.unusedVariables false
set_option linter.unusedSimpArgs false
attribute [local go_sem] B_data B_size

def u8s (l : List UInt8) : List Value := l.map fun b => .int .u8 (b.toNat : Int)
theorem u8s_len (l : List UInt8) : (u8s l).length = l.length := by simp [u8s]
theorem u8s_app (a b : List UInt8) : u8s (a ++ b) = u8s a ++ u8s b := by simp [u8s]
theorem conv_rd {w : World} {M n : Nat} {A : Option Addr} {l : List UInt8} (h : Rd w M 1 A n (u8s l)) (c : Nat) : (convert 108 9 (.slice A n c)).run Tryz.prog w = .ok (.string (B l)) w := by
  have hl : l.length = n := by have := h.1; rw [u8s_len] at this; omega
  rcases A with _ | ad
  · have hn : n = 0 := by
      rcases Nat.eq_zero_or_pos n with h0 | h0
      · exact h0
      · obtain ⟨ad, e, _⟩ := h.2 h0; cases e
    subst hn
    obtain rfl : l = [] := List.eq_nil_of_length_eq_zero hl
    rw [run_convert_bytes_string w 108 9 5 none 0 c Tryz.underlying108 Tryz.underlying5 Tryz.underlying9]; rfl
  · subst hl
    refine run_convert_bytes_back w 108 9 5 ad c l Tryz.underlying108 Tryz.underlying5 Tryz.underlying9 (fun j hj => ?_)
    obtain ⟨ad', e, _, hc⟩ := h.2 (by omega)
    injection e with e
    subst e
    exact hc j _ (by simp [u8s, hj])
end Go.Proofs.YtejjidbodfoiiaaGreatDoor
