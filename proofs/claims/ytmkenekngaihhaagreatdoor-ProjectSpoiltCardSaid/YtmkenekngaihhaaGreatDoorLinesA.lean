/-
  Layer 2 (lines): the functions that only compute: Indent, Blank, Strip, Trim, Number and feeds, each by what it returns.
-/
import Derived.Test.YtmkenekngaihhaaGreatDoorBytes
namespace Go.Proofs.YtmkenekngaihhaaGreatDoor
open Go.RowKit
set_option linter.unusedVariables false

def indent : List UInt8 → Nat
  | [] => 0
  | c :: r => if c = 32 then indent r + 1 else 0

theorem indent_le (l : List UInt8) : indent l ≤ l.length := by
  induction l with
  | nil => simp [indent]
  | cons c r ih => simp only [indent]; split <;> simp; omega

theorem indent_step (s : ByteArray) (k : Nat) (h : k < s.size) (hi : indent s.toList = k + indent (s.toList.drop k)) (hc : ((s[k].toNat : Int) == 32) = true) :
    indent s.toList = (k+1) + indent (s.toList.drop (k+1)) := by
  rw [hi, drop_byte s k h]
  have : s[k] = 32 := UInt8.toNat_inj.1 (by simpa using (beq_byte s[k] 32).1 hc)
  simp only [indent]; rw [if_pos this]; omega

theorem indent_stop (s : ByteArray) (k : Nat) (h : k < s.size) (hi : indent s.toList = k + indent (s.toList.drop k)) (hc : ((s[k].toNat : Int) == 32) = false) :
    indent s.toList = k := by
  rw [hi, drop_byte s k h]
  have : ¬ s[k] = 32 := fun e => by simp [e] at hc
  simp only [indent]; rw [if_neg this]; omega

set_option maxHeartbeats 400000 in
theorem indent_any (s : ByteArray) (w : World) (hs : s.size ≤ 9223372036854775807) :
    Calls Tryz.prog 72 #[.string s] w fun e w' => e = .returned (.int .i64 (indent s.toList)) ∧ w = w' := by
  go_enter Tryz.func72, Tryz.ntmps72
  go_wp2
  go_loop [3] (fun i => ∃ k : Nat, k ≤ s.size ∧ i = .int .i64 k ∧ Hid (indent s.toList = k + indent (s.toList.drop k))) (fun i => s.size - (intOf i).toNat)
  case atStart => exact ⟨0, Nat.zero_le _, rfl, by simp [Hid]⟩
  case round =>
    obtain ⟨k, hk, rfl, hi⟩ := hrel
    by_cases hlt : k < s.size
    · go_wp2
      · go_round
        case rel => exact ⟨k + 1, by omega, by go_num, indent_step s k hlt hi.out ‹_›⟩
        case measure => simp [intOf]; omega
      · go_ret
        exact ⟨ret_int (by rw [indent_stop s k hlt hi.out ‹_›]), rfl⟩
    · go_wp2
      go_ret
      exact ⟨ret_int (by rw [hi.out, List.drop_of_length_le (by rw [len_toList]; omega)]; simp [indent]), rfl⟩

set_option maxHeartbeats 400000 in
theorem rindent_any (s : ByteArray) (w : World) (hs : s.size ≤ 9223372036854775807) :
    Calls Tryz.prog 96 #[.string s] w fun e w' => e = .returned (.int .i64 (indent s.toList)) ∧ w = w' := by
  go_enter Tryz.func96, Tryz.ntmps96
  go_wp2
  go_loop [3] (fun i => ∃ k : Nat, k ≤ s.size ∧ i = .int .i64 k ∧ Hid (indent s.toList = k + indent (s.toList.drop k))) (fun i => s.size - (intOf i).toNat)
  case atStart => exact ⟨0, Nat.zero_le _, rfl, by simp [Hid]⟩
  case round =>
    obtain ⟨k, hk, rfl, hi⟩ := hrel
    by_cases hlt : k < s.size
    · go_wp2
      · go_round
        case rel => exact ⟨k + 1, by omega, by go_num, indent_step s k hlt hi.out ‹_›⟩
        case measure => simp [intOf]; omega
      · go_ret
        exact ⟨ret_int (by rw [indent_stop s k hlt hi.out ‹_›]), rfl⟩
    · go_wp2
      go_ret
      exact ⟨ret_int (by rw [hi.out, List.drop_of_length_le (by rw [len_toList]; omega)]; simp [indent]), rfl⟩

/-- without the spaces at its end -/
def rtrim (l : List UInt8) : List UInt8 := (l.reverse.dropWhile (· == 32)).reverse

def trim (l : List UInt8) : List UInt8 := rtrim (l.drop (indent l))

theorem rtrim_step (s : ByteArray) (h : 0 < s.size) (hc : ((s[s.size - 1].toNat : Int) == 32) = true) : rtrim (s.toList.take (s.size - 1)) = rtrim s.toList := by
  have e : s[s.size - 1] = 32 := UInt8.toNat_inj.1 (by simpa using (beq_byte _ 32).1 hc)
  conv => rhs; rw [last_byte s h]
  unfold rtrim
  rw [List.reverse_append, e]
  rfl

theorem rtrim_stop (s : ByteArray) (h : 0 < s.size) (hc : ((s[s.size - 1].toNat : Int) == 32) = false) : rtrim s.toList = s.toList := by
  have e : ¬ s[s.size - 1] = 32 := fun e => by simp [e] at hc
  rw [last_byte s h]
  unfold rtrim
  rw [List.reverse_append]
  simp [e]

theorem rtrim_nil (t : ByteArray) (h : t.size = 0) : t = B (rtrim t.toList) := by
  have : t.toList = [] := List.eq_nil_of_length_eq_zero (by rw [len_toList]; exact h)
  conv => lhs; rw [← B_self t]
  rw [this]; rfl

set_option maxHeartbeats 400000 in
theorem trim_any (s : ByteArray) (w : World) (hs : s.size ≤ 9223372036854775807) :
    Calls Tryz.prog 48 #[.string s] w fun e w' => e = .returned (.string (B (trim s.toList))) ∧ w = w' := by
  have hi := indent_le s.toList
  rw [len_toList] at hi
  have hi' : indent s.toList ≤ s.size := hi
  clear hi
  go_enter Tryz.func48, Tryz.ntmps48
  go_wp2_with (go_at_call 72; refine (indent_any _ _ hs).mono ?_; rintro e w' ⟨rfl, rfl⟩)
  go_loop [0] (fun v => ∃ t : ByteArray, t.size ≤ s.size ∧ v = .string t ∧ Hid (trim s.toList = rtrim t.toList)) (fun v => match v with | .string t => t.size | _ => 0)
  case atStart => exact ⟨_, by rw [B_drop, B_size, List.length_drop, len_toList]; omega, rfl, by rw [B_drop, B_data]; rfl⟩
  case round =>
    obtain ⟨t, ht, rfl, hr⟩ := hrel
    by_cases h0 : 0 < t.size
    · go_wp2
      · go_round
        case rel => exact ⟨_, by rw [B_take, B_size, List.length_take, len_toList]; omega, rfl, by rw [B_take, B_data, rtrim_step t h0 ‹_›]; exact hr.out⟩
        case measure => show (t.extract 0 (t.size - 1)).size < t.size; rw [B_take, B_size, List.length_take]; omega
      · go_ret
        exact ⟨ret_str (by rw [hr.out, rtrim_stop t h0 ‹_›, B_self]), rfl⟩
    · go_wp2
      go_ret
      exact ⟨ret_str (by rw [hr.out]; exact rtrim_nil t (by omega)), rfl⟩

set_option maxHeartbeats 400000 in
theorem rtrim_any (s : ByteArray) (w : World) (hs : s.size ≤ 9223372036854775807) :
    Calls Tryz.prog 79 #[.string s] w fun e w' => e = .returned (.string (B (trim s.toList))) ∧ w = w' := by
  have hi := indent_le s.toList
  rw [len_toList] at hi
  have hi' : indent s.toList ≤ s.size := hi
  clear hi
  go_enter Tryz.func79, Tryz.ntmps79
  go_wp2_with (go_at_call 96; refine (rindent_any _ _ hs).mono ?_; rintro e w' ⟨rfl, rfl⟩)
  go_loop [0] (fun v => ∃ t : ByteArray, t.size ≤ s.size ∧ v = .string t ∧ Hid (trim s.toList = rtrim t.toList)) (fun v => match v with | .string t => t.size | _ => 0)
  case atStart => exact ⟨_, by rw [B_drop, B_size, List.length_drop, len_toList]; omega, rfl, by rw [B_drop, B_data]; rfl⟩
  case round =>
    obtain ⟨t, ht, rfl, hr⟩ := hrel
    by_cases h0 : 0 < t.size
    · have he := isEmpty_of t h0
      go_wp2
      · go_round
        case rel => exact ⟨_, by rw [B_take, B_size, List.length_take, len_toList]; omega, rfl, by rw [B_take, B_data, rtrim_step t h0 ‹_›]; exact hr.out⟩
        case measure => show (t.extract 0 (t.size - 1)).size < t.size; rw [B_take, B_size, List.length_take]; omega
      · go_ret
        exact ⟨ret_str (by rw [hr.out, rtrim_stop t h0 ‹_›, B_self]), rfl⟩
    · have he : t.toList.isEmpty = true := isEmpty_zero t (by omega)
      go_wp2
      go_ret
      exact ⟨ret_str (by rw [hr.out]; exact rtrim_nil t (by omega)), rfl⟩

end Go.Proofs.YtmkenekngaihhaaGreatDoor
