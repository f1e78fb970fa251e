/-
  Layer 2 (lines): the functions that only compute: Indent, Blank, Strip, Trim, Number and feeds, each by what it returns.
-/
import Derived.Test.YtedijdllbfnapaaBytes
namespace Go.Proofs.Ytedijdllbfnapaa
open Go.RowKit
set_option linter.unusedVariables false

def indent : List UInt8 → Nat
  | [] => 0
  | c :: r => if c = 32 then indent r + 1 else 0

theorem indent_le (l : List UInt8) : indent l ≤ l.length := by
  induction l with
  | nil => simp [indent]
  | cons c r ih => simp only [indent]; split <;> simp; omega

theorem indent_step (s : ByteArray) (k : Nat) (h : k < s.size) (hi : indent s.toList = k + indent (s.toList.drop k)) (hc : ((s[k].toNat : Int) == 32) = true) :
    indent s.toList = (k+1) + indent (s.toList.drop (k+1)) := by
  rw [hi, drop_byte s k h]
  have : s[k] = 32 := UInt8.toNat_inj.1 (by simpa using (beq_byte s[k] 32).1 hc)
  simp only [indent]; rw [if_pos this]; omega

theorem indent_stop (s : ByteArray) (k : Nat) (h : k < s.size) (hi : indent s.toList = k + indent (s.toList.drop k)) (hc : ((s[k].toNat : Int) == 32) = false) :
    indent s.toList = k := by
  rw [hi, drop_byte s k h]
  have : ¬ s[k] = 32 := fun e => by simp [e] at hc
  simp only [indent]; rw [if_neg this]; omega

set_option maxHeartbeats 400000 in
theorem indent_any (s : ByteArray) (w : World) (hs : s.size ≤ 9223372036854775807) :
    Calls Try.prog 18 #[.string s] w fun e w' => e = .returned (.int .i64 (indent s.toList)) ∧ w = w' := by
  go_enter Try.func18, Try.ntmps18
  go_wp2
  go_loop [3] (fun i => ∃ k : Nat, k ≤ s.size ∧ i = .int .i64 k ∧ Hid (indent s.toList = k + indent (s.toList.drop k))) (fun i => s.size - (intOf i).toNat)
  case atStart => exact ⟨0, Nat.zero_le _, rfl, by simp [Hid]⟩
  case round =>
    obtain ⟨k, hk, rfl, hi⟩ := hrel
    by_cases hlt : k < s.size
    · go_wp2
      · go_round
        case rel => exact ⟨k + 1, by omega, by go_num, indent_step s k hlt hi.out ‹_›⟩
        case measure => simp [intOf]; omega
      · go_ret
        exact ⟨ret_int (by rw [indent_stop s k hlt hi.out ‹_›]), rfl⟩
    · go_wp2
      go_ret
      exact ⟨ret_int (by rw [hi.out, List.drop_of_length_le (by rw [len_toList]; omega)]; simp [indent]), rfl⟩

set_option maxHeartbeats 400000 in
theorem rindent_any (s : ByteArray) (w : World) (hs : s.size ≤ 9223372036854775807) :
    Calls Try.prog 21 #[.string s] w fun e w' => e = .returned (.int .i64 (indent s.toList)) ∧ w = w' := by
  go_enter Try.func21, Try.ntmps21
  go_wp2
  go_loop [3] (fun i => ∃ k : Nat, k ≤ s.size ∧ i = .int .i64 k ∧ Hid (indent s.toList = k + indent (s.toList.drop k))) (fun i => s.size - (intOf i).toNat)
  case atStart => exact ⟨0, Nat.zero_le _, rfl, by simp [Hid]⟩
  case round =>
    obtain ⟨k, hk, rfl, hi⟩ := hrel
    by_cases hlt : k < s.size
    · go_wp2
      · go_round
        case rel => exact ⟨k + 1, by omega, by go_num, indent_step s k hlt hi.out ‹_›⟩
        case measure => simp [intOf]; omega
      · go_ret
        exact ⟨ret_int (by rw [indent_stop s k hlt hi.out ‹_›]), rfl⟩
    · go_wp2
      go_ret
      exact ⟨ret_int (by rw [hi.out, List.drop_of_length_le (by rw [len_toList]; omega)]; simp [indent]), rfl⟩

def blankB (l : List UInt8) : Bool := indent l == l.length

theorem blank_cast (s : ByteArray) : ((indent s.toList : Int) == (s.size : Int)) = blankB s.toList := by
  unfold blankB
  rw [Bool.eq_iff_iff, beq_iff_eq, beq_iff_eq, len_toList]
  exact Int.ofNat_inj

theorem blank_any (s : ByteArray) (w : World) (hs : s.size ≤ 9223372036854775807) :
    Calls Try.prog 19 #[.string s] w fun e w' => e = .returned (.bool (blankB s.toList)) ∧ w = w' := by
  go_enter Try.func19, Try.ntmps19
  go_wp2_with (go_at_call 18; refine (indent_any _ _ hs).mono ?_; rintro e w' ⟨rfl, rfl⟩)
  go_ret
  exact ⟨ret_bool (blank_cast s), rfl⟩

theorem rblank_any (s : ByteArray) (w : World) (hs : s.size ≤ 9223372036854775807) :
    Calls Try.prog 20 #[.string s] w fun e w' => e = .returned (.bool (blankB s.toList)) ∧ w = w' := by
  go_enter Try.func20, Try.ntmps20
  go_wp2_with (go_at_call 21; refine (rindent_any _ _ hs).mono ?_; rintro e w' ⟨rfl, rfl⟩)
  go_ret
  exact ⟨ret_bool (blank_cast s), rfl⟩

def strip (l : List UInt8) (n : Int) : List UInt8 := l.drop (min n.toNat (indent l))

theorem strip_nat (l : List UInt8) (n : Int) (k : Nat) (h : min n.toNat (indent l) = k) : strip l n = l.drop k := by unfold strip; rw [h]

set_option maxHeartbeats 400000 in
theorem strip_any (s : ByteArray) (n : Int) (w : World) (hs : s.size ≤ 9223372036854775807) (h1 : -9223372036854775808 ≤ n) (h2 : n ≤ 9223372036854775807) :
    Calls Try.prog 22 #[.string s, .int .i64 n] w fun e w' => e = .returned (.string (B (strip s.toList n))) ∧ w = w' := by
  have hi := indent_le s.toList
  rw [len_toList] at hi
  have hi' : indent s.toList ≤ s.size := hi
  clear hi
  by_cases hn : n < 0
  · go_enter Try.func22, Try.ntmps22
    go_wp2_with (go_at_call 18; refine (indent_any _ _ hs).mono ?_; rintro e w' ⟨rfl, rfl⟩)
    go_ret
    exact ⟨ret_str (by rw [strip_nat _ _ 0 (by omega), List.drop_zero, B_self]), rfl⟩
  · by_cases hk : n ≤ indent s.toList
    · go_enter Try.func22, Try.ntmps22
      go_wp2_with (go_at_call 18; refine (indent_any _ _ hs).mono ?_; rintro e w' ⟨rfl, rfl⟩)
      go_ret
      exact ⟨ret_str (by rw [strip_nat _ _ n.toNat (by omega), B_drop]), rfl⟩
    · go_enter Try.func22, Try.ntmps22
      go_wp2_with (go_at_call 18; refine (indent_any _ _ hs).mono ?_; rintro e w' ⟨rfl, rfl⟩)
      go_ret
      exact ⟨ret_str (by rw [strip_nat _ _ (indent s.toList) (by omega), B_drop]), rfl⟩

set_option maxHeartbeats 400000 in
theorem rstrip_any (s : ByteArray) (n : Int) (w : World) (hs : s.size ≤ 9223372036854775807) (h1 : -9223372036854775808 ≤ n) (h2 : n ≤ 9223372036854775807) :
    Calls Try.prog 23 #[.string s, .int .i64 n] w fun e w' => e = .returned (.string (B (strip s.toList n))) ∧ w = w' := by
  have hi := indent_le s.toList
  rw [len_toList] at hi
  have hi' : indent s.toList ≤ s.size := hi
  clear hi
  by_cases hn : n < 0
  · go_enter Try.func23, Try.ntmps23
    go_wp2_with (go_at_call 21; refine (rindent_any _ _ hs).mono ?_; rintro e w' ⟨rfl, rfl⟩)
    go_ret
    exact ⟨ret_str (by rw [strip_nat _ _ 0 (by omega), List.drop_zero, B_self]), rfl⟩
  · by_cases hk : n < indent s.toList
    · go_enter Try.func23, Try.ntmps23
      go_wp2_with (go_at_call 21; refine (rindent_any _ _ hs).mono ?_; rintro e w' ⟨rfl, rfl⟩)
      go_ret
      exact ⟨ret_str (by rw [strip_nat _ _ n.toNat (by omega), B_drop]), rfl⟩
    · go_enter Try.func23, Try.ntmps23
      go_wp2_with (go_at_call 21; refine (rindent_any _ _ hs).mono ?_; rintro e w' ⟨rfl, rfl⟩)
      go_ret
      exact ⟨ret_str (by rw [strip_nat _ _ (indent s.toList) (by omega), B_drop]), rfl⟩

/-- without the spaces at its end -/
def rtrim (l : List UInt8) : List UInt8 := (l.reverse.dropWhile (· == 32)).reverse

def trim (l : List UInt8) : List UInt8 := rtrim (l.drop (indent l))

theorem rtrim_step (s : ByteArray) (h : 0 < s.size) (hc : ((s[s.size - 1].toNat : Int) == 32) = true) : rtrim (s.toList.take (s.size - 1)) = rtrim s.toList := by
  have e : s[s.size - 1] = 32 := UInt8.toNat_inj.1 (by simpa using (beq_byte _ 32).1 hc)
  conv => rhs; rw [last_byte s h]
  unfold rtrim
  rw [List.reverse_append, e]
  rfl

theorem rtrim_stop (s : ByteArray) (h : 0 < s.size) (hc : ((s[s.size - 1].toNat : Int) == 32) = false) : rtrim s.toList = s.toList := by
  have e : ¬ s[s.size - 1] = 32 := fun e => by simp [e] at hc
  rw [last_byte s h]
  unfold rtrim
  rw [List.reverse_append]
  simp [e]

theorem rtrim_nil (t : ByteArray) (h : t.size = 0) : t = B (rtrim t.toList) := by
  have : t.toList = [] := List.eq_nil_of_length_eq_zero (by rw [len_toList]; exact h)
  conv => lhs; rw [← B_self t]
  rw [this]; rfl

set_option maxHeartbeats 400000 in
theorem trim_any (s : ByteArray) (w : World) (hs : s.size ≤ 9223372036854775807) :
    Calls Try.prog 24 #[.string s] w fun e w' => e = .returned (.string (B (trim s.toList))) ∧ w = w' := by
  have hi := indent_le s.toList
  rw [len_toList] at hi
  have hi' : indent s.toList ≤ s.size := hi
  clear hi
  go_enter Try.func24, Try.ntmps24
  go_wp2_with (go_at_call 18; refine (indent_any _ _ hs).mono ?_; rintro e w' ⟨rfl, rfl⟩)
  go_loop [0] (fun v => ∃ t : ByteArray, t.size ≤ s.size ∧ v = .string t ∧ Hid (trim s.toList = rtrim t.toList)) (fun v => match v with | .string t => t.size | _ => 0)
  case atStart => exact ⟨_, by rw [B_drop, B_size, List.length_drop, len_toList]; omega, rfl, by rw [B_drop, B_data]; rfl⟩
  case round =>
    obtain ⟨t, ht, rfl, hr⟩ := hrel
    by_cases h0 : 0 < t.size
    · go_wp2
      · go_round
        case rel => exact ⟨_, by rw [B_take, B_size, List.length_take, len_toList]; omega, rfl, by rw [B_take, B_data, rtrim_step t h0 ‹_›]; exact hr.out⟩
        case measure => show (t.extract 0 (t.size - 1)).size < t.size; rw [B_take, B_size, List.length_take]; omega
      · go_ret
        exact ⟨ret_str (by rw [hr.out, rtrim_stop t h0 ‹_›, B_self]), rfl⟩
    · go_wp2
      go_ret
      exact ⟨ret_str (by rw [hr.out]; exact rtrim_nil t (by omega)), rfl⟩

set_option maxHeartbeats 400000 in
theorem rtrim_any (s : ByteArray) (w : World) (hs : s.size ≤ 9223372036854775807) :
    Calls Try.prog 25 #[.string s] w fun e w' => e = .returned (.string (B (trim s.toList))) ∧ w = w' := by
  have hi := indent_le s.toList
  rw [len_toList] at hi
  have hi' : indent s.toList ≤ s.size := hi
  clear hi
  go_enter Try.func25, Try.ntmps25
  go_wp2_with (go_at_call 21; refine (rindent_any _ _ hs).mono ?_; rintro e w' ⟨rfl, rfl⟩)
  go_loop [0] (fun v => ∃ t : ByteArray, t.size ≤ s.size ∧ v = .string t ∧ Hid (trim s.toList = rtrim t.toList)) (fun v => match v with | .string t => t.size | _ => 0)
  case atStart => exact ⟨_, by rw [B_drop, B_size, List.length_drop, len_toList]; omega, rfl, by rw [B_drop, B_data]; rfl⟩
  case round =>
    obtain ⟨t, ht, rfl, hr⟩ := hrel
    by_cases h0 : 0 < t.size
    · have he := isEmpty_of t h0
      go_wp2
      · go_round
        case rel => exact ⟨_, by rw [B_take, B_size, List.length_take, len_toList]; omega, rfl, by rw [B_take, B_data, rtrim_step t h0 ‹_›]; exact hr.out⟩
        case measure => show (t.extract 0 (t.size - 1)).size < t.size; rw [B_take, B_size, List.length_take]; omega
      · go_ret
        exact ⟨ret_str (by rw [hr.out, rtrim_stop t h0 ‹_›, B_self]), rfl⟩
    · have he : t.toList.isEmpty = true := isEmpty_zero t (by omega)
      go_wp2
      go_ret
      exact ⟨ret_str (by rw [hr.out]; exact rtrim_nil t (by omega)), rfl⟩

def feeds (l : List UInt8) : Nat := l.count 10

theorem feeds_snoc (l : List UInt8) (c : UInt8) : feeds (l ++ [c]) = feeds l + if c = 10 then 1 else 0 := by
  unfold feeds; rw [List.count_append, List.count_singleton]; simp

theorem feeds_le (l : List UInt8) : feeds l ≤ l.length := List.count_le_length

theorem feeds_yes (s : ByteArray) (k : Nat) (h : k < s.size) (hc : ((s[k].toNat : Int) == 10) = true) : feeds (s.toList.take (k+1)) = feeds (s.toList.take k) + 1 := by
  rw [take_byte s k h, feeds_snoc, if_pos (byte_is (d := 10) hc)]

theorem feeds_no (s : ByteArray) (k : Nat) (h : k < s.size) (hc : ((s[k].toNat : Int) == 10) = false) : feeds (s.toList.take (k+1)) = feeds (s.toList.take k) := by
  rw [take_byte s k h, feeds_snoc, if_neg (byte_ne (d := 10) hc)]; rfl

set_option maxHeartbeats 400000 in
theorem feeds_any (s : ByteArray) (w : World) (hs : s.size ≤ 9223372036854775807) :
    Calls Try.prog 17 #[.string s] w fun e w' => e = .returned (.int .i64 (feeds s.toList)) ∧ w = w' := by
  go_enter Try.func17, Try.ntmps17
  go_wp2
  go_loop [3, 4] (fun n i => ∃ k m : Nat, k ≤ s.size ∧ m ≤ k ∧ i = .int .i64 k ∧ n = .int .i64 m ∧ Hid (m = feeds (s.toList.take k))) (fun _ i => s.size - (intOf i).toNat)
  case atStart => exact ⟨0, 0, Nat.zero_le _, Nat.zero_le _, rfl, rfl, rfl⟩
  case round =>
    obtain ⟨k, m, hk, hm, rfl, rfl, hr⟩ := hrel
    by_cases hlt : k < s.size
    · go_wp2
      · go_round
        case rel => exact ⟨k + 1, m + 1, by omega, by omega, by go_num, by go_num, by rw [feeds_yes s k hlt ‹_›, ← hr.out]; rfl⟩
        case measure => simp [intOf]; omega
      · go_round
        case rel => exact ⟨k + 1, m, by omega, by omega, by go_num, rfl, by rw [feeds_no s k hlt ‹_›]; exact hr.out⟩
        case measure => simp [intOf]; omega
    · go_wp2
      go_ret
      exact ⟨ret_int (by rw [hr.out, List.take_of_length_le (by rw [len_toList]; omega)]), rfl⟩

/-- where the last line of a beginning begins -/
def after (l : List UInt8) : Nat := l.length - (l.reverse.takeWhile (· != 10)).length

theorem after_snoc (l : List UInt8) (c : UInt8) : after (l ++ [c]) = if c = 10 then l.length + 1 else after l := by
  unfold after
  rw [List.reverse_append, List.length_append]
  by_cases h : c = 10
  · simp [h]
  · have hl : (l.reverse.takeWhile (· != 10)).length ≤ l.length := by
      have := (List.takeWhile_sublist (fun x : UInt8 => x != 10) (l := l.reverse)).length_le
      simpa using this
    simp [h]

theorem after_le (l : List UInt8) : after l ≤ l.length := Nat.sub_le _ _

theorem after_yes (s : ByteArray) (k : Nat) (h : k < s.size) (hc : ((s[k].toNat : Int) == 10) = true) : after (s.toList.take (k+1)) = k + 1 := by
  rw [take_byte s k h, after_snoc, if_pos (byte_is (d := 10) hc), List.length_take, len_toList]; omega

theorem after_no (s : ByteArray) (k : Nat) (h : k < s.size) (hc : ((s[k].toNat : Int) == 10) = false) : after (s.toList.take (k+1)) = after (s.toList.take k) := by
  rw [take_byte s k h, after_snoc, if_neg (byte_ne (d := 10) hc)]

/-- the byte at which the beginning ends -/
def upto (s : ByteArray) (n : Int) : Nat := min n.toNat s.size

set_option maxHeartbeats 400000 in
theorem number_core (s : ByteArray) (n : Int) (u : Nat) (w : World) (hs : s.size ≤ 9223372036854775807) (hu : u ≤ s.size) (hn : (0 ≤ n ∧ n ≤ s.size ∧ n ≤ u ∧ u ≤ n) ∨ (s.size < n ∧ s.size ≤ u)) :
    Calls Try.prog 26 #[.string s, .int .i64 n] w fun e w' => e = .returned (.tuple #[.int .i64 (feeds (s.toList.take u)), .int .i64 (after (s.toList.take u))]) ∧ w = w' := by
  rcases hn with ⟨h1, h2, h3, h4⟩ | ⟨h1, h2⟩
  all_goals
    go_enter Try.func26, Try.ntmps26
    go_wp2
    go_loop [4, 5, 13] (fun n f i => ∃ k m q : Nat, k ≤ u ∧ m ≤ k ∧ q ≤ k ∧ i = .int .i64 k ∧ n = .int .i64 m ∧ f = .int .i64 q ∧ Hid (m = feeds (s.toList.take k) ∧ q = after (s.toList.take k))) (fun _ _ i => s.size - (intOf i).toNat)
    case atStart => exact ⟨0, 0, 0, Nat.zero_le _, Nat.zero_le _, Nat.zero_le _, rfl, rfl, rfl, rfl, rfl⟩
    case round =>
      obtain ⟨k, m, q, hk, hm, hq, rfl, rfl, rfl, hr⟩ := hrel
      by_cases hlt : k < u
      · go_wp2
        · go_round
          case rel => exact ⟨k + 1, m + 1, k + 1, by omega, by omega, by omega, by go_num, by go_num, by go_num, by rw [feeds_yes s k (by omega) ‹_›, ← hr.out.1], by rw [after_yes s k (by omega) ‹_›]⟩
          case measure => simp [intOf]; omega
        · go_round
          case rel => exact ⟨k + 1, m, q, by omega, by omega, by omega, by go_num, rfl, rfl, by rw [feeds_no s k (by omega) ‹_›]; exact hr.out.1, by rw [after_no s k (by omega) ‹_›]; exact hr.out.2⟩
          case measure => simp [intOf]; omega
      · obtain rfl : k = u := by omega
        go_wp2
        go_ret2
        exact ⟨ret_two (by rw [hr.out.1]) (by rw [hr.out.2]), rfl⟩

set_option maxHeartbeats 400000 in
theorem number_neg (s : ByteArray) (n : Int) (w : World) (hs : s.size ≤ 9223372036854775807) (hn : n < 0) :
    Calls Try.prog 26 #[.string s, .int .i64 n] w fun e w' => e = .returned (.tuple #[.int .i64 (feeds (s.toList.take 0)), .int .i64 (after (s.toList.take 0))]) ∧ w = w' := by
  go_enter Try.func26, Try.ntmps26
  go_wp2
  refine wp_loop_rounds 1 ?_
  rw [rounds_succ]
  go_wp2
  go_ret2
  exact ⟨rfl, rfl⟩

theorem number_any (s : ByteArray) (n : Int) (w : World) (hs : s.size ≤ 9223372036854775807) :
    Calls Try.prog 26 #[.string s, .int .i64 n] w fun e w' => e = .returned (.tuple #[.int .i64 (feeds (s.toList.take (upto s n))), .int .i64 (after (s.toList.take (upto s n)))]) ∧ w = w' := by
  by_cases h : n < 0
  · rw [show upto s n = 0 from by unfold upto; omega]
    exact number_neg s n w hs h
  · by_cases h' : n ≤ s.size
    · exact number_core s n _ w hs (by unfold upto; omega) (.inl ⟨by omega, by omega, by unfold upto; omega, by unfold upto; omega⟩)
    · exact number_core s n _ w hs (by unfold upto; omega) (.inr ⟨by omega, by unfold upto; omega⟩)

set_option maxHeartbeats 400000 in
theorem rnumber_core (s : ByteArray) (n : Int) (u : Nat) (w : World) (hs : s.size ≤ 9223372036854775807) (hu : u ≤ s.size) (hn : (0 ≤ n ∧ n ≤ s.size ∧ n ≤ u ∧ u ≤ n) ∨ (s.size < n ∧ s.size ≤ u)) :
    Calls Try.prog 27 #[.string s, .int .i64 n] w fun e w' => e = .returned (.tuple #[.int .i64 (feeds (s.toList.take u)), .int .i64 (after (s.toList.take u))]) ∧ w = w' := by
  rcases hn with ⟨h1, h2, h3, h4⟩ | ⟨h1, h2⟩
  all_goals
    go_enter Try.func27, Try.ntmps27
    go_wp2
    go_loop [6, 7, 8] (fun n f i => ∃ k m q : Nat, k ≤ u ∧ m ≤ k ∧ q ≤ k ∧ i = .int .i64 k ∧ n = .int .i64 m ∧ f = .int .i64 q ∧ Hid (m = feeds (s.toList.take k) ∧ q = after (s.toList.take k))) (fun _ _ i => s.size - (intOf i).toNat)
    case atStart => exact ⟨0, 0, 0, Nat.zero_le _, Nat.zero_le _, Nat.zero_le _, rfl, rfl, rfl, rfl, rfl⟩
    case round =>
      obtain ⟨k, m, q, hk, hm, hq, rfl, rfl, rfl, hr⟩ := hrel
      by_cases hlt : k < u
      · go_wp2
        · go_round
          case rel => exact ⟨k + 1, m + 1, k + 1, by omega, by omega, by omega, by go_num, by go_num, by go_num, by rw [feeds_yes s k (by omega) ‹_›, ← hr.out.1], by rw [after_yes s k (by omega) ‹_›]⟩
          case measure => simp [intOf]; omega
        · go_round
          case rel => exact ⟨k + 1, m, q, by omega, by omega, by omega, by go_num, rfl, rfl, by rw [feeds_no s k (by omega) ‹_›]; exact hr.out.1, by rw [after_no s k (by omega) ‹_›]; exact hr.out.2⟩
          case measure => simp [intOf]; omega
      · obtain rfl : k = u := by omega
        go_wp2
        go_ret2
        exact ⟨ret_two (by rw [hr.out.1]) (by rw [hr.out.2]), rfl⟩

set_option maxHeartbeats 400000 in
theorem rnumber_neg (s : ByteArray) (n : Int) (w : World) (hs : s.size ≤ 9223372036854775807) (hn : n < 0) :
    Calls Try.prog 27 #[.string s, .int .i64 n] w fun e w' => e = .returned (.tuple #[.int .i64 (feeds (s.toList.take 0)), .int .i64 (after (s.toList.take 0))]) ∧ w = w' := by
  go_enter Try.func27, Try.ntmps27
  go_wp2
  refine wp_loop_rounds 1 ?_
  rw [rounds_succ]
  go_wp2
  go_ret2
  exact ⟨rfl, rfl⟩

theorem rnumber_any (s : ByteArray) (n : Int) (w : World) (hs : s.size ≤ 9223372036854775807) :
    Calls Try.prog 27 #[.string s, .int .i64 n] w fun e w' => e = .returned (.tuple #[.int .i64 (feeds (s.toList.take (upto s n))), .int .i64 (after (s.toList.take (upto s n)))]) ∧ w = w' := by
  by_cases h : n < 0
  · rw [show upto s n = 0 from by unfold upto; omega]
    exact rnumber_neg s n w hs h
  · by_cases h' : n ≤ s.size
    · exact rnumber_core s n _ w hs (by unfold upto; omega) (.inl ⟨by omega, by omega, by unfold upto; omega, by unfold upto; omega⟩)
    · exact rnumber_core s n _ w hs (by unfold upto; omega) (.inr ⟨by omega, by unfold upto; omega⟩)

end Go.Proofs.Ytedijdllbfnapaa
