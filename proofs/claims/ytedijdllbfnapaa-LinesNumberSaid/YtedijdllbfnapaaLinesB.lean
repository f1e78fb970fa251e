/-
  Layer 2 (lines): texts, Split, Join, light.
-/
import Derived.Test.YtedijdllbfnapaaLinesA
import Derived.Test.YtedijdllbfnapaaBuilder
namespace Go.Proofs.Ytedijdllbfnapaa
open Go.RowKit
set_option linter.unusedVariables false

theorem list_ext_getD {xs ys : List (List UInt8)} (hl : xs.length = ys.length) (h : ∀ j, j < xs.length → xs[j]?.getD [] = ys[j]?.getD []) : xs = ys := by
  apply List.ext_getElem hl
  intro i h1 h2
  have := h i h1
  simpa [h1, h2] using this

theorem ne_of_getD {xs ys : List (List UInt8)} (j : Nat) (h : xs[j]?.getD [] ≠ ys[j]?.getD []) : xs ≠ ys := fun e => h (by rw [e])

theorem ret_eq_true {xs ys : List (List UInt8)} (h : xs = ys) : Ending.returned (.bool true) = .returned (.bool (xs == ys)) := by simp [h]
theorem ret_eq_false {xs ys : List (List UInt8)} (h : xs ≠ ys) : Ending.returned (.bool false) = .returned (.bool (xs == ys)) := by simp [h]

set_option maxHeartbeats 400000 in
theorem texts_any (A A' : Option Addr) (n n' c c' : Nat) (xs ys : List (List UInt8)) (w : World) (M : Nat) (hx : Rd w M 1 A n (strs xs)) (hy : Rd w M 1 A' n' (strs ys)) (hn : n ≤ 9223372036854775807) (hn' : n' ≤ 9223372036854775807) :
    Calls Try.prog 11 #[.slice A n c, .slice A' n' c'] w fun e w' => e = .returned (.bool (xs == ys)) ∧ ∃ q, w' = w.drewN q := by
  have lx := hx.strs_length
  have ly := hy.strs_length
  by_cases he : n = n'
  · subst he
    have HL := Lib.hid (And.intro lx ly); clear lx ly
    have hne : ((n : Int) != (n : Int)) = false := by simp
    go_enter Try.func11, Try.ntmps11
    go_wp2
    go_loopw [5] (fun i wr => ∃ k q : Nat, k ≤ n ∧ i = .int .i64 k ∧ wr = w.drewN q ∧ Hid (∀ j, j < k → xs[j]?.getD [] = ys[j]?.getD [])) (fun i _ => n - (intOf i).toNat)
    case atStart => exact ⟨0, 0, Nat.zero_le _, rfl, rfl, fun j h => absurd h (by omega)⟩
    case round =>
      obtain ⟨k, q, hk, rfl, rfl, hr⟩ := hrel
      by_cases hlt : k < n
      · obtain ⟨ad, rfl, ha⟩ := hx.str hlt
        obtain ⟨ad', rfl, ha'⟩ := hy.str hlt
        go_wp2
        go_quiet (fail)
        go_wp2
        · have hd : (!(B (xs[k]?.getD [])).toList == (B (ys[k]?.getD [])).toList) = true := by assumption
          go_ret
          exact ⟨ret_eq_false (ne_of_getD k (by rw [B_data, B_data] at hd; simpa using hd)), _, World.drewN_drewN ..⟩
        · have hd : (!(B (xs[k]?.getD [])).toList == (B (ys[k]?.getD [])).toList) = false := by assumption
          go_roundw
          case rel =>
            refine ⟨k + 1, _, by omega, by go_num, rfl, fun j hj => ?_⟩
            by_cases e : j = k
            · subst e; rw [B_data, B_data] at hd; simpa using hd
            · exact hr.out j (by omega)
          case measure => simp [intOf]; omega
      · go_wp2
        go_ret
        exact ⟨ret_eq_true (list_ext_getD (by rw [HL.out.1, HL.out.2]) (fun j hj => hr.out j (by have := HL.out.1; omega))), _, rfl⟩
  · have hne : ((n : Int) != (n' : Int)) = true := by simp; omega
    go_enter Try.func11, Try.ntmps11
    go_wp2
    go_ret
    exact ⟨ret_eq_false (fun e => he (by rw [← lx, ← ly, e])), 0, rfl⟩

/-- the lines of a string of which cur has been read since the last line feed -/
def splitGo (cur : List UInt8) : List UInt8 → List (List UInt8)
  | [] => if cur = [] then [] else [cur]
  | c :: r => if c = 10 then cur :: splitGo [] r else splitGo (cur ++ [c]) r
def split (l : List UInt8) : List (List UInt8) := splitGo [] l

theorem split_yes (s : ByteArray) (f k : Nat) (done : List (List UInt8)) (hf : f ≤ k) (h : k < s.size) (hc : ((s[k].toNat : Int) == 10) = true)
    (hr : split s.toList = done ++ splitGo ((s.toList.take k).drop f) (s.toList.drop k)) :
    split s.toList = (done ++ [(s.toList.take k).drop f]) ++ splitGo ((s.toList.take (k+1)).drop (k+1)) (s.toList.drop (k+1)) := by
  rw [hr, drop_byte s k h, splitGo, if_pos (byte_is (d := 10) hc), List.drop_of_length_le (l := s.toList.take (k + 1)) (i := k + 1) (by rw [List.length_take, len_toList]; omega)]
  simp
theorem split_no (s : ByteArray) (f k : Nat) (done : List (List UInt8)) (hf : f ≤ k) (h : k < s.size) (hc : ((s[k].toNat : Int) == 10) = false)
    (hr : split s.toList = done ++ splitGo ((s.toList.take k).drop f) (s.toList.drop k)) :
    split s.toList = done ++ splitGo ((s.toList.take (k+1)).drop f) (s.toList.drop (k+1)) := by
  rw [hr, drop_byte s k h, splitGo, if_neg (byte_ne (d := 10) hc), take_byte s k h, List.drop_append_of_le_length (by rw [List.length_take, len_toList]; omega)]
theorem split_last (s : ByteArray) (f : Nat) (done : List (List UInt8)) (hf : f < s.size)
    (hr : split s.toList = done ++ splitGo ((s.toList.take s.size).drop f) (s.toList.drop s.size)) : split s.toList = done ++ [s.toList.drop f] := by
  rw [List.take_of_length_le (by rw [len_toList]; omega), List.drop_of_length_le (l := s.toList) (i := s.size) (by rw [len_toList]; omega), splitGo, if_neg] at hr
  · exact hr
  · intro e
    have := congrArg List.length e
    rw [List.length_drop, len_toList] at this
    simp at this; omega
theorem split_none (s : ByteArray) (f : Nat) (done : List (List UInt8)) (hf : s.size ≤ f)
    (hr : split s.toList = done ++ splitGo ((s.toList.take s.size).drop f) (s.toList.drop s.size)) : split s.toList = done := by
  rw [List.drop_of_length_le (l := s.toList) (i := s.size) (by rw [len_toList]; omega), splitGo, if_pos] at hr
  · rw [hr, List.append_nil]
  · exact List.drop_of_length_le (by rw [List.length_take, len_toList]; omega)

set_option maxHeartbeats 400000 in
theorem split_any (s : ByteArray) (w : World) (hs : s.size ≤ 1099511627775) :
    Calls Try.prog 12 #[.string s] w fun e w' => ∃ v, e = .returned v ∧ w'.ownsRow w.heap.size 9 1 v (split s.toList).length (strs (split s.toList)) ∧ Below w.heap.size w w' := by
  go_enter Try.func12, Try.ntmps12
  go_wp2
  go_loopw [3, 4, 8] (fun v f i wr => ∃ (k q : Nat) (done : List (List UInt8)), k ≤ s.size ∧ q ≤ k ∧ done.length ≤ k ∧ i = .int .i64 k ∧ f = .int .i64 q ∧ wr.ownsRow w.heap.size 9 1 v done.length (strs done) ∧ Below w.heap.size w wr ∧
      Hid (split s.toList = done ++ splitGo ((s.toList.take k).drop q) (s.toList.drop k))) (fun _ _ i _ => s.size - (intOf i).toNat)
  case atStart => exact ⟨0, 0, [], Nat.zero_le _, Nat.zero_le _, Nat.zero_le _, rfl, rfl, World.ownsRow_nil .., Below.refl _ _, rfl⟩
  case round =>
    obtain ⟨k, q, done, hk, hq, hd, rfl, rfl, hown, hb, hr⟩ := hrel
    by_cases hlt : k < s.size
    · by_cases hc : ((s[k].toNat : Int) == 10) = true
      · have HC := Lib.hid hc
        go_wp2_with (at_builtin; refine wpList_app rfl _ _ 24 rfl 9 (.string ⟨#[]⟩) 1 16 Try.underlying24 Try.info9 rfl (by decide) wr [.string (s.extract q k)] rfl ?c1 w.heap.size _ _ _ hown rfl rfl ?c2 (by decide) hb.size ?_)
        case c1 => intro u hu; simp at hu; subst hu; rfl
        case c2 => omega
        intro v' w1 hown1 hg1 hb1
        rw [B_extract, strs_snoc] at hown1
        go_wp2
        go_roundw
        case rel => exact ⟨k + 1, k + 1, done ++ [(s.toList.take k).drop q], by omega, by omega, by simp; omega, by go_num, by go_num, by simpa using hown1, hb.trans hb1, split_yes s q k done hq hlt HC.out hr.out⟩
        case measure => simp [intOf]; omega
      · have hc : ((s[k].toNat : Int) == 10) = false := by simpa using hc
        have HC := Lib.hid hc
        go_wp2
        go_roundw
        case rel => exact ⟨k + 1, q, done, by omega, by omega, by omega, by go_num, rfl, hown, hb, split_no s q k done hq hlt HC.out hr.out⟩
        case measure => simp [intOf]; omega
    · have hke : k = s.size := by omega
      have HR : Hid (split s.toList = done ++ splitGo ((s.toList.take s.size).drop q) (s.toList.drop s.size)) := by rw [hke] at hr; exact hr
      clear hke hr
      by_cases hf : q < s.size
      · go_wp2_with (at_builtin; refine wpList_app rfl _ _ 24 rfl 9 (.string ⟨#[]⟩) 1 16 Try.underlying24 Try.info9 rfl (by decide) wr [.string (s.extract q s.size)] rfl ?c1 w.heap.size _ _ _ hown rfl rfl ?c2 (by decide) hb.size ?_)
        case c1 => intro u hu; simp at hu; subst hu; rfl
        case c2 => omega
        intro v' w1 hown1 hg1 hb1
        rw [B_drop, strs_snoc] at hown1
        go_wp2
        go_ret
        exact ⟨_, rfl, by rw [split_last s q done hf HR.out]; simpa using hown1, hb.trans hb1⟩
      · go_wp2
        go_ret
        exact ⟨_, rfl, by rw [split_none s q done (by omega) HR.out]; exact hown, hb⟩


set_option maxHeartbeats 400000 in
theorem rsplit_any (s : ByteArray) (w : World) (hs : s.size ≤ 1099511627775) :
    Calls Try.prog 13 #[.string s] w fun e w' => ∃ v, e = .returned v ∧ w'.ownsRow w.heap.size 9 1 v (split s.toList).length (strs (split s.toList)) ∧ Below w.heap.size w w' := by
  go_enter Try.func13, Try.ntmps13
  go_wp2
  go_loopw [3, 4, 5] (fun v f i wr => ∃ (k q : Nat) (done : List (List UInt8)), k ≤ s.size ∧ q ≤ k ∧ done.length ≤ k ∧ i = .int .i64 k ∧ f = .int .i64 q ∧ wr.ownsRow w.heap.size 9 1 v done.length (strs done) ∧ Below w.heap.size w wr ∧
      Hid (split s.toList = done ++ splitGo ((s.toList.take k).drop q) (s.toList.drop k))) (fun _ _ i _ => s.size - (intOf i).toNat)
  case atStart => exact ⟨0, 0, [], Nat.zero_le _, Nat.zero_le _, Nat.zero_le _, rfl, rfl, World.ownsRow_nil .., Below.refl _ _, rfl⟩
  case round =>
    obtain ⟨k, q, done, hk, hq, hd, rfl, rfl, hown, hb, hr⟩ := hrel
    by_cases hlt : k < s.size
    · by_cases hc : ((s[k].toNat : Int) == 10) = true
      · have HC := Lib.hid hc
        go_wp2_with (at_builtin; refine wpList_app rfl _ _ 24 rfl 9 (.string ⟨#[]⟩) 1 16 Try.underlying24 Try.info9 rfl (by decide) wr [.string (s.extract q k)] rfl ?c1 w.heap.size _ _ _ hown rfl rfl ?c2 (by decide) hb.size ?_)
        case c1 => intro u hu; simp at hu; subst hu; rfl
        case c2 => omega
        intro v' w1 hown1 hg1 hb1
        rw [B_extract, strs_snoc] at hown1
        go_wp2
        go_roundw
        case rel => exact ⟨k + 1, k + 1, done ++ [(s.toList.take k).drop q], by omega, by omega, by simp; omega, by go_num, by go_num, by simpa using hown1, hb.trans hb1, split_yes s q k done hq hlt HC.out hr.out⟩
        case measure => simp [intOf]; omega
      · have hc : ((s[k].toNat : Int) == 10) = false := by simpa using hc
        have HC := Lib.hid hc
        go_wp2
        go_roundw
        case rel => exact ⟨k + 1, q, done, by omega, by omega, by omega, by go_num, rfl, hown, hb, split_no s q k done hq hlt HC.out hr.out⟩
        case measure => simp [intOf]; omega
    · have hke : k = s.size := by omega
      have HR : Hid (split s.toList = done ++ splitGo ((s.toList.take s.size).drop q) (s.toList.drop s.size)) := by rw [hke] at hr; exact hr
      clear hke hr
      by_cases hf : q < s.size
      · go_wp2_with (at_builtin; refine wpList_app rfl _ _ 24 rfl 9 (.string ⟨#[]⟩) 1 16 Try.underlying24 Try.info9 rfl (by decide) wr [.string (s.extract q s.size)] rfl ?c1 w.heap.size _ _ _ hown rfl rfl ?c2 (by decide) hb.size ?_)
        case c1 => intro u hu; simp at hu; subst hu; rfl
        case c2 => omega
        intro v' w1 hown1 hg1 hb1
        rw [B_drop, strs_snoc] at hown1
        go_wp2
        go_ret
        exact ⟨_, rfl, by rw [split_last s q done hf HR.out]; simpa using hown1, hb.trans hb1⟩
      · go_wp2
        go_ret
        exact ⟨_, rfl, by rw [split_none s q done (by omega) HR.out]; exact hown, hb⟩


def joinS (ls : List (List UInt8)) : List UInt8 := ls.flatMap (· ++ [10])
theorem joinS_snoc (ls : List (List UInt8)) (l : List UInt8) : joinS (ls ++ [l]) = joinS ls ++ l ++ [10] := by simp [joinS]
theorem take_getD (ls : List (List UInt8)) (k : Nat) (h : k < ls.length) : ls.take (k + 1) = ls.take k ++ [ls[k]?.getD []] := by
  rw [List.take_succ_eq_append_getElem h]; simp [h]
theorem joinS_step (ls : List (List UInt8)) (k : Nat) (h : k < ls.length) : joinS (ls.take (k + 1)) = joinS (ls.take k) ++ ls[k]?.getD [] ++ [10] := by
  rw [take_getD ls k h, joinS_snoc]
theorem joinS_le (ls : List (List UInt8)) (k : Nat) : (joinS (ls.take k)).length ≤ (joinS ls).length := by
  conv => rhs; rw [← List.take_append_drop k ls]
  simp only [joinS, List.flatMap_append, List.length_append]; omega
theorem joinS_room (ls : List (List UInt8)) (k : Nat) (h : k < ls.length) : (joinS (ls.take k)).length + (ls[k]?.getD []).length + 1 ≤ (joinS ls).length := by
  have := joinS_le ls (k + 1)
  rw [joinS_step ls k h] at this
  simpa [Nat.add_assoc] using this

set_option maxHeartbeats 400000 in
theorem join_any (A : Option Addr) (n c : Nat) (ls : List (List UInt8)) (w : World) (hx : Rd w w.heap.size 1 A n (strs ls)) (hn : n ≤ 9223372036854775807) (hsz : (joinS ls).length ≤ 140737488355328) :
    Calls Try.prog 15 #[.slice A n c] w fun e w' => e = .returned (.string (B (joinS ls))) ∧ Below w.heap.size w w' := by
  have lx := hx.strs_length
  have HL := Lib.hid lx; clear lx
  go_enter Try.func15, Try.ntmps15
  go_wp2
  go_loopw [8] (fun i wr => ∃ k : Nat, k ≤ n ∧ i = .int .i64 k ∧ Bd wr w.heap.size (joinS (ls.take k)) ∧ Below w.heap.size w wr) (fun i _ => n - (intOf i).toNat)
  case atStart => exact ⟨0, Nat.zero_le _, rfl, Bd.new w, (Below.refl _ _).alloc (Nat.le_refl _) _⟩
  case round =>
    obtain ⟨k, hk, rfl, hbd, hbw⟩ := hrel
    by_cases hlt : k < n
    · obtain ⟨ad, rfl, ha⟩ := (hx.below hbw).str hlt
      have hroom := joinS_room ls k (by rw [HL.out]; exact hlt)
      go_wp2_with (go_at_call 28; refine (writeString_any w.heap.size (joinS (ls.take k)) _ _ hbd ?c1).mono ?_)
      case c1 => rw [B_size]; omega
      rintro e w1 ⟨rfl, hbd1, hk1⟩
      rw [B_data] at hbd1
      go_wp2_with (go_at_call 29; refine (writeByte_any w.heap.size (joinS (ls.take k) ++ ls[k]?.getD []) 10 _ hbd1 ?c1).mono ?_)
      case c1 => rw [List.length_append]; omega
      rintro e w2 ⟨rfl, hbd2, hk2⟩
      go_wp2
      go_roundw
      case rel => exact ⟨k + 1, by omega, by go_num, by rw [joinS_step ls k (by rw [HL.out]; exact hlt)]; exact hbd2, (hbw.trans hk1.1).trans hk2.1⟩
      case measure => simp [intOf]; omega
    · go_wp2_with (go_at_call 30; refine (string_any w.heap.size (joinS (ls.take k)) _ hbd).mono ?_)
      rintro e w1 ⟨rfl, hbd1, hk1⟩
      go_wp2
      go_ret
      exact ⟨ret_str (by rw [List.take_of_length_le (by rw [HL.out]; omega)]), hbw.trans hk1.1⟩

theorem B_app (a b : List UInt8) : B (a ++ b) = B a ++ B b := by
  apply ByteArray.ext; simp [B]

set_option maxHeartbeats 400000 in
theorem rjoin_any (A : Option Addr) (n c : Nat) (ls : List (List UInt8)) (w : World) (hx : Rd w w.heap.size 1 A n (strs ls)) (hn : n ≤ 9223372036854775807) (hsz : (joinS ls).length ≤ 140737488355328) :
    Calls Try.prog 16 #[.slice A n c] w fun e w' => e = .returned (.string (B (joinS ls))) ∧ Below w.heap.size w w' := by
  have lx := hx.strs_length
  have HL := Lib.hid lx; clear lx
  go_enter Try.func16, Try.ntmps16
  go_wp2
  go_loopw [3, 4] (fun s i wr => ∃ k : Nat, k ≤ n ∧ i = .int .i64 k ∧ s = .string (B (joinS (ls.take k))) ∧ Below w.heap.size w wr) (fun _ i _ => n - (intOf i).toNat)
  case atStart => exact ⟨0, Nat.zero_le _, rfl, rfl, Below.refl _ _⟩
  case round =>
    obtain ⟨k, hk, rfl, rfl, hbw⟩ := hrel
    by_cases hlt : k < n
    · obtain ⟨ad, rfl, ha⟩ := (hx.below hbw).str hlt
      have hroom := joinS_room ls k (by rw [HL.out]; exact hlt)
      rw [← B_size, ← B_size] at hroom
      go_wp2
      go_roundw
      case rel => exact ⟨k + 1, by omega, by go_num, by rw [joinS_step ls k (by rw [HL.out]; exact hlt), B_app, B_app]; rfl, hbw⟩
      case measure => simp [intOf]; omega
    · go_wp2
      go_ret
      exact ⟨ret_str (by rw [List.take_of_length_le (by rw [HL.out]; omega)]), hbw⟩


end Go.Proofs.Ytedijdllbfnapaa
