/-
  Layer 2 (lines): texts, Split, Join, light.
-/
import Derived.Test.YtmkenekngaihhaaGreatDoorLinesA
import Derived.Test.YtmkenekngaihhaaGreatDoorBuilder
namespace Go.Proofs.YtmkenekngaihhaaGreatDoor
open Go.RowKit
set_option linter.unusedVariables false

/-- the lines of a string of which cur has been read since the last line feed -/
def splitGo (cur : List UInt8) : List UInt8 → List (List UInt8)
  | [] => if cur = [] then [] else [cur]
  | c :: r => if c = 10 then cur :: splitGo [] r else splitGo (cur ++ [c]) r
def split (l : List UInt8) : List (List UInt8) := splitGo [] l

theorem split_yes (s : ByteArray) (f k : Nat) (done : List (List UInt8)) (hf : f ≤ k) (h : k < s.size) (hc : ((s[k].toNat : Int) == 10) = true)
    (hr : split s.toList = done ++ splitGo ((s.toList.take k).drop f) (s.toList.drop k)) :
    split s.toList = (done ++ [(s.toList.take k).drop f]) ++ splitGo ((s.toList.take (k+1)).drop (k+1)) (s.toList.drop (k+1)) := by
  rw [hr, drop_byte s k h, splitGo, if_pos (byte_is (d := 10) hc), List.drop_of_length_le (l := s.toList.take (k + 1)) (i := k + 1) (by rw [List.length_take, len_toList]; omega)]
  simp
theorem split_no (s : ByteArray) (f k : Nat) (done : List (List UInt8)) (hf : f ≤ k) (h : k < s.size) (hc : ((s[k].toNat : Int) == 10) = false)
    (hr : split s.toList = done ++ splitGo ((s.toList.take k).drop f) (s.toList.drop k)) :
    split s.toList = done ++ splitGo ((s.toList.take (k+1)).drop f) (s.toList.drop (k+1)) := by
  rw [hr, drop_byte s k h, splitGo, if_neg (byte_ne (d := 10) hc), take_byte s k h, List.drop_append_of_le_length (by rw [List.length_take, len_toList]; omega)]
theorem split_last (s : ByteArray) (f : Nat) (done : List (List UInt8)) (hf : f < s.size)
    (hr : split s.toList = done ++ splitGo ((s.toList.take s.size).drop f) (s.toList.drop s.size)) : split s.toList = done ++ [s.toList.drop f] := by
  rw [List.take_of_length_le (by rw [len_toList]; omega), List.drop_of_length_le (l := s.toList) (i := s.size) (by rw [len_toList]; omega), splitGo, if_neg] at hr
  · exact hr
  · intro e
    have := congrArg List.length e
    rw [List.length_drop, len_toList] at this
    simp at this; omega
theorem split_none (s : ByteArray) (f : Nat) (done : List (List UInt8)) (hf : s.size ≤ f)
    (hr : split s.toList = done ++ splitGo ((s.toList.take s.size).drop f) (s.toList.drop s.size)) : split s.toList = done := by
  rw [List.drop_of_length_le (l := s.toList) (i := s.size) (by rw [len_toList]; omega), splitGo, if_pos] at hr
  · rw [hr, List.append_nil]
  · exact List.drop_of_length_le (by rw [List.length_take, len_toList]; omega)

set_option maxHeartbeats 400000 in
theorem split_any (s : ByteArray) (w : World) (hs : s.size ≤ 1099511627775) :
    Calls Tryz.prog 35 #[.string s] w fun e w' => ∃ v, e = .returned v ∧ w'.ownsRow w.heap.size 9 1 v (split s.toList).length (strs (split s.toList)) ∧ Below w.heap.size w w' := by
  go_enter Tryz.func35, Tryz.ntmps35
  go_wp2
  go_loopw [3, 4, 8] (fun v f i wr => ∃ (k q : Nat) (done : List (List UInt8)), k ≤ s.size ∧ q ≤ k ∧ done.length ≤ k ∧ i = .int .i64 k ∧ f = .int .i64 q ∧ wr.ownsRow w.heap.size 9 1 v done.length (strs done) ∧ Below w.heap.size w wr ∧
      Hid (split s.toList = done ++ splitGo ((s.toList.take k).drop q) (s.toList.drop k))) (fun _ _ i _ => s.size - (intOf i).toNat)
  case atStart => exact ⟨0, 0, [], Nat.zero_le _, Nat.zero_le _, Nat.zero_le _, rfl, rfl, World.ownsRow_nil .., Below.refl _ _, rfl⟩
  case round =>
    obtain ⟨k, q, done, hk, hq, hd, rfl, rfl, hown, hb, hr⟩ := hrel
    by_cases hlt : k < s.size
    · by_cases hc : ((s[k].toNat : Int) == 10) = true
      · have HC := Lib.hid hc
        go_wp2_with (at_builtin; refine wpList_app rfl _ _ 23 rfl 9 (.string ⟨#[]⟩) 1 16 Tryz.underlying23 Tryz.info9 rfl (by decide) wr [.string (s.extract q k)] rfl ?c1 w.heap.size _ _ _ hown rfl rfl ?c2 (by decide) hb.size ?_)
        case c1 => intro u hu; simp at hu; subst hu; rfl
        case c2 => omega
        intro v' w1 hown1 hg1 hb1
        rw [B_extract, strs_snoc] at hown1
        go_wp2
        go_roundw
        case rel => exact ⟨k + 1, k + 1, done ++ [(s.toList.take k).drop q], by omega, by omega, by simp; omega, by go_num, by go_num, by simpa using hown1, hb.trans hb1, split_yes s q k done hq hlt HC.out hr.out⟩
        case measure => simp [intOf]; omega
      · have hc : ((s[k].toNat : Int) == 10) = false := by simpa using hc
        have HC := Lib.hid hc
        go_wp2
        go_roundw
        case rel => exact ⟨k + 1, q, done, by omega, by omega, by omega, by go_num, rfl, hown, hb, split_no s q k done hq hlt HC.out hr.out⟩
        case measure => simp [intOf]; omega
    · have hke : k = s.size := by omega
      have HR : Hid (split s.toList = done ++ splitGo ((s.toList.take s.size).drop q) (s.toList.drop s.size)) := by rw [hke] at hr; exact hr
      clear hke hr
      by_cases hf : q < s.size
      · go_wp2_with (at_builtin; refine wpList_app rfl _ _ 23 rfl 9 (.string ⟨#[]⟩) 1 16 Tryz.underlying23 Tryz.info9 rfl (by decide) wr [.string (s.extract q s.size)] rfl ?c1 w.heap.size _ _ _ hown rfl rfl ?c2 (by decide) hb.size ?_)
        case c1 => intro u hu; simp at hu; subst hu; rfl
        case c2 => omega
        intro v' w1 hown1 hg1 hb1
        rw [B_drop, strs_snoc] at hown1
        go_wp2
        go_ret
        exact ⟨_, rfl, by rw [split_last s q done hf HR.out]; simpa using hown1, hb.trans hb1⟩
      · go_wp2
        go_ret
        exact ⟨_, rfl, by rw [split_none s q done (by omega) HR.out]; exact hown, hb⟩


set_option maxHeartbeats 400000 in
theorem rsplit_any (s : ByteArray) (w : World) (hs : s.size ≤ 1099511627775) :
    Calls Tryz.prog 39 #[.string s] w fun e w' => ∃ v, e = .returned v ∧ w'.ownsRow w.heap.size 9 1 v (split s.toList).length (strs (split s.toList)) ∧ Below w.heap.size w w' := by
  go_enter Tryz.func39, Tryz.ntmps39
  go_wp2
  go_loopw [3, 4, 5] (fun v f i wr => ∃ (k q : Nat) (done : List (List UInt8)), k ≤ s.size ∧ q ≤ k ∧ done.length ≤ k ∧ i = .int .i64 k ∧ f = .int .i64 q ∧ wr.ownsRow w.heap.size 9 1 v done.length (strs done) ∧ Below w.heap.size w wr ∧
      Hid (split s.toList = done ++ splitGo ((s.toList.take k).drop q) (s.toList.drop k))) (fun _ _ i _ => s.size - (intOf i).toNat)
  case atStart => exact ⟨0, 0, [], Nat.zero_le _, Nat.zero_le _, Nat.zero_le _, rfl, rfl, World.ownsRow_nil .., Below.refl _ _, rfl⟩
  case round =>
    obtain ⟨k, q, done, hk, hq, hd, rfl, rfl, hown, hb, hr⟩ := hrel
    by_cases hlt : k < s.size
    · by_cases hc : ((s[k].toNat : Int) == 10) = true
      · have HC := Lib.hid hc
        go_wp2_with (at_builtin; refine wpList_app rfl _ _ 23 rfl 9 (.string ⟨#[]⟩) 1 16 Tryz.underlying23 Tryz.info9 rfl (by decide) wr [.string (s.extract q k)] rfl ?c1 w.heap.size _ _ _ hown rfl rfl ?c2 (by decide) hb.size ?_)
        case c1 => intro u hu; simp at hu; subst hu; rfl
        case c2 => omega
        intro v' w1 hown1 hg1 hb1
        rw [B_extract, strs_snoc] at hown1
        go_wp2
        go_roundw
        case rel => exact ⟨k + 1, k + 1, done ++ [(s.toList.take k).drop q], by omega, by omega, by simp; omega, by go_num, by go_num, by simpa using hown1, hb.trans hb1, split_yes s q k done hq hlt HC.out hr.out⟩
        case measure => simp [intOf]; omega
      · have hc : ((s[k].toNat : Int) == 10) = false := by simpa using hc
        have HC := Lib.hid hc
        go_wp2
        go_roundw
        case rel => exact ⟨k + 1, q, done, by omega, by omega, by omega, by go_num, rfl, hown, hb, split_no s q k done hq hlt HC.out hr.out⟩
        case measure => simp [intOf]; omega
    · have hke : k = s.size := by omega
      have HR : Hid (split s.toList = done ++ splitGo ((s.toList.take s.size).drop q) (s.toList.drop s.size)) := by rw [hke] at hr; exact hr
      clear hke hr
      by_cases hf : q < s.size
      · go_wp2_with (at_builtin; refine wpList_app rfl _ _ 23 rfl 9 (.string ⟨#[]⟩) 1 16 Tryz.underlying23 Tryz.info9 rfl (by decide) wr [.string (s.extract q s.size)] rfl ?c1 w.heap.size _ _ _ hown rfl rfl ?c2 (by decide) hb.size ?_)
        case c1 => intro u hu; simp at hu; subst hu; rfl
        case c2 => omega
        intro v' w1 hown1 hg1 hb1
        rw [B_drop, strs_snoc] at hown1
        go_wp2
        go_ret
        exact ⟨_, rfl, by rw [split_last s q done hf HR.out]; simpa using hown1, hb.trans hb1⟩
      · go_wp2
        go_ret
        exact ⟨_, rfl, by rw [split_none s q done (by omega) HR.out]; exact hown, hb⟩


def joinS (ls : List (List UInt8)) : List UInt8 := ls.flatMap (· ++ [10])
end Go.Proofs.YtmkenekngaihhaaGreatDoor
