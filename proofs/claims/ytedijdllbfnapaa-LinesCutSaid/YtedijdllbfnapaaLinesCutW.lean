/-
  Layer 2 (lines): the walk of the law LinesCut.
-/
import Derived.Test.YtedijdllbfnapaaLinesQ
namespace Go.Proofs.Ytedijdllbfnapaa
open Go.RowKit
set_option linter.unusedVariables false

set_option maxHeartbeats 1000000 in
set_option maxRecDepth 100000 in
theorem linesCut_walk (w : World) (a : ByteArray) (w0 : a.size ≤ maxLen) (b : ByteArray) (w1 : b.size ≤ maxLen) :
    Calls Try.prog 6 #[.string a, .string b] w fun e w' => e = .returned (.bool true) ∧ Below w.heap.size w w' := by
  unfold maxLen at w0 w1
  by_cases h : 400 < a.size
  · go_enter Try.func6, Try.ntmps6
    go_wp2_with (go_at_call 10; refine (awake_any _).mono ?_; rintro e w1 ⟨rfl, hb⟩)
    go_ret
    exact ⟨rfl, hb⟩
  · by_cases h' : 400 < b.size
    · go_enter Try.func6, Try.ntmps6
      go_wp2_with (go_at_call 10; refine (awake_any _).mono ?_; rintro e w1 ⟨rfl, hb⟩)
      go_ret
      exact ⟨rfl, hb⟩
    · have e1 : (a ++ ⟨#[10]⟩).toList = a.toList ++ [10] := cat_toList a (B [10]) [10] (B_data _)
      have e2 : (a ++ ⟨#[10]⟩ ++ b).toList = a.toList ++ [10] ++ b.toList := by rw [cat_toList _ b _ rfl, e1]
      have E1 := Lib.hid e1; have E2 := Lib.hid e2; clear e1 e2
      have z1 : (⟨#[10]⟩ : ByteArray).size = 1 := rfl
      go_enter Try.func6, Try.ntmps6
      go_wp2_with fail
      with_reducible refine (split_any _ _ (by simp; omega)).mono ?_
      rintro e w1 ⟨v1, rfl, hown1, hb1⟩
      obtain ⟨A1, c1, rfl, hc1⟩ := own_form hown1
      go_wp2_with fail
      with_reducible refine (split_any _ _ (by simp; omega)).mono ?_
      rintro e w2 ⟨v2, rfl, hown2, hb2⟩
      obtain ⟨A2, c2, rfl, hc2⟩ := own_form hown2
      go_wp2_with fail
      with_reducible refine (split_any b _ (by omega)).mono ?_
      rintro e w3 ⟨v3, rfl, hown3, hb3⟩
      obtain ⟨A3, c3, rfl, hc3⟩ := own_form hown3
      have hl1 := own_len hown1
      have E3 := Lib.hid (split_cut a.toList b.toList)
      have E4 := Lib.hid (split_length a.toList)
      have hf := feeds_le a.toList
      rw [len_toList] at hf
      rw [E1.out] at hown2 hc2
      rw [E1.out]
      have hl2 : (split (a.toList ++ [10])).length ≤ 500 := by rw [E4.out]; omega
      have hl3 : (split b.toList).length ≤ 500 := by have := split_le b.toList; rw [len_toList] at this; omega
      have hs1 := hb1.size
      have hs2 := hb2.size
      have hs3 := hb3.size
      go_wp2_with (at_builtin; refine wpList_apps rfl _ _ 24 rfl 9 (.string ⟨#[]⟩) 1 16 Try.underlying24 Try.info9 rfl (by decide) w3 w1.heap.size _ _ _ (own_below hown2 hb3) rfl w3.heap.size A3 _ c3 _ (Rd.of_own hown3) rfl (strs_one _) ?c2 (by decide) ?c3 ?_)
      case c2 => omega
      case c3 => omega
      intro v4 w4 hown4 hg4 hb4
      rw [strs_append, ← E3.out] at hown4
      have hs4 := hb4.size
      have hB14 : Below w1.heap.size w1 w4 := (hb2.trans (hb3.mono hs2)).trans hb4
      have ho1 := own_below hown1 hB14
      have hB4 : Below w.heap.size w w4 := hb1.trans (hB14.mono hs1)
      obtain ⟨A4, c4, rfl, hc4⟩ := own_form hown4
      have hl4 := own_len hown4
      have hE : split (a ++ ⟨#[10]⟩ ++ b).toList = split (a.toList ++ [10] ++ b.toList) := by rw [E2.out]
      have HE := Lib.hid hE
      clear hE hown1 hown2 hown3 hc1 hc2 hc3 hc4 hg4 hb4 hB14
      go_wp2_with fail
      with_reducible refine (texts_yes A1 A4 _ _ c1 c4 _ _ HE.out w4 w4.heap.size (Rd.of_own ho1) (Rd.of_own hown4) hl1 hl4).mono ?_
      rintro e w5 ⟨rfl, hq⟩
      have hB5 : Below w.heap.size w w5 := by obtain ⟨q, rfl⟩ := hq; exact below_drewN hB4 q
      have hs5 := hB5.size
      clear hq ho1 hown4 hl1 hl4 hB4
      go_wp2_with fail
      with_reducible refine (split_any _ _ (by simp; omega)).mono ?_
      rintro e w6 ⟨v6, rfl, hown6, hb6⟩
      rw [E1.out] at hown6
      obtain ⟨A6, c6, rfl, hc6⟩ := own_form hown6
      have hs6 := hb6.size
      have hq6 : (((split (a.toList ++ [10])).length : Int) == (feeds a.toList : Int) + 1) = true := by rw [E4.out]; simp
      clear hown6 hc6
      go_wp2_with fail
      with_reducible refine (feeds_any a _ (by omega)).mono ?_
      rintro e w7 ⟨rfl, rfl⟩
      go_wp2_with fail
      with_reducible refine (awake_any _).mono ?_
      rintro e w8 ⟨rfl, hb8⟩
      go_wp2
      go_ret
      exact ⟨rfl, (hB5.trans (hb6.mono hs5)).trans (hb8.mono (Nat.le_trans hs5 hs6))⟩

end Go.Proofs.Ytedijdllbfnapaa
