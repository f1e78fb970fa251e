/-
  Layer 16 (files): the walk of the law FilesSplit.
-/
import Derived.Test.YtpbampchhpkpbaaDoorFilesZ
namespace Go.Proofs.YtpbampchhpkpbaaDoor
open Go.RowKit
set_option linter.unusedVariables false
attribute [local go_sem] B_data B_size

theorem base_ext (l : List UInt8) : baseE l ++ extE l = l := by
  rcases last_split 46 l with h | ⟨a, b, rfl, h⟩
  · obtain ⟨h1, h2⟩ := baseE_no l (.inl h); rw [h1, h2]; simp
  · by_cases h0 : a = []
    · obtain ⟨h1, h2⟩ := baseE_no _ (.inr (ahead_ne 46 a b h h0)); rw [h1, h2]; simp
    · obtain ⟨h1, h2⟩ := baseE_yes a b h h0; rw [h1, h2]
theorem dir_cases (l : List UInt8) : (dirL l = [] ∧ behind 47 l = l ∧ (47 : UInt8) ∉ l) ∨ dirL l ++ 47 :: behind 47 l = l := by
  rcases last_split 47 l with h | ⟨a, b, rfl, h⟩
  · left; exact ⟨ahead_miss 47 l h, behind_miss 47 l h, h⟩
  · right; rw [show dirL (a ++ 47 :: b) = a from ahead_hit 47 a b h, behind_hit 47 a b h]

set_option maxHeartbeats 1000000 in
set_option maxRecDepth 100000 in
theorem filesSplit_walk (w : World) (a : ByteArray) (w0 : a.size ≤ maxLen) (hG : Glob w) :
    Calls Tryd.prog 6 #[.string a] w fun e w' => e = .returned (.bool true) ∧ Below w.heap.size w w' := by
  unfold maxLen at w0
  by_cases h : 600 < a.size
  · go_enter Tryd.func6, Tryd.ntmps6
    go_wp2_with fail
    refine (awake_any _ hG).mono ?_
    rintro e w1 ⟨rfl, hb⟩
    go_wp2
    go_ret
    exact ⟨rfl, hb⟩
  · have C1 := Lib.hid (fsplit_any a w (by omega))
    unfold SplitRet at C1
    have HB := Lib.hid (base_ext (behind 47 a.toList))
    have HD := Lib.hid (dir_cases a.toList)
    have hbl := behind_le 47 a.toList
    have hdl : (dirL a.toList).length ≤ a.toList.length := by
      rcases dir_cases a.toList with ⟨h1, _⟩ | h1
      · rw [h1]; simp
      · have := congrArg List.length h1; simp at this; omega
    have hxl := congrArg List.length HB.out
    rw [List.length_append] at hxl
    rw [len_toList] at hbl hdl
    go_enter Tryd.func6, Tryd.ntmps6
    go_wp2_with fail
    refine C1.out.mono ?_
    rintro e w1 ⟨rfl, hb1⟩
    have C2 := rsplit_any a w1 (by omega)
    unfold SplitRet at C2
    clear C1
    generalize dirL a.toList = d at *
    generalize behind 47 a.toList = r at *
    generalize baseE r = b at *
    generalize extE r = x at *
    go_wp2_with fail
    refine C2.mono ?_
    rintro e w2 ⟨rfl, hb2'⟩
    have hb2 := hb1.trans (hb2'.mono hb1.size)
    have hG2 := hG.below hb2 (Nat.le_refl _)
    clear C2
    have t1 : (d == d) = true := by simp
    have t2 : (b == b) = true := by simp
    have t3 : (x == x) = true := by simp
    have c1 : (B d ++ ⟨#[47]⟩ ++ B b ++ B x).toList = d ++ 47 :: (b ++ x) := by
      rw [cat_toList _ _ _ (B_data x), cat_toList _ _ _ (B_data b), cat_toList (B d) ⟨#[47]⟩ [47] (B_data [47]), B_data]; simp
    have c2 : (B b ++ B x).toList = b ++ x := by rw [cat_toList _ _ _ (B_data x), B_data]
    rcases HD.out with ⟨h1, h2, h3⟩ | h1
    · have q1 : (d ++ 47 :: (b ++ x) == a.toList) = false := by
        rw [HB.out, h2, h1]; simp
      have q2 : (d == []) = true := by rw [h1]; rfl
      have q3 : (b ++ x == a.toList) = true := by rw [HB.out, h2]; simp
      rw [← c1] at q1
      rw [← c2] at q3
      clear h1 h2 h3 HD HB c1 c2
      go_wp2_with fail
      refine (awake_any _ hG2).mono ?_
      rintro e w3 ⟨rfl, hb3⟩
      go_wp2
      go_ret
      exact ⟨rfl, hb2.trans (hb3.mono hb2.size)⟩
    · have q1 : (d ++ 47 :: (b ++ x) == a.toList) = true := by
        rw [HB.out, h1]; simp
      rw [← c1] at q1
      clear h1 HD HB c1 c2
      go_wp2_with fail
      refine (awake_any _ hG2).mono ?_
      rintro e w3 ⟨rfl, hb3⟩
      go_wp2
      go_ret
      exact ⟨rfl, hb2.trans (hb3.mono hb2.size)⟩

end Go.Proofs.YtpbampchhpkpbaaDoor
