/-
  Layer 16 (files): Split, and the reference's names, Relative and Split.
-/
import Derived.Test.YtpbampchhpkpbaaDoorFilesQ
namespace Go.Proofs.YtpbampchhpkpbaaDoor
set_option linter.unusedSimpArgs false
open Go.RowKit
set_option linter.unusedVariables false
attribute [local go_sem] B_data B_size

theorem quiet_left {P : Program} {f : FuncId} {args : Array Value} {w : World} {n : Nat} {v : Value}
    (h : Calls P f args (w.drewN n) fun e w' => e = .returned v ∧ w.drewN n = w') : Calls P f args (w.drewN n) fun e w'' => e = .returned v ∧ ∃ m, w'' = w.drewN m :=
  h.mono fun _ _ ⟨he, hm⟩ => ⟨he, n, hm.symm⟩

/-- the base and the extension of what is behind the last slash -/
def baseE (b : List UInt8) : List UInt8 := if (46 : UInt8) ∈ b ∧ ahead 46 b ≠ [] then ahead 46 b else b
def extE (b : List UInt8) : List UInt8 := if (46 : UInt8) ∈ b ∧ ahead 46 b ≠ [] then 46 :: behind 46 b else []
def SplitRet (l : List UInt8) : Ending := .returned (.tuple #[.string (B (dirL l)), .string (B (baseE (behind 47 l))), .string (B (extE (behind 47 l)))])
theorem ret_three {a b c d e f : ByteArray} (h1 : a = b) (h2 : c = d) (h3 : e = f) : Ending.returned (.tuple #[.string a, .string c, .string e]) = .returned (.tuple #[.string b, .string d, .string f]) := by rw [h1, h2, h3]
theorem baseE_no (b : List UInt8) (h : (46 : UInt8) ∉ b ∨ ahead 46 b = []) : baseE b = b ∧ extE b = [] := by
  unfold baseE extE
  rw [if_neg (by rcases h with h | h <;> simp [h]), if_neg (by rcases h with h | h <;> simp [h])]
  exact ⟨rfl, rfl⟩
theorem baseE_yes (a c : List UInt8) (h : (46 : UInt8) ∉ c) (h0 : a ≠ []) : baseE (a ++ 46 :: c) = a ∧ extE (a ++ 46 :: c) = 46 :: c := by
  unfold baseE extE
  rw [ahead_hit 46 a c h, behind_hit 46 a c h, if_pos ⟨by simp, h0⟩, if_pos ⟨by simp, h0⟩]
  exact ⟨rfl, rfl⟩
theorem ahead_ne (c : UInt8) (a b : List UInt8) (h : c ∉ b) (h0 : a = []) : ahead c (a ++ c :: b) = [] := by rw [ahead_hit c a b h]; exact h0

theorem tail_take (s : ByteArray) (i : Nat) (h : i < s.size) : (s.extract (i + 1) s.size) = B (s.toList.drop (i + 1)) := B_drop s (i + 1)

/-- the second half of Split, once the base is known -/
theorem ext_cases (t : ByteArray) : (∃ i : Int, Lib.lastIndexByte t ((46 : UInt8).toNat : Int) = i ∧ i ≤ 0 ∧ baseE t.toList = t.toList ∧ extE t.toList = []) ∨
    (∃ i : Nat, 0 < i ∧ i < t.size ∧ Lib.lastIndexByte t ((46 : UInt8).toNat : Int) = i ∧ baseE t.toList = t.toList.take i ∧ extE t.toList = t.toList.drop i) := by
  rcases last_cases t 46 with ⟨h1, h2⟩ | ⟨i, hi, h1, h2, h3⟩
  · left; exact ⟨-1, h1, by omega, baseE_no _ (.inl h2)⟩
  · rcases Nat.eq_zero_or_pos i with h0 | h0
    · left
      refine ⟨0, by rw [h1, h0]; rfl, by omega, baseE_no _ (.inr ?_)⟩
      rw [h2]; exact ahead_ne 46 _ _ h3 (by rw [h0]; rfl)
    · right
      have hne : t.toList.take i ≠ [] := by
        intro e
        have := congrArg List.length e
        rw [List.length_take, len_toList, List.length_nil] at this; omega
      have := baseE_yes (t.toList.take i) (t.toList.drop (i + 1)) h3 hne
      rw [← h2] at this
      refine ⟨i, h0, hi, h1, this.1, ?_⟩
      rw [this.2]
      have hd := drop_byte t i hi
      have e46 : t[i] = 46 := by
        have e6 := toList_at t i hi
        rw [h2, List.getElem?_append_right (by rw [List.length_take]; omega), List.length_take, len_toList, Nat.min_eq_left (by omega)] at e6
        simp at e6
        exact e6.symm
      rw [hd, e46]

set_option maxHeartbeats 1000000 in
theorem fsplit_any (s : ByteArray) (w : World) (hs : s.size ≤ 1000000) :
    Calls Tryd.prog 17 #[.string s] w fun e w' => e = SplitRet s.toList ∧ Below w.heap.size w w' := by
  unfold SplitRet
  rcases last_cases s 47 with ⟨h1, h2⟩ | ⟨i, hi, h1, h2, h3⟩
  · have HD : Hid (dirL s.toList = [] ∧ behind 47 s.toList = s.toList) := ⟨ahead_miss 47 _ h2, behind_miss 47 _ h2⟩
    have C := Tryd.strings_LastIndexByte s 47 (by omega)
    rw [show (47 : Int) = ((47 : UInt8).toNat : Int) from rfl, h1] at C
    have HC := Lib.hid C
    clear C h1 h2
    rcases ext_cases s with ⟨k, k1, k2, k3⟩ | ⟨k, k0, k1, k2, k3⟩
    · have C2 := Tryd.strings_LastIndexByte s 46 (by omega)
      rw [show (46 : Int) = ((46 : UInt8).toNat : Int) from rfl, k1] at C2
      have HC2 := Lib.hid C2
      have HK := Lib.hid k3
      clear C2 k1 k3
      go_enter Tryd.func17, Tryd.ntmps17
      go_wp2_with fail
      refine (HC.out _).mono ?_
      rintro e w' ⟨rfl, rfl⟩
      go_wp2_with fail
      refine (HC2.out _).mono ?_
      rintro e w' ⟨rfl, rfl⟩
      go_wp2
      go_ret3
      exact ⟨ret_three (by rw [HD.out.1]; rfl) (by rw [HD.out.2, HK.out.1, B_self]) (by rw [HD.out.2, HK.out.2]; rfl), Below.refl _ _⟩
    · have C2 := Tryd.strings_LastIndexByte s 46 (by omega)
      rw [show (46 : Int) = ((46 : UInt8).toNat : Int) from rfl, k2] at C2
      have HC2 := Lib.hid C2
      have HK := Lib.hid k3
      clear C2 k2 k3
      go_enter Tryd.func17, Tryd.ntmps17
      go_wp2_with fail
      refine (HC.out _).mono ?_
      rintro e w' ⟨rfl, rfl⟩
      go_wp2_with fail
      refine (HC2.out _).mono ?_
      rintro e w' ⟨rfl, rfl⟩
      go_wp2
      go_quiet (fail)
      go_wp2
      go_ret3
      exact ⟨ret_three (by rw [HD.out.1]; rfl) (by rw [HD.out.2, HK.out.1, ← B_take]) (by rw [HD.out.2, HK.out.2, ← B_drop]), below_of_drewN _ _ _⟩
  · have HD : Hid (dirL s.toList = s.toList.take i ∧ behind 47 s.toList = s.toList.drop (i + 1)) := by
      have e1 := ahead_hit 47 (s.toList.take i) _ h3
      have e2 := behind_hit 47 (s.toList.take i) _ h3
      rw [← h2] at e1 e2
      exact ⟨e1, e2⟩
    have C := Tryd.strings_LastIndexByte s 47 (by omega)
    rw [show (47 : Int) = ((47 : UInt8).toNat : Int) from rfl, h1] at C
    have HC := Lib.hid C
    clear C h1 h2 h3
    have ht := tail_take s i hi
    have hts : (s.extract (i + 1) s.size).size ≤ s.size := by rw [ht, B_size, List.length_drop, len_toList]; omega
    have HB : Hid ((s.extract (i + 1) s.size).toList = s.toList.drop (i + 1)) := by rw [ht, B_data]; rfl
    clear ht
    rcases ext_cases (s.extract (i + 1) s.size) with ⟨k, k1, k2, k3⟩ | ⟨k, k0, k1, k2, k3⟩
    · have C2 := Tryd.strings_LastIndexByte (s.extract (i + 1) s.size) 46 (by omega)
      rw [show (46 : Int) = ((46 : UInt8).toNat : Int) from rfl, k1] at C2
      have HC2 := Lib.hid C2
      rw [HB.out] at k3
      have HK := Lib.hid k3
      clear C2 k1 k3
      go_enter Tryd.func17, Tryd.ntmps17
      go_wp2_with fail
      refine (HC.out _).mono ?_
      rintro e w' ⟨rfl, rfl⟩
      go_wp2
      go_quiet (fail)
      go_wp2_with fail
      refine (HC2.out _).mono ?_
      rintro e w' ⟨rfl, rfl⟩
      go_wp2
      go_ret3
      exact ⟨ret_three (by rw [HD.out.1, ← B_take]) (by rw [HD.out.2, HK.out.1, ← B_drop]) (by rw [HD.out.2, HK.out.2]; rfl), below_of_drewN _ _ _⟩
    · have C2 := Tryd.strings_LastIndexByte (s.extract (i + 1) s.size) 46 (by omega)
      rw [show (46 : Int) = ((46 : UInt8).toNat : Int) from rfl, k2] at C2
      have HC2 := Lib.hid C2
      have HT := Lib.hid (And.intro (B_take (s.extract (i + 1) s.size) k) (B_drop (s.extract (i + 1) s.size) k))
      rw [HB.out] at k3 HT
      have HK := Lib.hid k3
      clear C2 k2 k3
      have hsz : (s.extract (i + 1) s.size).size = s.size - (i + 1) := by have := congrArg List.length HB.out; rw [len_toList, List.length_drop, len_toList] at this; exact this
      have k1' : k < s.size - (i + 1) := by omega
      generalize hz : (s.extract (i + 1) s.size) = z at *
      have HZ := Lib.hid hz; have HSZ := Lib.hid hsz
      clear hz hsz
      go_enter Tryd.func17, Tryd.ntmps17
      go_wp2_with fail
      refine (HC.out _).mono ?_
      rintro e w' ⟨rfl, rfl⟩
      go_wp2
      go_quiet (fail)
      go_wp2_with fail
      rw [HZ.out]
      refine (HC2.out _).mono ?_
      rintro e w' ⟨rfl, rfl⟩
      go_wp2
      go_quiet (fail)
      go_wp2
      go_ret3
      exact ⟨ret_three (by rw [HD.out.1, ← B_take]) (by rw [HD.out.2, HK.out.1, ← HT.out.1]) (by rw [HD.out.2, HK.out.2, ← HT.out.2]), below_drewN (below_of_drewN _ _ _) _⟩

theorem rnames_any (s : ByteArray) (w : World) (hs : s.size ≤ 1000000) :
    Calls Tryd.prog 40 #[.string s] w fun e w' => ∃ v, e = .returned v ∧ w'.ownsRow w.heap.size 9 1 v (namesL s.toList).length (strs (namesL s.toList)) ∧ Below w.heap.size w w' := by
  by_cases h : s.toList = []
  · have e : namesL s.toList = [] := by unfold namesL; rw [if_pos h]
    have e0 : s.toList.isEmpty = true := by rw [h]; rfl
    rw [e]
    clear h e
    go_enter Tryd.func40, Tryd.ntmps40
    go_wp2
    go_ret
    exact ⟨_, rfl, World.ownsRow_nil .., Below.refl _ _⟩
  · have e : namesL s.toList = parts s.toList := by unfold namesL; rw [if_neg h]
    have e0 : s.toList.isEmpty = false := by cases h' : s.toList with | nil => exact absurd h' h | cons a b => rfl
    rw [e]
    clear h e
    go_enter Tryd.func40, Tryd.ntmps40
    go_wp2_with (go_at_call 33; refine (rparts_any s _ (by omega)).mono ?_; rintro e w1 ⟨v, rfl, hown, hb⟩)
    go_ret
    exact ⟨v, rfl, hown, hb⟩

end Go.Proofs.YtpbampchhpkpbaaDoor
