/-
  Layer 28 (locale): the walks of LocaleTerms, LocaleOrdinals, LocaleDates, LocaleRomans, LocaleLists.
-/
import Derived.Test.YtkndgkiglaacnaaDoorLocX
namespace Go.Proofs.YtkndgkiglaacnaaDoor
open Go.RowKit
set_option linter.unusedVariables false
attribute [local go_sem] B_data B_size

set_option maxHeartbeats 1000000 in
theorem localeTerms_walk (w : World) (a : ByteArray) (_ : a.size ≤ maxLen) (b : ByteArray) (_ : b.size ≤ maxLen) (n : Int) (hG : GlobL w) :
    Calls Tryd.prog 3 #[.string a, .string b, .int .i64 n] w fun e w' => e = .returned (.bool true) ∧ Below w.heap.size w w' := by
  obtain ⟨l, rfl⟩ : ∃ l, a = B l := ⟨a.toList, (B_self a).symm⟩
  obtain ⟨k, rfl⟩ : ∃ l, b = B l := ⟨b.toList, (B_self b).symm⟩
  have C1 := Lib.hid (term_any l k n w)
  have C2 := Lib.hid (rterm_any l k n)
  unfold TermRet at C1 C2
  generalize termS l k n = s at *
  generalize termB l k = t at *
  have t1 : (s == s) = true := by simp
  have t2 : (t == t) = true := by simp
  go_enter Tryd.func3, Tryd.ntmps3
  go_wp2_with fail
  refine C1.out.mono ?_
  rintro e w1 ⟨rfl, hb1⟩
  go_wp2_with fail
  refine (C2.out w1).mono ?_
  rintro e w2 ⟨rfl, hb2'⟩
  have hb2 := hb1.trans (hb2'.mono hb1.size)
  clear C1 C2
  go_wp2_with fail
  refine (awake_any w2 (hG.below hb2)).mono ?_
  rintro e w3 ⟨rfl, hb3⟩
  go_wp2
  go_ret
  exact ⟨rfl, hb2.trans (hb3.mono hb2.size)⟩

set_option maxHeartbeats 1000000 in
theorem localeOrdinals_walk (w : World) (a : ByteArray) (_ : a.size ≤ maxLen) (n : Int) (hG : GlobL w) :
    Calls Tryd.prog 4 #[.string a, .int .i64 n] w fun e w' => e = .returned (.bool true) ∧ Below w.heap.size w w' := by
  obtain ⟨l, rfl⟩ : ∃ l, a = B l := ⟨a.toList, (B_self a).symm⟩
  have C1 := Lib.hid (ordinal_any l n w hG)
  have C2 := Lib.hid (rordinal_any l n)
  unfold OrdRet at C1 C2
  generalize ordS l n = s at *
  generalize ordE l n = t at *
  have t1 : (s == s) = true := by simp
  have t2 : (t == t) = true := by simp
  go_enter Tryd.func4, Tryd.ntmps4
  go_wp2_with fail
  refine C1.out.mono ?_
  rintro e w1 ⟨rfl, hb1⟩
  go_wp2_with fail
  refine (C2.out w1).mono ?_
  rintro e w2 ⟨rfl, hb2'⟩
  have hb2 := hb1.trans (hb2'.mono hb1.size)
  clear C1 C2
  go_wp2_with fail
  refine (awake_any w2 (hG.below hb2)).mono ?_
  rintro e w3 ⟨rfl, hb3⟩
  go_wp2
  go_ret
  exact ⟨rfl, hb2.trans (hb3.mono hb2.size)⟩

set_option maxHeartbeats 1000000 in
theorem localeDates_walk (w : World) (a : ByteArray) (_ : a.size ≤ maxLen) (y m d : Int) (hG : GlobL w) :
    Calls Tryd.prog 5 #[.string a, .int .i64 y, .int .i64 m, .int .i64 d] w fun e w' => e = .returned (.bool true) ∧ Below w.heap.size w w' := by
  obtain ⟨l, rfl⟩ : ∃ l, a = B l := ⟨a.toList, (B_self a).symm⟩
  have C1 := Lib.hid (date_any l y m d w hG)
  have C2 := Lib.hid (rdate_any l y m d)
  unfold DateRet at C1 C2
  generalize dateS l y m d = s at *
  generalize dateE l y m d = t at *
  have t1 : (s == s) = true := by simp
  have t2 : (t == t) = true := by simp
  go_enter Tryd.func5, Tryd.ntmps5
  go_wp2_with fail
  refine C1.out.mono ?_
  rintro e w1 ⟨rfl, hb1⟩
  go_wp2_with fail
  refine (C2.out w1).mono ?_
  rintro e w2 ⟨rfl, hb2'⟩
  have hb2 := hb1.trans (hb2'.mono hb1.size)
  clear C1 C2
  go_wp2_with fail
  refine (awake_any w2 (hG.below hb2)).mono ?_
  rintro e w3 ⟨rfl, hb3⟩
  go_wp2
  go_ret
  exact ⟨rfl, hb2.trans (hb3.mono hb2.size)⟩

set_option maxHeartbeats 1000000 in
theorem localeRomans_walk (w : World) (n : Int) (hG : GlobL w) :
    Calls Tryd.prog 8 #[.int .i64 n] w fun e w' => e = .returned (.bool true) ∧ Below w.heap.size w w' := by
  have C1 := Lib.hid (roman_any n w)
  have C2 := Lib.hid (rroman_any n)
  unfold RomRet at C1 C2
  generalize romR n = s at *
  generalize romE n = t at *
  have t1 : (s == s) = true := by simp
  have t2 : (t == t) = true := by simp
  go_enter Tryd.func8, Tryd.ntmps8
  go_wp2_with fail
  refine C1.out.mono ?_
  rintro e w1 ⟨rfl, hb1⟩
  go_wp2_with fail
  refine (C2.out w1).mono ?_
  rintro e w2 ⟨rfl, hb2'⟩
  have hb2 := hb1.trans (hb2'.mono hb1.size)
  clear C1 C2
  go_wp2_with fail
  refine (awake_any w2 (hG.below hb2)).mono ?_
  rintro e w3 ⟨rfl, hb3⟩
  go_wp2
  go_ret
  exact ⟨rfl, hb2.trans (hb3.mono hb2.size)⟩

set_option maxHeartbeats 2000000 in
theorem localeLists_walk (w : World) (a : ByteArray) (_ : a.size ≤ maxLen) (A : Option Addr) (n c : Nat) (ls : List (List UInt8)) (hx : Rd w w.heap.size 1 A n (strs ls)) (hl : n ≤ c ∧ c ≤ maxLen) (hG : GlobL w) :
    Calls Tryd.prog 7 #[.string a, .slice A n c] w fun e w' => e = .returned (.bool true) ∧ Below w.heap.size w w' := by
  obtain ⟨l, rfl⟩ : ∃ l, a = B l := ⟨a.toList, (B_self a).symm⟩
  obtain ⟨hnc, hcm⟩ := hl
  unfold maxLen at hcm
  have HL := Lib.hid hx.strs_length
  go_enter Tryd.func7, Tryd.ntmps7
  go_wp2
  go_loop [5, 6] (fun m i => ∃ k : Nat, k ≤ n ∧ k ≤ 60 ∧ i = .int .i64 k ∧ m = .int .i64 k ∧ Hid (∀ j, j < k → (ls.getD j []).length ≤ 100)) (fun _ i => 60 - (intOf i).toNat)
  case atStart => exact ⟨0, by omega, by omega, rfl, rfl, fun j h => absurd h (by omega)⟩
  case round =>
    obtain ⟨k, hk, hk6, rfl, rfl, hr⟩ := hrel
    by_cases hlt : k < n
    · by_cases h6 : k < 60
      · obtain ⟨b, o, rfl, hm, h0⟩ := rd_strb hx hlt
        have d1 : decide (k < n) = true := by simpa using hlt
        have d2 : decide ((k : Int) < 60) = true := by simp; omega
        by_cases hs : (ls.getD k []).length ≤ 100
        · have HN : Hid (∀ j, j < k + 1 → (ls.getD j []).length ≤ 100) := by
            intro j hj
            rcases Nat.lt_succ_iff_lt_or_eq.1 hj with h | rfl
            · exact hr.out j h
            · exact hs
          generalize ls.getD k [] = x at *
          go_wp2
          go_round
          case rel => exact ⟨k + 1, by omega, by omega, by go_num, by go_num, HN.out⟩
          case measure => simp [intOf]; omega
        · generalize ls.getD k [] = x at *
          go_wp2_with fail
          refine (awake_any w hG).mono ?_
          rintro e w3 ⟨rfl, hb3⟩
          go_wp2
          go_ret
          exact ⟨rfl, hb3⟩
      · have d1 : decide (k < n) = true := by simpa using hlt
        have d2 : decide ((k : Int) < 60) = false := by simp; omega
        go_wp2_with fail
        refine (awake_any w hG).mono ?_
        rintro e w3 ⟨rfl, hb3⟩
        go_wp2
        go_ret
        exact ⟨rfl, hb3⟩
    · obtain rfl : k = n := by omega
      have d1 : decide (k < k) = false := by simp
      have HA : Hid (∀ x ∈ ls, x.length ≤ 100) := by
        intro x hx'
        obtain ⟨j, hj, rfl⟩ := List.getElem_of_mem hx'
        have := hr.out j (by rw [← HL.out]; exact hj)
        simpa [hj] using this
      have C1 := Lib.hid (list_any l A k c ls w hx hnc hk6 HA.out)
      have C2 := Lib.hid (fun w (hx : Rd w w.heap.size 1 A k (strs ls)) => rlist_any l A k c ls w hx hnc hk6 HA.out)
      generalize listL l ls = s at *
      have t1 : (s == s) = true := by simp
      go_wp2_with fail
      refine C1.out.mono ?_
      rintro e w1 ⟨rfl, hb1⟩
      have hx1 := (hx.below hb1).more hb1.size
      go_wp2_with fail
      refine (C2.out w1 hx1).mono ?_
      rintro e w2 ⟨rfl, hb2'⟩
      have hb2 := hb1.trans (hb2'.mono hb1.size)
      clear C1 C2
      go_wp2_with fail
      refine (awake_any w2 (hG.below hb2)).mono ?_
      rintro e w3 ⟨rfl, hb3⟩
      go_wp2
      go_ret
      exact ⟨rfl, hb2.trans (hb3.mono hb2.size)⟩
end Go.Proofs.YtkndgkiglaacnaaDoor
