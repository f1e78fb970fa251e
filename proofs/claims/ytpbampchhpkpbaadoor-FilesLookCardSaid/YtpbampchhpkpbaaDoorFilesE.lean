/-
  Layer 16 (files): the directory of a path, and Join.
-/
import Derived.Test.YtpbampchhpkpbaaDoorFilesD
namespace Go.Proofs.YtpbampchhpkpbaaDoor
set_option linter.unusedSimpArgs false
open Go.RowKit
set_option linter.unusedVariables false
attribute [local go_sem] B_data B_size

/-- the part ahead of the last byte c; all that is behind it -/
def ahead (c : UInt8) (l : List UInt8) : List UInt8 := ((l.reverse.dropWhile (· != c)).drop 1).reverse
def behind (c : UInt8) (l : List UInt8) : List UInt8 := (l.reverse.takeWhile (· != c)).reverse
def dirL (l : List UInt8) : List UInt8 := ahead 47 l

theorem dropWhile_all (c : UInt8) (l r : List UInt8) (h : c ∉ l) : (l ++ r).dropWhile (· != c) = r.dropWhile (· != c) := by
  induction l with
  | nil => rfl
  | cons a t ih =>
    have ha : ¬ a = c := fun e => h (by simp [e])
    rw [List.cons_append, List.dropWhile_cons]
    simp only [bne_iff_ne, ne_eq, ha, not_false_eq_true, if_true]
    exact ih fun e => h (by simp [e])
theorem takeWhile_all (c : UInt8) (l r : List UInt8) (h : c ∉ l) : (l ++ r).takeWhile (· != c) = l ++ r.takeWhile (· != c) := by
  induction l with
  | nil => rfl
  | cons a t ih =>
    have ha : ¬ a = c := fun e => h (by simp [e])
    rw [List.cons_append, List.takeWhile_cons]
    simp only [bne_iff_ne, ne_eq, ha, not_false_eq_true, if_true]
    rw [ih fun e => h (by simp [e])]; rfl
theorem ahead_hit (c : UInt8) (a b : List UInt8) (h : c ∉ b) : ahead c (a ++ c :: b) = a := by
  unfold ahead
  have e : (a ++ c :: b).reverse = b.reverse ++ (c :: a.reverse) := by simp
  rw [e, dropWhile_all c _ _ (by simpa using h)]
  simp
theorem behind_hit (c : UInt8) (a b : List UInt8) (h : c ∉ b) : behind c (a ++ c :: b) = b := by
  unfold behind
  have e : (a ++ c :: b).reverse = b.reverse ++ (c :: a.reverse) := by simp
  rw [e, takeWhile_all c _ _ (by simpa using h)]
  simp
theorem ahead_miss (c : UInt8) (l : List UInt8) (h : c ∉ l) : ahead c l = [] := by
  unfold ahead
  have := dropWhile_all c l.reverse [] (by simpa using h)
  rw [List.append_nil] at this
  rw [this]; rfl
theorem behind_miss (c : UInt8) (l : List UInt8) (h : c ∉ l) : behind c l = l := by
  unfold behind
  have := takeWhile_all c l.reverse [] (by simpa using h)
  rw [List.append_nil] at this
  rw [this]; simp

theorem data_at (s : ByteArray) (j : Nat) (h : j < s.size) : s.data[j]! = s[j] := by
  have h' : j < s.data.size := h
  rw [getElem!_pos s.data j h']; rfl
theorem toList_at (s : ByteArray) (k : Nat) (h : k < s.size) : s.toList[k]? = some s[k] := by
  have := congrArg List.head? (drop_byte s k h)
  simpa using this
theorem split_at (s : ByteArray) (k : Nat) (h : k < s.size) : s.toList = s.toList.take k ++ s[k] :: s.toList.drop (k + 1) := by
  conv => lhs; rw [← List.take_append_drop k s.toList, drop_byte s k h]
theorem not_mem_drop (s : ByteArray) (c : UInt8) (i : Nat) (h : ∀ j, i ≤ j → j < s.size → ((s.data[j]!).toNat : Int) ≠ c.toNat) : c ∉ s.toList.drop i := by
  intro hm
  obtain ⟨j, hj, e⟩ := List.mem_iff_getElem.1 hm
  rw [List.length_drop, len_toList] at hj
  rw [List.getElem_drop] at e
  have h1 := h (i + j) (by omega) (by omega)
  have h2 := toList_at s (i + j) (by omega)
  rw [List.getElem?_eq_getElem (by rw [len_toList]; omega), e] at h2
  injection h2 with h2
  rw [data_at s (i + j) (by omega), ← h2] at h1
  exact h1 rfl

theorem last_cases (s : ByteArray) (c : UInt8) : (Lib.lastIndexByte s c.toNat = -1 ∧ c ∉ s.toList) ∨
    (∃ i : Nat, i < s.size ∧ Lib.lastIndexByte s c.toNat = i ∧ s.toList = s.toList.take i ++ c :: s.toList.drop (i + 1) ∧ c ∉ s.toList.drop (i + 1)) := by
  rcases Lib.lastIndexByte_spec s c.toNat with ⟨h1, h2⟩ | ⟨i, hi, h1, h2, h3⟩
  · left
    refine ⟨h1, ?_⟩
    have := not_mem_drop s c 0 fun j _ hj => h2 j hj
    simpa using this
  · right
    have e : s[i] = c := by
      rw [data_at s i hi] at h2
      exact UInt8.toNat_inj.1 (by omega)
    refine ⟨i, hi, h1, ?_, not_mem_drop s c (i + 1) fun j hj hj' => h3 j (by omega) hj'⟩
    have := split_at s i hi
    rw [e] at this
    exact this

theorem directory_any (s : ByteArray) (w : World) (hs : s.size ≤ 1099511627776) :
    Calls Tryd.prog 36 #[.string s] w fun e w' => e = .returned (.string (B (dirL s.toList))) ∧ w = w' := by
  rcases last_cases s 47 with ⟨h1, h2⟩ | ⟨i, hi, h1, h2, h3⟩
  · have HD := Lib.hid (ahead_miss 47 _ h2)
    have C := Tryd.strings_LastIndexByte s 47 (by omega)
    rw [show (47 : Int) = ((47 : UInt8).toNat : Int) from rfl, h1] at C
    have HC := Lib.hid C
    clear C h1 h2
    go_enter Tryd.func36, Tryd.ntmps36
    go_wp2_with fail
    refine (HC.out _).mono ?_
    rintro e w' ⟨rfl, rfl⟩
    go_wp2
    go_ret
    exact ⟨ret_str (by unfold dirL; rw [HD.out]; exact B_take s 0), rfl⟩
  · have HD : Hid (dirL s.toList = s.toList.take i) := by
      unfold dirL
      have := ahead_hit 47 (s.toList.take i) _ h3
      rw [← h2] at this
      exact this
    have C := Tryd.strings_LastIndexByte s 47 (by omega)
    rw [show (47 : Int) = ((47 : UInt8).toNat : Int) from rfl, h1] at C
    have HC := Lib.hid C
    clear C h1 h2 h3
    go_enter Tryd.func36, Tryd.ntmps36
    go_wp2_with fail
    refine (HC.out _).mono ?_
    rintro e w' ⟨rfl, rfl⟩
    go_wp2
    go_ret
    exact ⟨ret_str (by rw [HD.out]; exact B_take s i), rfl⟩

set_option maxHeartbeats 400000 in
theorem rdir_any (s : ByteArray) (w : World) (hs : s.size ≤ 1099511627776) :
    Calls Tryd.prog 37 #[.string s] w fun e w' => e = .returned (.string (B (dirL s.toList))) ∧ w = w' := by
  go_enter Tryd.func37, Tryd.ntmps37
  go_wp2
  go_loop [3] (fun i => ∃ k : Nat, k ≤ s.size ∧ i = .int .i64 ((k : Int) - 1) ∧ Hid ((47 : UInt8) ∉ s.toList.drop k)) (fun i => (intOf i + 1).toNat)
  case atStart => exact ⟨s.size, Nat.le_refl _, rfl, by rw [List.drop_of_length_le (by rw [len_toList]; omega)]; simp [Hid]⟩
  case round =>
    obtain ⟨k, hk, rfl, hr⟩ := hrel
    rcases Nat.eq_zero_or_pos k with h0 | h0
    · have HD : Hid (dirL s.toList = []) := by have := hr.out; rw [h0, List.drop_zero] at this; exact ahead_miss 47 _ this
      have h0' : k ≤ 0 := by omega
      clear h0
      go_wp2
      go_ret
      exact ⟨ret_str (by rw [HD.out]; rfl), rfl⟩
    · obtain ⟨m, rfl⟩ : ∃ m, k = m + 1 := ⟨k - 1, by omega⟩
      have em : (((m + 1 : Nat) : Int) - 1) = (m : Int) := by omega
      rw [em]
      by_cases hc : ((s[m].toNat : Int) == 47) = true
      · have HD : Hid (dirL s.toList = s.toList.take m) := by
          have e := split_at s m (by omega)
          rw [byte_is (d := 47) hc] at e
          have := ahead_hit 47 (s.toList.take m) _ hr.out
          rw [← e] at this
          exact this
        go_wp2
        go_ret
        exact ⟨ret_str (by rw [HD.out]; exact B_take s m), rfl⟩
      · have hc : ((s[m].toNat : Int) == 47) = false := by simpa using hc
        have HN : Hid ((47 : UInt8) ∉ s.toList.drop m) := by
          rw [drop_byte s m (by omega)]
          intro h
          rcases List.mem_cons.1 h with h | h
          · exact byte_ne (d := 47) hc h.symm
          · exact hr.out h
        go_wp2
        go_round
        case rel => exact ⟨m, by omega, rfl, HN.out⟩
        case measure => simp [intOf]

theorem cat_toList (a b : ByteArray) (l : List UInt8) (h : b.toList = l) : (a ++ b).toList = a.toList ++ l := by
  rw [← h, ByteArray.toList_eq, ByteArray.toList_eq, ByteArray.toList_eq]; simp
theorem ahead_le (c : UInt8) (l : List UInt8) : (ahead c l).length ≤ l.length := by
  unfold ahead
  have := (List.dropWhile_sublist (fun x : UInt8 => x != c) (l := l.reverse)).length_le
  simp at this ⊢; omega
theorem clean_le (l : List UInt8) : (clean l).length ≤ 200 := by
  unfold clean cleanK
  split
  · simp
  · split
    · assumption
    · simp
/-- a path or the empty string, with the error -/
def PairRet (r : List UInt8) : Ending := .returned (.tuple #[.string (B r), .int .i64 (errK r)])
theorem pair_none {r : List UInt8} (h : r = []) : Ending.returned (.tuple #[.string ⟨#[]⟩, .int .i64 6]) = PairRet r := by rw [h]; rfl
theorem pair_some {r : List UInt8} (h : r ≠ []) : Ending.returned (.tuple #[.string (B r), .int .i64 0]) = PairRet r := by unfold PairRet errK; rw [if_neg h]
/-- the path that is named in a file -/
def joinF (file path : List UInt8) : List UInt8 :=
  if clean file = [] then [] else if path = [] then [] else if path[0]? = some 47 then clean path else clean (dirL (clean file) ++ 47 :: path)

set_option maxHeartbeats 1000000 in
theorem fjoin_any (a b : ByteArray) (w : World) (ha : a.size ≤ 999000) (hb : b.size ≤ 990000) (hG : Glob w) :
    Calls Tryd.prog 13 #[.string a, .string b] w fun e w' => e = PairRet (joinF a.toList b.toList) ∧ Below w.heap.size w w' := by
  have H1 : Hid (joinF a.toList b.toList = if clean a.toList = [] then [] else if b.toList = [] then [] else if b.toList[0]? = some 47 then clean b.toList else clean (dirL (clean a.toList) ++ 47 :: b.toList)) := rfl
  have hcl := clean_le a.toList
  go_enter Tryd.func13, Tryd.ntmps13
  go_wp2_with fail
  with_reducible refine (clean_any a _ (by omega) hG).mono ?_
  rintro e w1 ⟨rfl, hb1⟩
  have hG1 := hG.below hb1 (Nat.le_refl _)
  have hs1 := hb1.size
  unfold CleanRet
  generalize clean a.toList = f at *
  by_cases hf : f = []
  · have HR : Hid (joinF a.toList b.toList = []) := by rw [H1.out, if_pos hf]; rfl
    subst hf
    have e0 : errK [] = 6 := rfl
    rw [e0]
    clear e0
    go_wp2
    go_ret2
    exact ⟨pair_none HR.out, hb1⟩
  · have e0 : errK f = 0 := by unfold errK; rw [if_neg hf]
    rw [e0]
    clear e0
    by_cases h0 : b.toList = []
    · have HR : Hid (joinF a.toList b.toList = []) := by rw [H1.out, if_neg hf, if_pos h0]; rfl
      have e1 : b.toList.isEmpty = true := by rw [h0]; rfl
      clear h0 hf
      go_wp2
      go_ret2
      exact ⟨pair_none HR.out, hb1⟩
    · have e1 : b.toList.isEmpty = false := by cases h : b.toList with | nil => exact absurd h h0 | cons x y => rfl
      have hbz : 0 < b.size := by rw [← len_toList]; exact List.length_pos_iff.2 h0
      have hg0 := toList_at b 0 hbz
      by_cases hc : ((b[0].toNat : Int) == 47) = true
      · have HR : Hid (joinF a.toList b.toList = clean b.toList) := by rw [H1.out, if_neg hf, if_neg h0, if_pos (by rw [hg0, byte_is (d := 47) hc])]; rfl
        clear h0 hf hg0
        go_wp2_with fail
        with_reducible refine (clean_any b _ (by omega) hG1).mono ?_
        rintro e w2 ⟨rfl, hb2⟩
        unfold CleanRet
        go_wp2
        go_ret2
        exact ⟨by rw [HR.out]; rfl, hb1.trans (hb2.mono hs1)⟩
      · have hc : ((b[0].toNat : Int) == 47) = false := by simpa using hc
        have HR : Hid (joinF a.toList b.toList = clean (dirL f ++ 47 :: b.toList)) := by
          rw [H1.out, if_neg hf, if_neg h0, if_neg (by rw [hg0]; intro h; injection h with h; exact byte_ne (d := 47) hc h)]; rfl
        clear h0 hf hg0
        have hdl := ahead_le 47 f
        have HT : Hid ((B (dirL f) ++ ⟨#[47]⟩ ++ b).toList = dirL f ++ 47 :: b.toList) := by
          have e1 := cat_toList (B (dirL f) ++ ⟨#[47]⟩) b _ rfl
          have e2 := cat_toList (B (dirL f)) ⟨#[47]⟩ [47] (B_data _)
          rw [e1, e2, B_data]; simp [Hid]
        have z1 : (⟨#[47]⟩ : ByteArray).size = 1 := rfl
        have hdl' : (dirL f).length ≤ 200 := Nat.le_trans hdl hcl
        go_wp2_with fail
        with_reducible refine (directory_any (B f) _ (by rw [B_size]; omega)).mono ?_
        rintro e w2 ⟨rfl, rfl⟩
        rw [B_data]
        go_wp2_with fail
        with_reducible refine (clean_any _ _ (by simp [B_size]; omega) hG1).mono ?_
        rintro e w2 ⟨rfl, hb2⟩
        rw [HT.out]
        unfold CleanRet
        go_wp2
        go_ret2
        exact ⟨by rw [HR.out]; rfl, hb1.trans (hb2.mono hs1)⟩

set_option maxHeartbeats 1000000 in
theorem rfjoin_any (a b : ByteArray) (w : World) (ha : a.size ≤ 999000) (hb : b.size ≤ 990000) (hG : Glob w) :
    Calls Tryd.prog 14 #[.string a, .string b] w fun e w' => e = PairRet (joinF a.toList b.toList) ∧ Below w.heap.size w w' := by
  have H1 : Hid (joinF a.toList b.toList = if clean a.toList = [] then [] else if b.toList = [] then [] else if b.toList[0]? = some 47 then clean b.toList else clean (dirL (clean a.toList) ++ 47 :: b.toList)) := rfl
  have hcl := clean_le a.toList
  go_enter Tryd.func14, Tryd.ntmps14
  go_wp2_with fail
  with_reducible refine (rclean_any a _ (by omega)).mono ?_
  rintro e w1 ⟨rfl, hb1⟩
  have hG1 := hG.below hb1 (Nat.le_refl _)
  have hs1 := hb1.size
  unfold CleanRet
  generalize clean a.toList = f at *
  by_cases hf : f = []
  · have HR : Hid (joinF a.toList b.toList = []) := by rw [H1.out, if_pos hf]; rfl
    subst hf
    have e0 : errK [] = 6 := rfl
    rw [e0]
    clear e0
    go_wp2
    go_ret2
    exact ⟨pair_none HR.out, hb1⟩
  · have e0 : errK f = 0 := by unfold errK; rw [if_neg hf]
    rw [e0]
    clear e0
    by_cases h0 : b.toList = []
    · have HR : Hid (joinF a.toList b.toList = []) := by rw [H1.out, if_neg hf, if_pos h0]; rfl
      have e1 : b.toList.isEmpty = true := by rw [h0]; rfl
      clear h0 hf
      go_wp2
      go_ret2
      exact ⟨pair_none HR.out, hb1⟩
    · have e1 : b.toList.isEmpty = false := by cases h : b.toList with | nil => exact absurd h h0 | cons x y => rfl
      have hbz : 0 < b.size := by rw [← len_toList]; exact List.length_pos_iff.2 h0
      have hg0 := toList_at b 0 hbz
      by_cases hc : ((b[0].toNat : Int) == 47) = true
      · have HR : Hid (joinF a.toList b.toList = clean b.toList) := by rw [H1.out, if_neg hf, if_neg h0, if_pos (by rw [hg0, byte_is (d := 47) hc])]; rfl
        clear h0 hf hg0
        go_wp2_with fail
        with_reducible refine (rclean_any b _ (by omega)).mono ?_
        rintro e w2 ⟨rfl, hb2⟩
        unfold CleanRet
        go_wp2
        go_ret2
        exact ⟨by rw [HR.out]; rfl, hb1.trans (hb2.mono hs1)⟩
      · have hc : ((b[0].toNat : Int) == 47) = false := by simpa using hc
        have HR : Hid (joinF a.toList b.toList = clean (dirL f ++ 47 :: b.toList)) := by
          rw [H1.out, if_neg hf, if_neg h0, if_neg (by rw [hg0]; intro h; injection h with h; exact byte_ne (d := 47) hc h)]; rfl
        clear h0 hf hg0
        have hdl := ahead_le 47 f
        have HT : Hid ((B (dirL f) ++ ⟨#[47]⟩ ++ b).toList = dirL f ++ 47 :: b.toList) := by
          have e1 := cat_toList (B (dirL f) ++ ⟨#[47]⟩) b _ rfl
          have e2 := cat_toList (B (dirL f)) ⟨#[47]⟩ [47] (B_data _)
          rw [e1, e2, B_data]; simp [Hid]
        have z1 : (⟨#[47]⟩ : ByteArray).size = 1 := rfl
        have hdl' : (dirL f).length ≤ 200 := Nat.le_trans hdl hcl
        go_wp2_with fail
        with_reducible refine (rdir_any (B f) _ (by rw [B_size]; omega)).mono ?_
        rintro e w2 ⟨rfl, rfl⟩
        rw [B_data]
        go_wp2_with fail
        with_reducible refine (rclean_any _ _ (by simp [B_size]; omega)).mono ?_
        rintro e w2 ⟨rfl, hb2⟩
        rw [HT.out]
        unfold CleanRet
        go_wp2
        go_ret2
        exact ⟨by rw [HR.out]; rfl, hb1.trans (hb2.mono hs1)⟩

end Go.Proofs.YtpbampchhpkpbaaDoor
