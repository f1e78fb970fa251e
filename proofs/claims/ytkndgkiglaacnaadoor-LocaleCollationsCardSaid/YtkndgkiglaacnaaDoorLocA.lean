/-
  Layer 28 (locale): languages, endings of ordinal numbers, decimal numbers.
-/
import Derived.Test.YtkndgkiglaacnaaDoorMem
import Derived.Lib.ItoaNum
namespace Go.Proofs.YtkndgkiglaacnaaDoor
set_option linter.unusedSimpArgs false
open Go.RowKit
set_option linter.unusedVariables false
attribute [local go_sem] B_data B_size

/-- the number of a language: en, de, fr, es; 4: none of them -/
def lang4 (l : List UInt8) : Nat := if l = [101, 110] then 0 else if l = [100, 101] then 1 else if l = [102, 114] then 2 else if l = [101, 115] then 3 else 4
theorem lang_cases (l : List UInt8) : l = [101, 110] ∨ l = [100, 101] ∨ l = [102, 114] ∨ l = [101, 115] ∨ ((l == [101, 110]) = false ∧ (l == [100, 101]) = false ∧ (l == [102, 114]) = false ∧ (l == [101, 115]) = false ∧ lang4 l = 4) := by
  by_cases h1 : l = [101, 110]
  · exact .inl h1
  by_cases h2 : l = [100, 101]
  · exact .inr (.inl h2)
  by_cases h3 : l = [102, 114]
  · exact .inr (.inr (.inl h3))
  by_cases h4 : l = [101, 115]
  · exact .inr (.inr (.inr (.inl h4)))
  refine .inr (.inr (.inr (.inr ⟨by simpa using h1, by simpa using h2, by simpa using h3, by simpa using h4, ?_⟩)))
  unfold lang4
  rw [if_neg h1, if_neg h2, if_neg h3, if_neg h4]
/-- whether there is a language -/
def knownB (l : List UInt8) : Bool := decide (lang4 l < 4)

set_option maxHeartbeats 400000 in
theorem known_any (l : List UInt8) (w : World) : Calls Tryd.prog 30 #[.string (B l)] w fun e w' => e = .returned (.bool (knownB l)) ∧ w = w' := by
  rcases lang_cases l with rfl | rfl | rfl | rfl | ⟨h1, h2, h3, h4, h5⟩
  · go_enter Tryd.func30, Tryd.ntmps30
    go_wp2
    go_ret
    exact ⟨rfl, rfl⟩
  · go_enter Tryd.func30, Tryd.ntmps30
    go_wp2
    go_ret
    exact ⟨rfl, rfl⟩
  · go_enter Tryd.func30, Tryd.ntmps30
    go_wp2
    go_ret
    exact ⟨rfl, rfl⟩
  · go_enter Tryd.func30, Tryd.ntmps30
    go_wp2
    go_ret
    exact ⟨rfl, rfl⟩
  · have H : Hid (knownB l = false) := by unfold knownB; rw [h5]; rfl
    clear h5
    go_enter Tryd.func30, Tryd.ntmps30
    go_wp2
    go_ret
    exact ⟨ret_bool H.out.symm, rfl⟩

/-- the ending of an English ordinal number -/
def engL (n : Nat) : List UInt8 :=
  if 11 ≤ n % 100 ∧ n % 100 ≤ 13 then [116, 104] else if n % 10 = 1 then [115, 116] else if n % 10 = 2 then [110, 100] else if n % 10 = 3 then [114, 100] else [116, 104]

set_option maxHeartbeats 1000000 in
theorem english_any (n : Nat) (w : World) (hn : n ≤ 1000000) : Calls Tryd.prog 31 #[.int .i64 n] w fun e w' => e = .returned (.string (B (engL n))) ∧ w = w' := by
  have he : (∃ s, Hid (engL n = s) ∧ ((s = [116, 104] ∧ 11 ≤ n % 100 ∧ n % 100 ≤ 13) ∨ ((n % 100 < 11 ∨ 13 < n % 100) ∧ ((n % 10 = 1 ∧ s = [115, 116]) ∨ (n % 10 = 2 ∧ s = [110, 100]) ∨ (n % 10 = 3 ∧ s = [114, 100]) ∨ ((n % 10 < 1 ∨ 3 < n % 10) ∧ s = [116, 104]))))) := by
    refine ⟨_, rfl, ?_⟩
    unfold engL
    by_cases h : 11 ≤ n % 100 ∧ n % 100 ≤ 13
    · left; rw [if_pos h]; exact ⟨rfl, h⟩
    · right
      refine ⟨by omega, ?_⟩
      rw [if_neg h]
      by_cases h1 : n % 10 = 1
      · rw [if_pos h1]; exact .inl ⟨h1, rfl⟩
      rw [if_neg h1]
      by_cases h2 : n % 10 = 2
      · rw [if_pos h2]; exact .inr (.inl ⟨h2, rfl⟩)
      rw [if_neg h2]
      by_cases h3 : n % 10 = 3
      · rw [if_pos h3]; exact .inr (.inr (.inl ⟨h3, rfl⟩))
      rw [if_neg h3]
      exact .inr (.inr (.inr ⟨by omega, rfl⟩))
  obtain ⟨s, HS, hs⟩ := he
  rcases hs with ⟨rfl, h1, h2⟩ | ⟨h1 | h1, hs⟩
  · have d1 : decide (11 ≤ (n : Int) % 100) = true := by simp; omega
    have d2 : decide ((n : Int) % 100 ≤ 13) = true := by simp; omega
    go_enter Tryd.func31, Tryd.ntmps31
    go_wp2
    go_ret
    exact ⟨by rw [HS.out]; rfl, rfl⟩
  · have d1 : decide (11 ≤ (n : Int) % 100) = false := by simp; omega
    rcases hs with ⟨h, rfl⟩ | ⟨h, rfl⟩ | ⟨h, rfl⟩ | ⟨h, rfl⟩
    all_goals
      have b1 : ((n : Int) % 10 == 1) = decide (n % 10 = 1) := by rw [Bool.eq_iff_iff]; simp; omega
      have b2 : ((n : Int) % 10 == 2) = decide (n % 10 = 2) := by rw [Bool.eq_iff_iff]; simp; omega
      have b3 : ((n : Int) % 10 == 3) = decide (n % 10 = 3) := by rw [Bool.eq_iff_iff]; simp; omega
      try rw [decide_eq_true h] at b1
      try rw [decide_eq_true h] at b2
      try rw [decide_eq_true h] at b3
      try rw [decide_eq_false (by omega)] at b1
      try rw [decide_eq_false (by omega)] at b2
      try rw [decide_eq_false (by omega)] at b3
      clear h
      go_enter Tryd.func31, Tryd.ntmps31
      go_wp2
      go_ret
      exact ⟨by rw [HS.out]; rfl, rfl⟩
  · have d1 : decide (11 ≤ (n : Int) % 100) = true := by simp; omega
    have d2 : decide ((n : Int) % 100 ≤ 13) = false := by simp; omega
    rcases hs with ⟨h, rfl⟩ | ⟨h, rfl⟩ | ⟨h, rfl⟩ | ⟨h, rfl⟩
    all_goals
      have b1 : ((n : Int) % 10 == 1) = decide (n % 10 = 1) := by rw [Bool.eq_iff_iff]; simp; omega
      have b2 : ((n : Int) % 10 == 2) = decide (n % 10 = 2) := by rw [Bool.eq_iff_iff]; simp; omega
      have b3 : ((n : Int) % 10 == 3) = decide (n % 10 = 3) := by rw [Bool.eq_iff_iff]; simp; omega
      try rw [decide_eq_true h] at b1
      try rw [decide_eq_true h] at b2
      try rw [decide_eq_true h] at b3
      try rw [decide_eq_false (by omega)] at b1
      try rw [decide_eq_false (by omega)] at b2
      try rw [decide_eq_false (by omega)] at b3
      clear h
      go_enter Tryd.func31, Tryd.ntmps31
      go_wp2
      go_ret
      exact ⟨by rw [HS.out]; rfl, rfl⟩

theorem digit_at (k : Nat) (h : k < 10) : (⟨#[48, 49, 50, 51, 52, 53, 54, 55, 56, 57]⟩ : ByteArray).extract k (k + 1) = B [UInt8.ofNat (48 + k)] := by
  rw [B_extract, show (⟨#[48, 49, 50, 51, 52, 53, 54, 55, 56, 57]⟩ : ByteArray).toList = [48, 49, 50, 51, 52, 53, 54, 55, 56, 57] from B_data _]
  have : k = 0 ∨ k = 1 ∨ k = 2 ∨ k = 3 ∨ k = 4 ∨ k = 5 ∨ k = 6 ∨ k = 7 ∨ k = 8 ∨ k = 9 := by omega
  rcases this with rfl | rfl | rfl | rfl | rfl | rfl | rfl | rfl | rfl | rfl <;> rfl

theorem dec_small (n : Nat) (h : n < 10) : Lib.decDigits n = [UInt8.ofNat (48 + n % 10)] := by rw [Lib.decDigits, dif_pos h, Nat.mod_eq_of_lt h]
theorem dec_big (n : Nat) (h : ¬ n < 10) : Lib.decDigits n = Lib.decDigits (n / 10) ++ [UInt8.ofNat (48 + n % 10)] := by rw [Lib.decDigits, dif_neg h]
theorem dec_len (n : Nat) : (Lib.decDigits n).length ≤ n + 1 := by
  induction n using Nat.strongRecOn with
  | ind n ih =>
    by_cases h : n < 10
    · rw [dec_small n h]; simp
    · rw [dec_big n h]
      have := ih (n / 10) (by omega)
      simp; omega
theorem B_cat (a b : List UInt8) : B a ++ B b = B (a ++ b) := by
  apply ByteArray.ext; simp [B]

set_option maxHeartbeats 1000000 in
theorem num_any : ∀ (n : Nat) (w : World), n ≤ 1000000 → Calls Tryd.prog 33 #[.int .i64 n] w fun e w' => e = .returned (.string (B (Lib.decDigits n))) ∧ w = w' := by
  intro n
  induction n using Nat.strongRecOn with
  | ind n ih =>
    intro w hn
    have HX := Lib.hid (digit_at (n % 10) (by omega))
    have IH := Lib.hid (ih (n / 10))
    clear ih
    by_cases h : n < 10
    · have HD := Lib.hid (dec_small n h)
      go_enter Tryd.func33, Tryd.ntmps33
      go_wp2
      go_ret
      exact ⟨ret_str (by rw [HX.out, HD.out]), rfl⟩
    · have HD := Lib.hid (dec_big n h)
      have C := IH.out (by omega) w (by omega)
      rw [show ((n / 10 : Nat) : Int) = (n : Int) / 10 from by omega] at C
      have HC := Lib.hid C
      clear C IH
      go_enter Tryd.func33, Tryd.ntmps33
      go_wp2_with fail
      refine HC.out.mono ?_
      rintro e w1 ⟨rfl, rfl⟩
      have hl := dec_len (n / 10)
      have hx := HX.out
      go_wp2
      go_ret
      exact ⟨ret_str (by rw [B_cat, HD.out]; simp), rfl⟩

theorem below_alloc (w : World) (o : Obj) : Below w.heap.size w (w.alloc o) := (Below.refl _ _).alloc (Nat.le_refl _) o

set_option maxHeartbeats 1000000 in
theorem renglish_any (n : Nat) (w : World) (hn : n ≤ 1000000) : Calls Tryd.prog 34 #[.int .i64 n] w fun e w' => e = .returned (.string (B (engL n))) ∧ Below w.heap.size w w' := by
  by_cases h : (11 ≤ n % 100 ∧ n % 100 ≤ 13) ∨ n % 10 < 1 ∨ 3 < n % 10
  · have HS : Hid (engL n = [116, 104]) := by
      unfold engL Hid
      by_cases h1 : 11 ≤ n % 100 ∧ n % 100 ≤ 13
      · rw [if_pos h1]
      · rw [if_neg h1, if_neg (by omega), if_neg (by omega), if_neg (by omega)]
    by_cases h1 : 11 ≤ n % 100 ∧ n % 100 ≤ 13
    · have d1 : decide (11 ≤ (n : Int) % 100) = true := by simp; omega
      have d2 : decide ((n : Int) % 100 ≤ 13) = true := by simp; omega
      go_enter Tryd.func34, Tryd.ntmps34
      go_wp2
      go_ret
      exact ⟨by rw [HS.out]; rfl, Below.refl _ _⟩
    · by_cases h2 : 11 ≤ n % 100
      · have d1 : decide (11 ≤ (n : Int) % 100) = true := by simp; omega
        have d2 : decide ((n : Int) % 100 ≤ 13) = false := by simp; omega
        by_cases h3 : n % 10 < 1
        · have d3 : decide ((n : Int) % 10 < 1) = true := by simp; omega
          go_enter Tryd.func34, Tryd.ntmps34
          go_wp2
          go_ret
          exact ⟨by rw [HS.out]; rfl, Below.refl _ _⟩
        · have d3 : decide ((n : Int) % 10 < 1) = false := by simp; omega
          have d4 : decide (3 < (n : Int) % 10) = true := by simp; omega
          go_enter Tryd.func34, Tryd.ntmps34
          go_wp2
          go_ret
          exact ⟨by rw [HS.out]; rfl, Below.refl _ _⟩
      · have d1 : decide (11 ≤ (n : Int) % 100) = false := by simp; omega
        by_cases h3 : n % 10 < 1
        · have d3 : decide ((n : Int) % 10 < 1) = true := by simp; omega
          go_enter Tryd.func34, Tryd.ntmps34
          go_wp2
          go_ret
          exact ⟨by rw [HS.out]; rfl, Below.refl _ _⟩
        · have d3 : decide ((n : Int) % 10 < 1) = false := by simp; omega
          have d4 : decide (3 < (n : Int) % 10) = true := by simp; omega
          go_enter Tryd.func34, Tryd.ntmps34
          go_wp2
          go_ret
          exact ⟨by rw [HS.out]; rfl, Below.refl _ _⟩
  · have h1 : ¬ (11 ≤ n % 100 ∧ n % 100 ≤ 13) := fun e => h (.inl e)
    have h3 : n % 10 = 1 ∨ n % 10 = 2 ∨ n % 10 = 3 := by omega
    have d3 : decide ((n : Int) % 10 < 1) = false := by simp; omega
    have d4 : decide (3 < (n : Int) % 10) = false := by simp; omega
    have HS : Hid (engL n = if n % 10 = 1 then [115, 116] else if n % 10 = 2 then [110, 100] else [114, 100]) := by
      unfold engL Hid
      rw [if_neg h1]
      rcases h3 with e | e | e <;> simp [e]
    clear h
    rcases h3 with e | e | e
    all_goals
      rw [e] at HS
      have E := Lib.hid (show (n : Int) % 10 = ((n % 10 : Nat) : Int) from by omega)
      rw [e] at E
      by_cases h2 : 11 ≤ n % 100
      · have d1 : decide (11 ≤ (n : Int) % 100) = true := by simp; omega
        have d2 : decide ((n : Int) % 100 ≤ 13) = false := by simp; omega
        have e2 : (n : Int) % 10 = _ := E.out
        go_enter Tryd.func34, Tryd.ntmps34
        go_wp2
        go_ret
        exact ⟨by rw [HS.out]; rfl, below_alloc _ _⟩
      · have d1 : decide (11 ≤ (n : Int) % 100) = false := by simp; omega
        have e2 : (n : Int) % 10 = _ := E.out
        go_enter Tryd.func34, Tryd.ntmps34
        go_wp2
        go_ret
        exact ⟨by rw [HS.out]; rfl, below_alloc _ _⟩
/-- the languages, as cells -/
def langC : Array Value := #[.string ⟨#[101, 110]⟩, .string ⟨#[100, 101]⟩, .string ⟨#[102, 114]⟩, .string ⟨#[101, 115]⟩]
theorem rlangs_any (w : World) : Calls Tryd.prog 48 #[] w fun e w' => e = .returned (.slice (some ⟨w.heap.size, 0, none⟩) 4 4) ∧ w.alloc (.cells langC 9) = w' := by
  go_enter Tryd.func48, Tryd.ntmps48
  go_wp2
  go_ret
  exact ⟨rfl, rfl⟩
theorem langs_any (w : World) : Calls Tryd.prog 17 #[] w fun e w' => e = .returned (.slice (some ⟨w.heap.size, 0, none⟩) 4 4) ∧ w.alloc (.cells langC 9) = w' := by
  go_enter Tryd.func17, Tryd.ntmps17
  go_wp2
  go_ret
  exact ⟨rfl, rfl⟩
/-- the index of a language, or -1 -/
def ixL (l : List UInt8) : Int := if lang4 l < 4 then lang4 l else -1
theorem lang_get (w : World) (k : Nat) (h : k < 4) : ∃ c, (w.alloc (.cells langC 9)).cell? ⟨w.heap.size, k, none⟩ = some (.string (B c)) ∧ ∀ l, (lang4 l = k ↔ c = l) := by
  have : k = 0 ∨ k = 1 ∨ k = 2 ∨ k = 3 := by omega
  rcases this with rfl | rfl | rfl | rfl
  · refine ⟨[101, 110], by simp [langC]; rfl, fun l => ?_⟩
    constructor
    · intro h; rcases lang_cases l with rfl | rfl | rfl | rfl | ⟨_, _, _, _, h5⟩ <;> first | rfl | (exfalso; revert h; decide) | omega
    · rintro rfl; rfl
  · refine ⟨[100, 101], by simp [langC]; rfl, fun l => ?_⟩
    constructor
    · intro h; rcases lang_cases l with rfl | rfl | rfl | rfl | ⟨_, _, _, _, h5⟩ <;> first | rfl | (exfalso; revert h; decide) | omega
    · rintro rfl; rfl
  · refine ⟨[102, 114], by simp [langC]; rfl, fun l => ?_⟩
    constructor
    · intro h; rcases lang_cases l with rfl | rfl | rfl | rfl | ⟨_, _, _, _, h5⟩ <;> first | rfl | (exfalso; revert h; decide) | omega
    · rintro rfl; rfl
  · refine ⟨[101, 115], by simp [langC]; rfl, fun l => ?_⟩
    constructor
    · intro h; rcases lang_cases l with rfl | rfl | rfl | rfl | ⟨_, _, _, _, h5⟩ <;> first | rfl | (exfalso; revert h; decide) | omega
    · rintro rfl; rfl
set_option maxHeartbeats 1000000 in
theorem rindex_any (l : List UInt8) (w : World) : Calls Tryd.prog 27 #[.string (B l)] w fun e w' => e = .returned (.int .i64 (ixL l)) ∧ Below w.heap.size w w' := by
  go_enter Tryd.func27, Tryd.ntmps27
  go_wp2_with fail
  refine (rlangs_any w).mono ?_
  rintro e w1 ⟨rfl, hw⟩
  have HB : Below w.heap.size w w1 := by rw [← hw]; exact below_alloc _ _
  have HC := Lib.hid (lang_get w)
  rw [hw] at HC
  clear hw
  go_wp2
  go_loop [4] (fun i => ∃ k : Nat, k ≤ 4 ∧ i = .int .i64 k ∧ Hid (∀ j, j < k → lang4 l ≠ j)) (fun i => 4 - (intOf i).toNat)
  case atStart => exact ⟨0, by omega, rfl, fun j h => absurd h (by omega)⟩
  case round =>
    obtain ⟨k, hk, rfl, hr⟩ := hrel
    by_cases hlt : k < 4
    · obtain ⟨c, hc, he⟩ := HC.out k hlt
      have HE := Lib.hid (he l)
      clear he
      by_cases hcl : c = l
      · have HI : Hid (ixL l = k) := by unfold ixL; rw [if_pos (by rw [HE.out.2 hcl]; exact hlt), HE.out.2 hcl]; rfl
        have ee : (c == l) = true := by simp [hcl]
        clear hcl HE
        go_wp2
        go_ret
        exact ⟨ret_int (by rw [HI.out]), HB⟩
      · have ee : (c == l) = false := by simpa using hcl
        have HN : Hid (∀ j, j < k + 1 → lang4 l ≠ j) := by
          intro j hj
          by_cases e : j = k
          · rw [e]; exact fun h => hcl (HE.out.1 h)
          · exact hr.out j (by omega)
        clear hcl HE
        go_wp2
        go_round
        case rel => exact ⟨k + 1, by omega, by go_num, HN.out⟩
        case measure => simp [intOf]; omega
    · have HI : Hid (ixL l = -1) := by
        unfold ixL
        rw [if_neg]; · rfl
        intro h
        exact hr.out (lang4 l) (by omega) rfl
      go_wp2
      go_ret
      exact ⟨ret_int (by rw [HI.out]), HB⟩

end Go.Proofs.YtkndgkiglaacnaaDoor
