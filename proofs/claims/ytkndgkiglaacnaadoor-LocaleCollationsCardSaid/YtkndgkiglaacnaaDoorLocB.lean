/-
  Layer 28 (locale): what the library's variables hold; Itoa; ordinal numbers.
-/
import Derived.Test.YtkndgkiglaacnaaDoorLocA
import Derived.Test.YtkndgkiglaacnaaDoorShelf28
import Derived.Lib.LaidTab
namespace Go.Proofs.YtkndgkiglaacnaaDoor
set_option linter.unusedSimpArgs false
open Go.RowKit
set_option linter.unusedVariables false
attribute [local go_sem] B_data B_size

/-- the library's variable bytealg.MaxLen holds some int; the table of powers of ten is as it was laid -/
def GlobL (w : World) : Prop := (∃ m, w.cell? ⟨0, 0, none⟩ = some (.int .i64 m)) ∧ Lib.TabIs Tryd.prog w "internal/strconv.uint64pow10" .u64 Lib.pow10Tab
theorem tab_block {w : World} (h : Lib.TabIs Tryd.prog w "internal/strconv.uint64pow10" .u64 Lib.pow10Tab) : ∃ o, w.heap[1]? = some o := by
  unfold Lib.TabIs World.var? at h
  rw [show Tryd.prog.globalNamed "internal/strconv.uint64pow10" = some 1 from by kernel_rfl] at h
  simp only [Option.bind_some] at h
  cases hh : w.heap[1]? with
  | none => rw [hh] at h; cases h
  | some o => exact ⟨o, rfl⟩
theorem tab_keep {w w' : World} (h : Lib.TabIs Tryd.prog w "internal/strconv.uint64pow10" .u64 Lib.pow10Tab) (e : w'.heap[1]? = w.heap[1]?) : Lib.TabIs Tryd.prog w' "internal/strconv.uint64pow10" .u64 Lib.pow10Tab := by
  unfold Lib.TabIs World.var? at h ⊢
  rw [show Tryd.prog.globalNamed "internal/strconv.uint64pow10" = some 1 from by kernel_rfl] at h ⊢
  simp only [Option.bind_some] at h ⊢
  rw [e]; exact h
theorem GlobL.below {w w' : World} (h : GlobL w) (hb : Below w.heap.size w w') : GlobL w' := by
  obtain ⟨⟨m, hm⟩, ht⟩ := h
  refine ⟨⟨m, ?_⟩, tab_keep ht ?_⟩
  · rw [hb.cell (p := ⟨0, 0, none⟩) (World.block_lt_of_cell? w _ hm)]; exact hm
  · obtain ⟨o, ho⟩ := tab_block ht
    exact hb.block _ (Array.getElem?_eq_some_iff.1 ho).1
theorem below_grow (w : World) (os : Array Obj) (k : Nat) : Below w.heap.size w (Go.Sort.grow (w.drewN k) os) := by
  refine ⟨rfl, rfl, rfl, ?_, fun i hi => ?_⟩
  · show w.heap.size ≤ (w.heap ++ os).size
    simp
  · show (w.heap ++ os)[i]? = w.heap[i]?
    exact Array.getElem?_append_left hi

theorem itoa_any (n : Nat) (w : World) (hn : n ≤ 1000000) (hG : GlobL w) : Calls Tryd.prog 32 #[.int .i64 n] w fun e w' => e = .returned (.string (B (Lib.decDigits n))) ∧ Below w.heap.size w w' := by
  refine (Tryd.strconv_Itoa n (by omega) (by omega) w hG.2).mono ?_
  rintro e w' ⟨rfl, k, os, rfl⟩
  refine ⟨?_, below_grow w os k⟩
  unfold Lib.itoa
  rw [if_neg (by omega), Int.toNat_natCast]; rfl

/-- the ending of an ordinal number -/
def ordEnd (l : List UInt8) (n : Nat) : List UInt8 := if lang4 l = 0 then engL n else if lang4 l = 1 then [46] else if lang4 l = 2 then (if n = 1 then [101, 114] else [101]) else [46, 194, 186]
/-- an ordinal number, and the error -/
def ordS (l : List UInt8) (n : Int) : List UInt8 := if knownB l = false then [] else if n < 1 ∨ 9999 < n then [] else Lib.decDigits n.toNat ++ ordEnd l n.toNat
def ordE (l : List UInt8) (n : Int) : Int := if knownB l = false then 6 else if n < 1 ∨ 9999 < n then 9 else 0
def OrdRet (l : List UInt8) (n : Int) : Ending := .returned (.tuple #[.string (B (ordS l n)), .int .i64 (ordE l n)])
theorem ord_none {l : List UInt8} {n : Int} (h : knownB l = false) : OrdRet l n = .returned (.tuple #[.string ⟨#[]⟩, .int .i64 6]) := by unfold OrdRet ordS ordE; rw [if_pos h, if_pos h]; rfl
theorem ord_range {l : List UInt8} {n : Int} (h : knownB l = true) (hn : n < 1 ∨ 9999 < n) : OrdRet l n = .returned (.tuple #[.string ⟨#[]⟩, .int .i64 9]) := by
  unfold OrdRet ordS ordE; rw [h, if_neg (by simp), if_pos hn, if_neg (by simp), if_pos hn]; rfl
theorem ord_some {l : List UInt8} {n : Nat} (h : knownB l = true) (h1 : 1 ≤ n) (h2 : n ≤ 9999) : OrdRet l n = .returned (.tuple #[.string (B (Lib.decDigits n ++ ordEnd l n)), .int .i64 0]) := by
  unfold OrdRet ordS ordE; rw [h, if_neg (by simp), if_neg (by omega), if_neg (by simp), if_neg (by omega), Int.toNat_natCast]
theorem eng_len (n : Nat) : (engL n).length = 2 := by
  unfold engL; repeat (first | rfl | split)
theorem known_no {l : List UInt8} (h : lang4 l = 4) : knownB l = false := by unfold knownB; rw [h]; rfl
theorem ret_two_str {a b : ByteArray} {k : Int} (h : a = b) : Ending.returned (.tuple #[.string a, .int .i64 k]) = .returned (.tuple #[.string b, .int .i64 k]) := by rw [h]


set_option maxHeartbeats 2000000 in
theorem ordinal_no (l : List UInt8) (n : Int) (w : World) (h : lang4 l = 4) : Calls Tryd.prog 13 #[.string (B l), .int .i64 n] w fun e w' => e = OrdRet l n ∧ Below w.heap.size w w' := by
  have C := known_any l w
  rw [known_no h] at C
  have HC := Lib.hid C
  rw [ord_none (known_no h)]
  clear C h
  go_enter Tryd.func13, Tryd.ntmps13
  go_wp2_with fail
  refine HC.out.mono ?_
  rintro e w1 ⟨rfl, rfl⟩
  go_wp2
  go_ret2
  exact ⟨rfl, Below.refl _ _⟩
set_option maxHeartbeats 2000000 in
theorem rordinal_no (l : List UInt8) (n : Int) (w : World) (h : lang4 l = 4) : Calls Tryd.prog 14 #[.string (B l), .int .i64 n] w fun e w' => e = OrdRet l n ∧ Below w.heap.size w w' := by
  have C := rindex_any l w
  rw [show ixL l = -1 from by unfold ixL; rw [h]; rfl] at C
  have HC := Lib.hid C
  rw [ord_none (known_no h)]
  clear C h
  go_enter Tryd.func14, Tryd.ntmps14
  go_wp2_with fail
  refine HC.out.mono ?_
  rintro e w1 ⟨rfl, hb⟩
  go_wp2
  go_ret2
  exact ⟨rfl, hb⟩

set_option maxHeartbeats 2000000 in
theorem ordinal_en (n : Int) (w : World) (hG : GlobL w) : Calls Tryd.prog 13 #[.string (B [101, 110]), .int .i64 n] w fun e w' => e = OrdRet [101, 110] n ∧ Below w.heap.size w w' := by
  have C := known_any [101, 110] w
  rw [show knownB [101, 110] = true from rfl] at C
  have HC := Lib.hid C
  clear C
  by_cases hn : n < 1 ∨ 9999 < n
  · rw [ord_range rfl hn]
    by_cases h1 : n < 1
    · have d1 : decide (n < 1) = true := by simpa using h1
      go_enter Tryd.func13, Tryd.ntmps13
      go_wp2_with fail
      refine HC.out.mono ?_
      rintro e w1 ⟨rfl, rfl⟩
      go_wp2
      go_ret2
      exact ⟨rfl, Below.refl _ _⟩
    · have d1 : decide (n < 1) = false := by simpa using h1
      have d2 : decide (9999 < n) = true := by simp; omega
      go_enter Tryd.func13, Tryd.ntmps13
      go_wp2_with fail
      refine HC.out.mono ?_
      rintro e w1 ⟨rfl, rfl⟩
      go_wp2
      go_ret2
      exact ⟨rfl, Below.refl _ _⟩
  · obtain ⟨m, rfl⟩ : ∃ m : Nat, n = m := ⟨n.toNat, by omega⟩
    have h1 : 1 ≤ m := by omega
    have h2 : m ≤ 9999 := by omega
    rw [ord_some rfl h1 h2]
    have d1 : decide ((m : Int) < 1) = false := by simp; omega
    have d2 : decide (9999 < (m : Int)) = false := by simp; omega
    have HI := Lib.hid (fun w (h : GlobL w) => itoa_any m w (by omega) h)
    have hl := dec_len m
    clear hn
    have HE : Hid (ordEnd [101, 110] m = engL m) := by unfold ordEnd; rw [show lang4 [101, 110] = 0 from rfl]; simp [Hid]
    go_enter Tryd.func13, Tryd.ntmps13
    go_wp2_with fail
    refine HC.out.mono ?_
    rintro e w1 ⟨rfl, rfl⟩
    go_wp2_with fail
    refine (english_any m w (by omega)).mono ?_
    rintro e w1 ⟨rfl, rfl⟩
    have hel := eng_len m
    generalize engL m = eg at *
    go_wp2_with fail
    refine (HI.out _ hG).mono ?_
    rintro e w2 ⟨rfl, hb2⟩
    go_wp2
    go_ret2
    exact ⟨by rw [HE.out]; exact ret_two_str (B_cat _ eg), hb2⟩

set_option maxHeartbeats 2000000 in
theorem ordinal_de (n : Int) (w : World) (hG : GlobL w) : Calls Tryd.prog 13 #[.string (B [100, 101]), .int .i64 n] w fun e w' => e = OrdRet [100, 101] n ∧ Below w.heap.size w w' := by
  have C := known_any [100, 101] w
  rw [show knownB [100, 101] = true from rfl] at C
  have HC := Lib.hid C
  clear C
  by_cases hn : n < 1 ∨ 9999 < n
  · rw [ord_range rfl hn]
    by_cases h1 : n < 1
    · have d1 : decide (n < 1) = true := by simpa using h1
      go_enter Tryd.func13, Tryd.ntmps13
      go_wp2_with fail
      refine HC.out.mono ?_
      rintro e w1 ⟨rfl, rfl⟩
      go_wp2
      go_ret2
      exact ⟨rfl, Below.refl _ _⟩
    · have d1 : decide (n < 1) = false := by simpa using h1
      have d2 : decide (9999 < n) = true := by simp; omega
      go_enter Tryd.func13, Tryd.ntmps13
      go_wp2_with fail
      refine HC.out.mono ?_
      rintro e w1 ⟨rfl, rfl⟩
      go_wp2
      go_ret2
      exact ⟨rfl, Below.refl _ _⟩
  · obtain ⟨m, rfl⟩ : ∃ m : Nat, n = m := ⟨n.toNat, by omega⟩
    have h1 : 1 ≤ m := by omega
    have h2 : m ≤ 9999 := by omega
    rw [ord_some rfl h1 h2]
    have d1 : decide ((m : Int) < 1) = false := by simp; omega
    have d2 : decide (9999 < (m : Int)) = false := by simp; omega
    have HI := Lib.hid (fun w (h : GlobL w) => itoa_any m w (by omega) h)
    have hl := dec_len m
    clear hn
    have HE : Hid (ordEnd [100, 101] m = [46]) := by unfold ordEnd; rw [show lang4 [100, 101] = 1 from rfl]; simp [Hid]
    go_enter Tryd.func13, Tryd.ntmps13
    go_wp2_with fail
    refine HC.out.mono ?_
    rintro e w1 ⟨rfl, rfl⟩
    go_wp2_with fail
    refine (HI.out _ hG).mono ?_
    rintro e w2 ⟨rfl, hb2⟩
    go_wp2
    go_ret2
    exact ⟨by rw [HE.out]; exact ret_two_str (B_cat _ [46]), hb2⟩

set_option maxHeartbeats 2000000 in
theorem ordinal_fr (n : Int) (w : World) (hG : GlobL w) : Calls Tryd.prog 13 #[.string (B [102, 114]), .int .i64 n] w fun e w' => e = OrdRet [102, 114] n ∧ Below w.heap.size w w' := by
  have C := known_any [102, 114] w
  rw [show knownB [102, 114] = true from rfl] at C
  have HC := Lib.hid C
  clear C
  by_cases hn : n < 1 ∨ 9999 < n
  · rw [ord_range rfl hn]
    by_cases h1 : n < 1
    · have d1 : decide (n < 1) = true := by simpa using h1
      go_enter Tryd.func13, Tryd.ntmps13
      go_wp2_with fail
      refine HC.out.mono ?_
      rintro e w1 ⟨rfl, rfl⟩
      go_wp2
      go_ret2
      exact ⟨rfl, Below.refl _ _⟩
    · have d1 : decide (n < 1) = false := by simpa using h1
      have d2 : decide (9999 < n) = true := by simp; omega
      go_enter Tryd.func13, Tryd.ntmps13
      go_wp2_with fail
      refine HC.out.mono ?_
      rintro e w1 ⟨rfl, rfl⟩
      go_wp2
      go_ret2
      exact ⟨rfl, Below.refl _ _⟩
  · obtain ⟨m, rfl⟩ : ∃ m : Nat, n = m := ⟨n.toNat, by omega⟩
    have h1 : 1 ≤ m := by omega
    have h2 : m ≤ 9999 := by omega
    rw [ord_some rfl h1 h2]
    have d1 : decide ((m : Int) < 1) = false := by simp; omega
    have d2 : decide (9999 < (m : Int)) = false := by simp; omega
    have HI := Lib.hid (fun w (h : GlobL w) => itoa_any m w (by omega) h)
    have hl := dec_len m
    clear hn
    by_cases hm : m = 1
    · have HE : Hid (ordEnd [102, 114] m = [101, 114]) := by unfold ordEnd; rw [show lang4 [102, 114] = 2 from rfl]; simp [hm, Hid]
      have e1 : ((m : Int) == 1) = true := by simp [hm]
      clear hm
      go_enter Tryd.func13, Tryd.ntmps13
      go_wp2_with fail
      refine HC.out.mono ?_
      rintro e w1 ⟨rfl, rfl⟩
      go_wp2_with fail
      refine (HI.out _ hG).mono ?_
      rintro e w2 ⟨rfl, hb2⟩
      go_wp2
      go_ret2
      exact ⟨by rw [HE.out]; exact ret_two_str (B_cat _ [101, 114]), hb2⟩
    · have HE : Hid (ordEnd [102, 114] m = [101]) := by unfold ordEnd; rw [show lang4 [102, 114] = 2 from rfl]; simp [hm, Hid]
      have e1 : ((m : Int) == 1) = false := by simp; omega
      clear hm
      go_enter Tryd.func13, Tryd.ntmps13
      go_wp2_with fail
      refine HC.out.mono ?_
      rintro e w1 ⟨rfl, rfl⟩
      go_wp2_with fail
      refine (HI.out _ hG).mono ?_
      rintro e w2 ⟨rfl, hb2⟩
      go_wp2
      go_ret2
      exact ⟨by rw [HE.out]; exact ret_two_str (B_cat _ [101]), hb2⟩

set_option maxHeartbeats 2000000 in
theorem ordinal_es (n : Int) (w : World) (hG : GlobL w) : Calls Tryd.prog 13 #[.string (B [101, 115]), .int .i64 n] w fun e w' => e = OrdRet [101, 115] n ∧ Below w.heap.size w w' := by
  have C := known_any [101, 115] w
  rw [show knownB [101, 115] = true from rfl] at C
  have HC := Lib.hid C
  clear C
  by_cases hn : n < 1 ∨ 9999 < n
  · rw [ord_range rfl hn]
    by_cases h1 : n < 1
    · have d1 : decide (n < 1) = true := by simpa using h1
      go_enter Tryd.func13, Tryd.ntmps13
      go_wp2_with fail
      refine HC.out.mono ?_
      rintro e w1 ⟨rfl, rfl⟩
      go_wp2
      go_ret2
      exact ⟨rfl, Below.refl _ _⟩
    · have d1 : decide (n < 1) = false := by simpa using h1
      have d2 : decide (9999 < n) = true := by simp; omega
      go_enter Tryd.func13, Tryd.ntmps13
      go_wp2_with fail
      refine HC.out.mono ?_
      rintro e w1 ⟨rfl, rfl⟩
      go_wp2
      go_ret2
      exact ⟨rfl, Below.refl _ _⟩
  · obtain ⟨m, rfl⟩ : ∃ m : Nat, n = m := ⟨n.toNat, by omega⟩
    have h1 : 1 ≤ m := by omega
    have h2 : m ≤ 9999 := by omega
    rw [ord_some rfl h1 h2]
    have d1 : decide ((m : Int) < 1) = false := by simp; omega
    have d2 : decide (9999 < (m : Int)) = false := by simp; omega
    have HI := Lib.hid (fun w (h : GlobL w) => itoa_any m w (by omega) h)
    have hl := dec_len m
    clear hn
    have HE : Hid (ordEnd [101, 115] m = [46, 194, 186]) := by unfold ordEnd; rw [show lang4 [101, 115] = 3 from rfl]; simp [Hid]
    go_enter Tryd.func13, Tryd.ntmps13
    go_wp2_with fail
    refine HC.out.mono ?_
    rintro e w1 ⟨rfl, rfl⟩
    go_wp2_with fail
    refine (HI.out _ hG).mono ?_
    rintro e w2 ⟨rfl, hb2⟩
    go_wp2
    go_ret2
    exact ⟨by rw [HE.out]; exact ret_two_str (B_cat _ [46, 194, 186]), hb2⟩

set_option maxHeartbeats 2000000 in
theorem rordinal_en (n : Int) (w : World) : Calls Tryd.prog 14 #[.string (B [101, 110]), .int .i64 n] w fun e w' => e = OrdRet [101, 110] n ∧ Below w.heap.size w w' := by
  have C := rindex_any [101, 110] w
  rw [show ixL [101, 110] = 0 from rfl] at C
  have HC := Lib.hid C
  clear C
  by_cases hn : n < 1 ∨ 9999 < n
  · rw [ord_range rfl hn]
    by_cases h1 : n < 1
    · have d1 : decide (n < 1) = true := by simpa using h1
      go_enter Tryd.func14, Tryd.ntmps14
      go_wp2_with fail
      refine HC.out.mono ?_
      rintro e w1 ⟨rfl, hb⟩
      go_wp2
      go_ret2
      exact ⟨rfl, hb⟩
    · have d1 : decide (n < 1) = false := by simpa using h1
      have d2 : decide (9999 < n) = true := by simp; omega
      go_enter Tryd.func14, Tryd.ntmps14
      go_wp2_with fail
      refine HC.out.mono ?_
      rintro e w1 ⟨rfl, hb⟩
      go_wp2
      go_ret2
      exact ⟨rfl, hb⟩
  · obtain ⟨m, rfl⟩ : ∃ m : Nat, n = m := ⟨n.toNat, by omega⟩
    have h1 : 1 ≤ m := by omega
    have h2 : m ≤ 9999 := by omega
    rw [ord_some rfl h1 h2]
    have d1 : decide ((m : Int) < 1) = false := by simp; omega
    have d2 : decide (9999 < (m : Int)) = false := by simp; omega
    have hl := dec_len m
    clear hn
    have HE : Hid (ordEnd [101, 110] m = engL m) := by unfold ordEnd; rw [show lang4 [101, 110] = 0 from rfl]; simp [Hid]
    go_enter Tryd.func14, Tryd.ntmps14
    go_wp2_with fail
    refine HC.out.mono ?_
    rintro e w1 ⟨rfl, hb⟩
    go_wp2_with fail
    refine (num_any m w1 (by omega)).mono ?_
    rintro e w2 ⟨rfl, rfl⟩
    go_wp2_with fail
    refine (renglish_any m w1 (by omega)).mono ?_
    rintro e w3 ⟨rfl, hb3⟩
    have hel := eng_len m
    generalize engL m = eg at *
    go_wp2
    go_ret2
    exact ⟨by rw [HE.out]; exact ret_two_str (B_cat _ eg), hb.trans (hb3.mono hb.size)⟩

set_option maxHeartbeats 2000000 in
theorem rordinal_de (n : Int) (w : World) : Calls Tryd.prog 14 #[.string (B [100, 101]), .int .i64 n] w fun e w' => e = OrdRet [100, 101] n ∧ Below w.heap.size w w' := by
  have C := rindex_any [100, 101] w
  rw [show ixL [100, 101] = 1 from rfl] at C
  have HC := Lib.hid C
  clear C
  by_cases hn : n < 1 ∨ 9999 < n
  · rw [ord_range rfl hn]
    by_cases h1 : n < 1
    · have d1 : decide (n < 1) = true := by simpa using h1
      go_enter Tryd.func14, Tryd.ntmps14
      go_wp2_with fail
      refine HC.out.mono ?_
      rintro e w1 ⟨rfl, hb⟩
      go_wp2
      go_ret2
      exact ⟨rfl, hb⟩
    · have d1 : decide (n < 1) = false := by simpa using h1
      have d2 : decide (9999 < n) = true := by simp; omega
      go_enter Tryd.func14, Tryd.ntmps14
      go_wp2_with fail
      refine HC.out.mono ?_
      rintro e w1 ⟨rfl, hb⟩
      go_wp2
      go_ret2
      exact ⟨rfl, hb⟩
  · obtain ⟨m, rfl⟩ : ∃ m : Nat, n = m := ⟨n.toNat, by omega⟩
    have h1 : 1 ≤ m := by omega
    have h2 : m ≤ 9999 := by omega
    rw [ord_some rfl h1 h2]
    have d1 : decide ((m : Int) < 1) = false := by simp; omega
    have d2 : decide (9999 < (m : Int)) = false := by simp; omega
    have hl := dec_len m
    clear hn
    have HE : Hid (ordEnd [100, 101] m = [46]) := by unfold ordEnd; rw [show lang4 [100, 101] = 1 from rfl]; simp [Hid]
    go_enter Tryd.func14, Tryd.ntmps14
    go_wp2_with fail
    refine HC.out.mono ?_
    rintro e w1 ⟨rfl, hb⟩
    go_wp2_with fail
    refine (num_any m w1 (by omega)).mono ?_
    rintro e w2 ⟨rfl, rfl⟩
    go_wp2
    go_ret2
    exact ⟨by rw [HE.out]; exact ret_two_str (B_cat _ [46]), hb⟩

set_option maxHeartbeats 2000000 in
theorem rordinal_fr (n : Int) (w : World) : Calls Tryd.prog 14 #[.string (B [102, 114]), .int .i64 n] w fun e w' => e = OrdRet [102, 114] n ∧ Below w.heap.size w w' := by
  have C := rindex_any [102, 114] w
  rw [show ixL [102, 114] = 2 from rfl] at C
  have HC := Lib.hid C
  clear C
  by_cases hn : n < 1 ∨ 9999 < n
  · rw [ord_range rfl hn]
    by_cases h1 : n < 1
    · have d1 : decide (n < 1) = true := by simpa using h1
      go_enter Tryd.func14, Tryd.ntmps14
      go_wp2_with fail
      refine HC.out.mono ?_
      rintro e w1 ⟨rfl, hb⟩
      go_wp2
      go_ret2
      exact ⟨rfl, hb⟩
    · have d1 : decide (n < 1) = false := by simpa using h1
      have d2 : decide (9999 < n) = true := by simp; omega
      go_enter Tryd.func14, Tryd.ntmps14
      go_wp2_with fail
      refine HC.out.mono ?_
      rintro e w1 ⟨rfl, hb⟩
      go_wp2
      go_ret2
      exact ⟨rfl, hb⟩
  · obtain ⟨m, rfl⟩ : ∃ m : Nat, n = m := ⟨n.toNat, by omega⟩
    have h1 : 1 ≤ m := by omega
    have h2 : m ≤ 9999 := by omega
    rw [ord_some rfl h1 h2]
    have d1 : decide ((m : Int) < 1) = false := by simp; omega
    have d2 : decide (9999 < (m : Int)) = false := by simp; omega
    have hl := dec_len m
    clear hn
    by_cases hm : m = 1
    · have HE : Hid (ordEnd [102, 114] m = [101, 114]) := by unfold ordEnd; rw [show lang4 [102, 114] = 2 from rfl]; simp [hm, Hid]
      have e1 : ((m : Int) == 1) = true := by simp [hm]
      have HD : Hid (Lib.decDigits m = [49]) := by rw [hm]; exact dec_small 1 (by omega)
      clear hm
      go_enter Tryd.func14, Tryd.ntmps14
      go_wp2_with fail
      refine HC.out.mono ?_
      rintro e w1 ⟨rfl, hb⟩
      go_wp2
      go_ret2
      exact ⟨by rw [HE.out, HD.out]; rfl, hb⟩
    · have HE : Hid (ordEnd [102, 114] m = [101]) := by unfold ordEnd; rw [show lang4 [102, 114] = 2 from rfl]; simp [hm, Hid]
      have e1 : ((m : Int) == 1) = false := by simp; omega
      clear hm
      go_enter Tryd.func14, Tryd.ntmps14
      go_wp2_with fail
      refine HC.out.mono ?_
      rintro e w1 ⟨rfl, hb⟩
      go_wp2_with fail
      refine (num_any m w1 (by omega)).mono ?_
      rintro e w2 ⟨rfl, rfl⟩
      go_wp2
      go_ret2
      exact ⟨by rw [HE.out]; exact ret_two_str (B_cat _ [101]), hb⟩

set_option maxHeartbeats 2000000 in
theorem rordinal_es (n : Int) (w : World) : Calls Tryd.prog 14 #[.string (B [101, 115]), .int .i64 n] w fun e w' => e = OrdRet [101, 115] n ∧ Below w.heap.size w w' := by
  have C := rindex_any [101, 115] w
  rw [show ixL [101, 115] = 3 from rfl] at C
  have HC := Lib.hid C
  clear C
  by_cases hn : n < 1 ∨ 9999 < n
  · rw [ord_range rfl hn]
    by_cases h1 : n < 1
    · have d1 : decide (n < 1) = true := by simpa using h1
      go_enter Tryd.func14, Tryd.ntmps14
      go_wp2_with fail
      refine HC.out.mono ?_
      rintro e w1 ⟨rfl, hb⟩
      go_wp2
      go_ret2
      exact ⟨rfl, hb⟩
    · have d1 : decide (n < 1) = false := by simpa using h1
      have d2 : decide (9999 < n) = true := by simp; omega
      go_enter Tryd.func14, Tryd.ntmps14
      go_wp2_with fail
      refine HC.out.mono ?_
      rintro e w1 ⟨rfl, hb⟩
      go_wp2
      go_ret2
      exact ⟨rfl, hb⟩
  · obtain ⟨m, rfl⟩ : ∃ m : Nat, n = m := ⟨n.toNat, by omega⟩
    have h1 : 1 ≤ m := by omega
    have h2 : m ≤ 9999 := by omega
    rw [ord_some rfl h1 h2]
    have d1 : decide ((m : Int) < 1) = false := by simp; omega
    have d2 : decide (9999 < (m : Int)) = false := by simp; omega
    have hl := dec_len m
    clear hn
    have HE : Hid (ordEnd [101, 115] m = [46, 194, 186]) := by unfold ordEnd; rw [show lang4 [101, 115] = 3 from rfl]; simp [Hid]
    go_enter Tryd.func14, Tryd.ntmps14
    go_wp2_with fail
    refine HC.out.mono ?_
    rintro e w1 ⟨rfl, hb⟩
    go_wp2_with fail
    refine (num_any m w1 (by omega)).mono ?_
    rintro e w2 ⟨rfl, rfl⟩
    go_wp2
    go_ret2
    exact ⟨by rw [HE.out]; exact ret_two_str (B_cat _ [46, 194, 186]), hb⟩

theorem ordinal_any (l : List UInt8) (n : Int) (w : World) (hG : GlobL w) : Calls Tryd.prog 13 #[.string (B l), .int .i64 n] w fun e w' => e = OrdRet l n ∧ Below w.heap.size w w' := by
  rcases lang_cases l with rfl | rfl | rfl | rfl | ⟨_, _, _, _, h⟩
  · exact ordinal_en n w hG
  · exact ordinal_de n w hG
  · exact ordinal_fr n w hG
  · exact ordinal_es n w hG
  · exact ordinal_no l n w h
theorem rordinal_any (l : List UInt8) (n : Int) (w : World) : Calls Tryd.prog 14 #[.string (B l), .int .i64 n] w fun e w' => e = OrdRet l n ∧ Below w.heap.size w w' := by
  rcases lang_cases l with rfl | rfl | rfl | rfl | ⟨_, _, _, _, h⟩
  · exact rordinal_en n w
  · exact rordinal_de n w
  · exact rordinal_fr n w
  · exact rordinal_es n w
  · exact rordinal_no l n w h
end Go.Proofs.YtkndgkiglaacnaaDoor
