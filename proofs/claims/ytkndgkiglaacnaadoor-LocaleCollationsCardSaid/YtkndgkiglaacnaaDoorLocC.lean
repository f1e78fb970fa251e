/-
  Layer 28 (locale): months, days, dates.
-/
import Derived.Test.YtkndgkiglaacnaaDoorLocB
namespace Go.Proofs.YtkndgkiglaacnaaDoor
set_option linter.unusedSimpArgs false
open Go.RowKit
set_option linter.unusedVariables false
attribute [local go_sem] B_data B_size

def mon0 : Array Value := #[.string ⟨#[74, 97, 110, 117, 97, 114, 121]⟩, .string ⟨#[70, 101, 98, 114, 117, 97, 114, 121]⟩, .string ⟨#[77, 97, 114, 99, 104]⟩, .string ⟨#[65, 112, 114, 105, 108]⟩, .string ⟨#[77, 97, 121]⟩, .string ⟨#[74, 117, 110, 101]⟩, .string ⟨#[74, 117, 108, 121]⟩, .string ⟨#[65, 117, 103, 117, 115, 116]⟩, .string ⟨#[83, 101, 112, 116, 101, 109, 98, 101, 114]⟩, .string ⟨#[79, 99, 116, 111, 98, 101, 114]⟩, .string ⟨#[78, 111, 118, 101, 109, 98, 101, 114]⟩, .string ⟨#[68, 101, 99, 101, 109, 98, 101, 114]⟩]
def mon1 : Array Value := #[.string ⟨#[74, 97, 110, 117, 97, 114]⟩, .string ⟨#[70, 101, 98, 114, 117, 97, 114]⟩, .string ⟨#[77, 195, 164, 114, 122]⟩, .string ⟨#[65, 112, 114, 105, 108]⟩, .string ⟨#[77, 97, 105]⟩, .string ⟨#[74, 117, 110, 105]⟩, .string ⟨#[74, 117, 108, 105]⟩, .string ⟨#[65, 117, 103, 117, 115, 116]⟩, .string ⟨#[83, 101, 112, 116, 101, 109, 98, 101, 114]⟩, .string ⟨#[79, 107, 116, 111, 98, 101, 114]⟩, .string ⟨#[78, 111, 118, 101, 109, 98, 101, 114]⟩, .string ⟨#[68, 101, 122, 101, 109, 98, 101, 114]⟩]
def mon2 : Array Value := #[.string ⟨#[106, 97, 110, 118, 105, 101, 114]⟩, .string ⟨#[102, 195, 169, 118, 114, 105, 101, 114]⟩, .string ⟨#[109, 97, 114, 115]⟩, .string ⟨#[97, 118, 114, 105, 108]⟩, .string ⟨#[109, 97, 105]⟩, .string ⟨#[106, 117, 105, 110]⟩, .string ⟨#[106, 117, 105, 108, 108, 101, 116]⟩, .string ⟨#[97, 111, 195, 187, 116]⟩, .string ⟨#[115, 101, 112, 116, 101, 109, 98, 114, 101]⟩, .string ⟨#[111, 99, 116, 111, 98, 114, 101]⟩, .string ⟨#[110, 111, 118, 101, 109, 98, 114, 101]⟩, .string ⟨#[100, 195, 169, 99, 101, 109, 98, 114, 101]⟩]
def mon3 : Array Value := #[.string ⟨#[101, 110, 101, 114, 111]⟩, .string ⟨#[102, 101, 98, 114, 101, 114, 111]⟩, .string ⟨#[109, 97, 114, 122, 111]⟩, .string ⟨#[97, 98, 114, 105, 108]⟩, .string ⟨#[109, 97, 121, 111]⟩, .string ⟨#[106, 117, 110, 105, 111]⟩, .string ⟨#[106, 117, 108, 105, 111]⟩, .string ⟨#[97, 103, 111, 115, 116, 111]⟩, .string ⟨#[115, 101, 112, 116, 105, 101, 109, 98, 114, 101]⟩, .string ⟨#[111, 99, 116, 117, 98, 114, 101]⟩, .string ⟨#[110, 111, 118, 105, 101, 109, 98, 114, 101]⟩, .string ⟨#[100, 105, 99, 105, 101, 109, 98, 114, 101]⟩]
def monA : Nat → Array Value | 0 => mon0 | 1 => mon1 | 2 => mon2 | _ => mon3
def monT : Nat → List (List UInt8)
  | 0 => [[74, 97, 110, 117, 97, 114, 121], [70, 101, 98, 114, 117, 97, 114, 121], [77, 97, 114, 99, 104], [65, 112, 114, 105, 108], [77, 97, 121], [74, 117, 110, 101], [74, 117, 108, 121], [65, 117, 103, 117, 115, 116], [83, 101, 112, 116, 101, 109, 98, 101, 114], [79, 99, 116, 111, 98, 101, 114], [78, 111, 118, 101, 109, 98, 101, 114], [68, 101, 99, 101, 109, 98, 101, 114]]
  | 1 => [[74, 97, 110, 117, 97, 114], [70, 101, 98, 114, 117, 97, 114], [77, 195, 164, 114, 122], [65, 112, 114, 105, 108], [77, 97, 105], [74, 117, 110, 105], [74, 117, 108, 105], [65, 117, 103, 117, 115, 116], [83, 101, 112, 116, 101, 109, 98, 101, 114], [79, 107, 116, 111, 98, 101, 114], [78, 111, 118, 101, 109, 98, 101, 114], [68, 101, 122, 101, 109, 98, 101, 114]]
  | 2 => [[106, 97, 110, 118, 105, 101, 114], [102, 195, 169, 118, 114, 105, 101, 114], [109, 97, 114, 115], [97, 118, 114, 105, 108], [109, 97, 105], [106, 117, 105, 110], [106, 117, 105, 108, 108, 101, 116], [97, 111, 195, 187, 116], [115, 101, 112, 116, 101, 109, 98, 114, 101], [111, 99, 116, 111, 98, 114, 101], [110, 111, 118, 101, 109, 98, 114, 101], [100, 195, 169, 99, 101, 109, 98, 114, 101]]
  | _ => [[101, 110, 101, 114, 111], [102, 101, 98, 114, 101, 114, 111], [109, 97, 114, 122, 111], [97, 98, 114, 105, 108], [109, 97, 121, 111], [106, 117, 110, 105, 111], [106, 117, 108, 105, 111], [97, 103, 111, 115, 116, 111], [115, 101, 112, 116, 105, 101, 109, 98, 114, 101], [111, 99, 116, 117, 98, 114, 101], [110, 111, 118, 105, 101, 109, 98, 114, 101], [100, 105, 99, 105, 101, 109, 98, 114, 101]]
/-- the name of a month -/
def monL (i m : Nat) : List UInt8 := (monT i).getD (m - 1) []
set_option maxRecDepth 100000 in
theorem mon_len (i m : Nat) (hi : i < 4) (h1 : 1 ≤ m) (h2 : m ≤ 12) : (monL i m).length ≤ 20 := by
  have a : i = 0 ∨ i = 1 ∨ i = 2 ∨ i = 3 := by omega
  have b : m = 1 ∨ m = 2 ∨ m = 3 ∨ m = 4 ∨ m = 5 ∨ m = 6 ∨ m = 7 ∨ m = 8 ∨ m = 9 ∨ m = 10 ∨ m = 11 ∨ m = 12 := by omega
  rcases a with rfl | rfl | rfl | rfl <;> rcases b with rfl | rfl | rfl | rfl | rfl | rfl | rfl | rfl | rfl | rfl | rfl | rfl <;> decide
set_option maxRecDepth 100000 in
theorem mon_ix (i m : Nat) (hi : i < 4) (h1 : 1 ≤ m) (h2 : m ≤ 12) : ∀ w : World, (Instr.index 57 (.agg (monA i)) (.int .i64 ((m : Int) - 1))).run Tryd.prog w = .ok (.string (B (monL i m))) w := by
  have a : i = 0 ∨ i = 1 ∨ i = 2 ∨ i = 3 := by omega
  have b : m = 1 ∨ m = 2 ∨ m = 3 ∨ m = 4 ∨ m = 5 ∨ m = 6 ∨ m = 7 ∨ m = 8 ∨ m = 9 ∨ m = 10 ∨ m = 11 ∨ m = 12 := by omega
  rcases a with rfl | rfl | rfl | rfl <;> rcases b with rfl | rfl | rfl | rfl | rfl | rfl | rfl | rfl | rfl | rfl | rfl | rfl <;> exact fun w => by kernel_rfl
set_option maxRecDepth 100000 in
theorem mon_cell (i m : Nat) (hi : i < 4) (h1 : 1 ≤ m) (h2 : m ≤ 12) (w : World) : (w.alloc (.cells (monA i) 9)).cell? ⟨w.heap.size, m - 1, none⟩ = some (.string (B (monL i m))) := by
  rw [cell_of_row _ w.heap.size (m - 1) (monA i) 9 (0, 0) (heap_alloc_new w _)]
  have a : i = 0 ∨ i = 1 ∨ i = 2 ∨ i = 3 := by omega
  have b : m = 1 ∨ m = 2 ∨ m = 3 ∨ m = 4 ∨ m = 5 ∨ m = 6 ∨ m = 7 ∨ m = 8 ∨ m = 9 ∨ m = 10 ∨ m = 11 ∨ m = 12 := by omega
  rcases a with rfl | rfl | rfl | rfl <;> rcases b with rfl | rfl | rfl | rfl | rfl | rfl | rfl | rfl | rfl | rfl | rfl | rfl <;> rfl
/-- how many days a month has -/
def leapB (y : Nat) : Bool := (y % 4 == 0 && y % 100 != 0) || y % 400 == 0
def daysL (y m : Nat) : Nat := if m = 4 ∨ m = 6 ∨ m = 9 ∨ m = 11 then 30 else if m = 2 then (if leapB y = true then 29 else 28) else 31

set_option maxHeartbeats 2000000 in
theorem days_any (y m : Nat) (w : World) (hy : y ≤ 9999) (h1 : 1 ≤ m) (h2 : m ≤ 12) : Calls Tryd.prog 35 #[.int .i64 y, .int .i64 m] w fun e w' => e = .returned (.int .i64 (daysL y m)) ∧ w = w' := by
  have b : m = 1 ∨ m = 2 ∨ m = 3 ∨ m = 4 ∨ m = 5 ∨ m = 6 ∨ m = 7 ∨ m = 8 ∨ m = 9 ∨ m = 10 ∨ m = 11 ∨ m = 12 := by omega
  clear h1 h2
  rcases b with rfl | rfl | rfl | rfl | rfl | rfl | rfl | rfl | rfl | rfl | rfl | rfl
  case inr.inl =>
    have z4 : ((y : Int) % 4 == 0) = (y % 4 == 0) := by rw [Bool.eq_iff_iff]; simp; omega
    have z100 : ((y : Int) % 100 != 0) = (y % 100 != 0) := by rw [Bool.eq_iff_iff]; simp; omega
    have z400 : ((y : Int) % 400 == 0) = (y % 400 == 0) := by rw [Bool.eq_iff_iff]; simp; omega
    have HS : Hid (daysL y 2 = if leapB y = true then 29 else 28) := rfl
    unfold leapB at HS
    generalize (y % 4 == 0) = b4 at *
    generalize (y % 100 != 0) = b100 at *
    generalize (y % 400 == 0) = b400 at *
    cases b4 <;> cases b100 <;> cases b400
    all_goals
      go_enter Tryd.func35, Tryd.ntmps35
      go_wp2
      go_ret
      exact ⟨by rw [HS.out]; rfl, rfl⟩
  all_goals
    go_enter Tryd.func35, Tryd.ntmps35
    go_wp2
    go_ret
    exact ⟨rfl, rfl⟩
set_option maxHeartbeats 2000000 in
theorem rdays_any (y m : Nat) (w : World) (hy : y ≤ 9999) (h1 : 1 ≤ m) (h2 : m ≤ 12) : Calls Tryd.prog 37 #[.int .i64 y, .int .i64 m] w fun e w' => e = .returned (.int .i64 (daysL y m)) ∧ w = w' := by
  have b : m = 1 ∨ m = 2 ∨ m = 3 ∨ m = 4 ∨ m = 5 ∨ m = 6 ∨ m = 7 ∨ m = 8 ∨ m = 9 ∨ m = 10 ∨ m = 11 ∨ m = 12 := by omega
  clear h1 h2
  rcases b with rfl | rfl | rfl | rfl | rfl | rfl | rfl | rfl | rfl | rfl | rfl | rfl
  case inr.inl =>
    have z4 : ((y : Int) % 4 == 0) = (y % 4 == 0) := by rw [Bool.eq_iff_iff]; simp; omega
    have z100 : ((y : Int) % 100 != 0) = (y % 100 != 0) := by rw [Bool.eq_iff_iff]; simp; omega
    have z400 : ((y : Int) % 400 == 0) = (y % 400 == 0) := by rw [Bool.eq_iff_iff]; simp; omega
    have HS : Hid (daysL y 2 = if leapB y = true then 29 else 28) := rfl
    unfold leapB at HS
    generalize (y % 4 == 0) = b4 at *
    generalize (y % 100 != 0) = b100 at *
    generalize (y % 400 == 0) = b400 at *
    cases b4 <;> cases b100 <;> cases b400
    all_goals
      go_enter Tryd.func37, Tryd.ntmps37
      go_wp2
      go_ret
      exact ⟨by rw [HS.out]; rfl, rfl⟩
  all_goals
    go_enter Tryd.func37, Tryd.ntmps37
    go_wp2
    go_ret
    exact ⟨rfl, rfl⟩
theorem days_le (y m : Nat) : daysL y m ≤ 31 := by unfold daysL; repeat (first | omega | split)

set_option maxHeartbeats 1000000 in
theorem months_en (w : World) : Calls Tryd.prog 36 #[.string (B [101, 110])] w fun e w' => e = .returned (.agg (monA 0)) ∧ Below w.heap.size w w' := by
  go_enter Tryd.func36, Tryd.ntmps36
  go_wp2
  exact bodyPost_ret (v := .agg (monA 0)) (by simp [results, Tryd.results36, go_sem]; rfl) rfl ⟨rfl, below_alloc _ _⟩
theorem rmonths_en (w : World) : Calls Tryd.prog 38 #[.int .i64 0] w fun e w' => e = .returned (.slice (some ⟨w.heap.size, 0, none⟩) 12 12) ∧ w.alloc (.cells (monA 0) 9) = w' := by
  go_enter Tryd.func38, Tryd.ntmps38
  go_wp2
  go_ret
  exact ⟨rfl, rfl⟩
set_option maxHeartbeats 1000000 in
theorem months_de (w : World) : Calls Tryd.prog 36 #[.string (B [100, 101])] w fun e w' => e = .returned (.agg (monA 1)) ∧ Below w.heap.size w w' := by
  go_enter Tryd.func36, Tryd.ntmps36
  go_wp2
  exact bodyPost_ret (v := .agg (monA 1)) (by simp [results, Tryd.results36, go_sem]; rfl) rfl ⟨rfl, below_alloc _ _⟩
theorem rmonths_de (w : World) : Calls Tryd.prog 38 #[.int .i64 1] w fun e w' => e = .returned (.slice (some ⟨w.heap.size, 0, none⟩) 12 12) ∧ w.alloc (.cells (monA 1) 9) = w' := by
  go_enter Tryd.func38, Tryd.ntmps38
  go_wp2
  go_ret
  exact ⟨rfl, rfl⟩
set_option maxHeartbeats 1000000 in
theorem months_fr (w : World) : Calls Tryd.prog 36 #[.string (B [102, 114])] w fun e w' => e = .returned (.agg (monA 2)) ∧ Below w.heap.size w w' := by
  go_enter Tryd.func36, Tryd.ntmps36
  go_wp2
  exact bodyPost_ret (v := .agg (monA 2)) (by simp [results, Tryd.results36, go_sem]; rfl) rfl ⟨rfl, below_alloc _ _⟩
theorem rmonths_fr (w : World) : Calls Tryd.prog 38 #[.int .i64 2] w fun e w' => e = .returned (.slice (some ⟨w.heap.size, 0, none⟩) 12 12) ∧ w.alloc (.cells (monA 2) 9) = w' := by
  go_enter Tryd.func38, Tryd.ntmps38
  go_wp2
  go_ret
  exact ⟨rfl, rfl⟩
set_option maxHeartbeats 1000000 in
theorem months_es (w : World) : Calls Tryd.prog 36 #[.string (B [101, 115])] w fun e w' => e = .returned (.agg (monA 3)) ∧ Below w.heap.size w w' := by
  go_enter Tryd.func36, Tryd.ntmps36
  go_wp2
  exact bodyPost_ret (v := .agg (monA 3)) (by simp [results, Tryd.results36, go_sem]; rfl) rfl ⟨rfl, below_alloc _ _⟩
theorem rmonths_es (w : World) : Calls Tryd.prog 38 #[.int .i64 3] w fun e w' => e = .returned (.slice (some ⟨w.heap.size, 0, none⟩) 12 12) ∧ w.alloc (.cells (monA 3) 9) = w' := by
  go_enter Tryd.func38, Tryd.ntmps38
  go_wp2
  go_ret
  exact ⟨rfl, rfl⟩

theorem B_lit (l : List UInt8) : (⟨l.toArray⟩ : ByteArray) = B l := rfl
/-- a date in a language -/
def dateL (i y m d : Nat) : List UInt8 :=
  if i = 0 then monL 0 m ++ [32] ++ Lib.decDigits d ++ [44, 32] ++ Lib.decDigits y
  else if i = 1 then Lib.decDigits d ++ [46, 32] ++ monL 1 m ++ [32] ++ Lib.decDigits y
  else if i = 2 then (if d = 1 then [49, 101, 114] else Lib.decDigits d) ++ [32] ++ monL 2 m ++ [32] ++ Lib.decDigits y
  else Lib.decDigits d ++ [32, 100, 101, 32] ++ monL 3 m ++ [32, 100, 101, 32] ++ Lib.decDigits y
/-- whether there is a date -/
def dateB (y m d : Int) : Bool := decide (1 ≤ y ∧ y ≤ 9999 ∧ 1 ≤ m ∧ m ≤ 12 ∧ 1 ≤ d ∧ d ≤ daysL y.toNat m.toNat)
def dateS (l : List UInt8) (y m d : Int) : List UInt8 := if knownB l = true ∧ dateB y m d = true then dateL (lang4 l) y.toNat m.toNat d.toNat else []
def dateE (l : List UInt8) (y m d : Int) : Int := if knownB l = false then 6 else if dateB y m d = false then 9 else 0
def DateRet (l : List UInt8) (y m d : Int) : Ending := .returned (.tuple #[.string (B (dateS l y m d)), .int .i64 (dateE l y m d)])
theorem date_none {l : List UInt8} {y m d : Int} (h : knownB l = false) : DateRet l y m d = .returned (.tuple #[.string ⟨#[]⟩, .int .i64 6]) := by
  unfold DateRet dateS dateE; rw [h]; simp [B]
theorem date_out {l : List UInt8} {y m d : Int} (h : knownB l = true) (hd : dateB y m d = false) : DateRet l y m d = .returned (.tuple #[.string ⟨#[]⟩, .int .i64 9]) := by
  unfold DateRet dateS dateE; rw [h, hd]; rfl
theorem date_some {l : List UInt8} {y m d : Nat} (h : knownB l = true) (hd : dateB y m d = true) : DateRet l y m d = .returned (.tuple #[.string (B (dateL (lang4 l) y m d)), .int .i64 0]) := by
  unfold DateRet dateS dateE; rw [h, hd]; simp
theorem ix_known {l : List UInt8} (h : knownB l = true) : ∃ k : Nat, ixL l = k := by
  unfold knownB at h
  exact ⟨lang4 l, by unfold ixL; rw [if_pos (by simpa using h)]⟩
/-- why there is no date -/
theorem date_bad {y m d : Int} (h : dateB y m d = false) : y < 1 ∨ (1 ≤ y ∧ 9999 < y) ∨ (1 ≤ y ∧ y ≤ 9999 ∧ m < 1) ∨ (1 ≤ y ∧ y ≤ 9999 ∧ 1 ≤ m ∧ 12 < m) ∨ (1 ≤ y ∧ y ≤ 9999 ∧ 1 ≤ m ∧ m ≤ 12 ∧ d < 1) ∨ ∃ a b c : Nat, y = a ∧ m = b ∧ d = c ∧ 1 ≤ a ∧ a ≤ 9999 ∧ 1 ≤ b ∧ b ≤ 12 ∧ 1 ≤ c ∧ daysL a b < c := by
  unfold dateB at h
  simp only [decide_eq_false_iff_not] at h
  by_cases h1 : y < 1
  · exact .inl h1
  by_cases h2 : 9999 < y
  · exact .inr (.inl ⟨by omega, h2⟩)
  by_cases h3 : m < 1
  · exact .inr (.inr (.inl ⟨by omega, by omega, h3⟩))
  by_cases h4 : 12 < m
  · exact .inr (.inr (.inr (.inl ⟨by omega, by omega, by omega, h4⟩)))
  by_cases h5 : d < 1
  · exact .inr (.inr (.inr (.inr (.inl ⟨by omega, by omega, by omega, by omega, h5⟩))))
  refine .inr (.inr (.inr (.inr (.inr ⟨y.toNat, m.toNat, d.toNat, by omega, by omega, by omega, by omega, by omega, by omega, by omega, by omega, ?_⟩))))
  have := fun hd => h ⟨by omega, by omega, by omega, by omega, by omega, hd⟩
  omega
theorem date_good {y m d : Int} (h : dateB y m d = true) : ∃ a b c : Nat, y = a ∧ m = b ∧ d = c ∧ 1 ≤ a ∧ a ≤ 9999 ∧ 1 ≤ b ∧ b ≤ 12 ∧ 1 ≤ c ∧ c ≤ daysL a b := by
  unfold dateB at h
  simp only [decide_eq_true_eq] at h
  obtain ⟨h1, h2, h3, h4, h5, h6⟩ := h
  exact ⟨y.toNat, m.toNat, d.toNat, by omega, by omega, by omega, by omega, by omega, by omega, by omega, by omega, by omega⟩


set_option maxHeartbeats 4000000 in
theorem date_range (l : List UInt8) (y m d : Int) (w : World) (hk : knownB l = true) (hd : dateB y m d = false) : Calls Tryd.prog 15 #[.string (B l), .int .i64 y, .int .i64 m, .int .i64 d] w fun e w' => e = DateRet l y m d ∧ Below w.heap.size w w' := by
  have C := known_any l w
  rw [hk] at C
  have HC := Lib.hid C
  clear C
  rw [date_out hk hd]
  clear hk
  rcases date_bad hd with h | ⟨h1, h⟩ | ⟨h1, h2, h⟩ | ⟨h1, h2, h3, h⟩ | ⟨h1, h2, h3, h4, h⟩ | ⟨a, b, c, rfl, rfl, rfl, h1, h2, h3, h4, h5, h⟩
  · have f0 : decide (y < 1) = true := by simp; omega
    clear hd
    go_enter Tryd.func15, Tryd.ntmps15
    go_wp2_with fail
    refine HC.out.mono ?_
    rintro e w1 ⟨rfl, rfl⟩
    go_wp2
    go_ret2
    exact ⟨rfl, Below.refl _ _⟩
  · have f0 : decide (y < 1) = false := by simp; omega
    have f1 : decide (9999 < y) = true := by simp; omega
    clear hd
    go_enter Tryd.func15, Tryd.ntmps15
    go_wp2_with fail
    refine HC.out.mono ?_
    rintro e w1 ⟨rfl, rfl⟩
    go_wp2
    go_ret2
    exact ⟨rfl, Below.refl _ _⟩
  · have f0 : decide (y < 1) = false := by simp; omega
    have f1 : decide (9999 < y) = false := by simp; omega
    have f2 : decide (m < 1) = true := by simp; omega
    clear hd
    go_enter Tryd.func15, Tryd.ntmps15
    go_wp2_with fail
    refine HC.out.mono ?_
    rintro e w1 ⟨rfl, rfl⟩
    go_wp2
    go_ret2
    exact ⟨rfl, Below.refl _ _⟩
  · have f0 : decide (y < 1) = false := by simp; omega
    have f1 : decide (9999 < y) = false := by simp; omega
    have f2 : decide (m < 1) = false := by simp; omega
    have f3 : decide (12 < m) = true := by simp; omega
    clear hd
    go_enter Tryd.func15, Tryd.ntmps15
    go_wp2_with fail
    refine HC.out.mono ?_
    rintro e w1 ⟨rfl, rfl⟩
    go_wp2
    go_ret2
    exact ⟨rfl, Below.refl _ _⟩
  · have f0 : decide (y < 1) = false := by simp; omega
    have f1 : decide (9999 < y) = false := by simp; omega
    have f2 : decide (m < 1) = false := by simp; omega
    have f3 : decide (12 < m) = false := by simp; omega
    have f4 : decide (d < 1) = true := by simp; omega
    clear hd
    go_enter Tryd.func15, Tryd.ntmps15
    go_wp2_with fail
    refine HC.out.mono ?_
    rintro e w1 ⟨rfl, rfl⟩
    go_wp2
    go_ret2
    exact ⟨rfl, Below.refl _ _⟩
  · have f0 : decide ((a : Int) < 1) = false := by simp; omega
    have f1 : decide (9999 < (a : Int)) = false := by simp; omega
    have f2 : decide ((b : Int) < 1) = false := by simp; omega
    have f3 : decide (12 < (b : Int)) = false := by simp; omega
    have f4 : decide ((c : Int) < 1) = false := by simp; omega
    have f5 : decide (daysL a b < c) = true := by simp; omega
    clear hd
    go_enter Tryd.func15, Tryd.ntmps15
    go_wp2_with fail
    refine HC.out.mono ?_
    rintro e w1 ⟨rfl, rfl⟩
    go_wp2_with fail
    refine (days_any a b w h2 h3 h4).mono ?_
    rintro e w2 ⟨rfl, rfl⟩
    go_wp2
    go_ret2
    exact ⟨rfl, Below.refl _ _⟩

set_option maxHeartbeats 2000000 in
theorem date_no (l : List UInt8) (y m d : Int) (w : World) (h : lang4 l = 4) : Calls Tryd.prog 15 #[.string (B l), .int .i64 y, .int .i64 m, .int .i64 d] w fun e w' => e = DateRet l y m d ∧ Below w.heap.size w w' := by
  rw [date_none (known_no h)]
  have C := known_any l w
  rw [known_no h] at C
  have HC := Lib.hid C
  clear C h
  go_enter Tryd.func15, Tryd.ntmps15
  go_wp2_with fail
  refine HC.out.mono ?_
  rintro e w1 ⟨rfl, rfl⟩
  go_wp2
  go_ret2
  exact ⟨rfl, Below.refl _ _⟩

set_option maxHeartbeats 4000000 in
theorem rdate_range (l : List UInt8) (y m d : Int) (w : World) (hk : knownB l = true) (hd : dateB y m d = false) : Calls Tryd.prog 16 #[.string (B l), .int .i64 y, .int .i64 m, .int .i64 d] w fun e w' => e = DateRet l y m d ∧ Below w.heap.size w w' := by
  have C := rindex_any l w
  obtain ⟨kk, hkk⟩ := ix_known hk
  rw [hkk] at C
  have dk : decide ((kk : Int) < 0) = false := by simp
  clear hkk
  have HC := Lib.hid C
  clear C
  rw [date_out hk hd]
  clear hk
  rcases date_bad hd with h | ⟨h1, h⟩ | ⟨h1, h2, h⟩ | ⟨h1, h2, h3, h⟩ | ⟨h1, h2, h3, h4, h⟩ | ⟨a, b, c, rfl, rfl, rfl, h1, h2, h3, h4, h5, h⟩
  · have f0 : decide (y < 1) = true := by simp; omega
    clear hd
    go_enter Tryd.func16, Tryd.ntmps16
    go_wp2_with fail
    refine HC.out.mono ?_
    rintro e w1 ⟨rfl, hb⟩
    go_wp2
    go_ret2
    exact ⟨rfl, hb⟩
  · have f0 : decide (y < 1) = false := by simp; omega
    have f1 : decide (9999 < y) = true := by simp; omega
    clear hd
    go_enter Tryd.func16, Tryd.ntmps16
    go_wp2_with fail
    refine HC.out.mono ?_
    rintro e w1 ⟨rfl, hb⟩
    go_wp2
    go_ret2
    exact ⟨rfl, hb⟩
  · have f0 : decide (y < 1) = false := by simp; omega
    have f1 : decide (9999 < y) = false := by simp; omega
    have f2 : decide (m < 1) = true := by simp; omega
    clear hd
    go_enter Tryd.func16, Tryd.ntmps16
    go_wp2_with fail
    refine HC.out.mono ?_
    rintro e w1 ⟨rfl, hb⟩
    go_wp2
    go_ret2
    exact ⟨rfl, hb⟩
  · have f0 : decide (y < 1) = false := by simp; omega
    have f1 : decide (9999 < y) = false := by simp; omega
    have f2 : decide (m < 1) = false := by simp; omega
    have f3 : decide (12 < m) = true := by simp; omega
    clear hd
    go_enter Tryd.func16, Tryd.ntmps16
    go_wp2_with fail
    refine HC.out.mono ?_
    rintro e w1 ⟨rfl, hb⟩
    go_wp2
    go_ret2
    exact ⟨rfl, hb⟩
  · have f0 : decide (y < 1) = false := by simp; omega
    have f1 : decide (9999 < y) = false := by simp; omega
    have f2 : decide (m < 1) = false := by simp; omega
    have f3 : decide (12 < m) = false := by simp; omega
    have f4 : decide (d < 1) = true := by simp; omega
    clear hd
    go_enter Tryd.func16, Tryd.ntmps16
    go_wp2_with fail
    refine HC.out.mono ?_
    rintro e w1 ⟨rfl, hb⟩
    go_wp2
    go_ret2
    exact ⟨rfl, hb⟩
  · have f0 : decide ((a : Int) < 1) = false := by simp; omega
    have f1 : decide (9999 < (a : Int)) = false := by simp; omega
    have f2 : decide ((b : Int) < 1) = false := by simp; omega
    have f3 : decide (12 < (b : Int)) = false := by simp; omega
    have f4 : decide ((c : Int) < 1) = false := by simp; omega
    have f5 : decide (daysL a b < c) = true := by simp; omega
    clear hd
    go_enter Tryd.func16, Tryd.ntmps16
    go_wp2_with fail
    refine HC.out.mono ?_
    rintro e w1 ⟨rfl, hb⟩
    go_wp2_with fail
    refine (rdays_any a b w1 h2 h3 h4).mono ?_
    rintro e w2 ⟨rfl, rfl⟩
    go_wp2
    go_ret2
    exact ⟨rfl, hb⟩

set_option maxHeartbeats 2000000 in
theorem rdate_no (l : List UInt8) (y m d : Int) (w : World) (h : lang4 l = 4) : Calls Tryd.prog 16 #[.string (B l), .int .i64 y, .int .i64 m, .int .i64 d] w fun e w' => e = DateRet l y m d ∧ Below w.heap.size w w' := by
  rw [date_none (known_no h)]
  have C := rindex_any l w
  rw [show ixL l = -1 from by unfold ixL; rw [h]; rfl] at C
  have HC := Lib.hid C
  clear C h
  go_enter Tryd.func16, Tryd.ntmps16
  go_wp2_with fail
  refine HC.out.mono ?_
  rintro e w1 ⟨rfl, hb⟩
  go_wp2
  go_ret2
  exact ⟨rfl, hb⟩

set_option maxHeartbeats 4000000 in
theorem date_en (y m d : Nat) (w : World) (hd : dateB y m d = true) (hG : GlobL w) : Calls Tryd.prog 15 #[.string (B [101, 110]), .int .i64 y, .int .i64 m, .int .i64 d] w fun e w' => e = DateRet [101, 110] y m d ∧ Below w.heap.size w w' := by
  rw [date_some rfl hd]
  obtain ⟨a, b, c, ha, hb, hc, h1, h2, h3, h4, h5, h6⟩ := date_good hd
  obtain rfl : y = a := by omega
  obtain rfl : m = b := by omega
  obtain rfl : d = c := by omega
  have h31 := days_le y m
  have f0 : decide ((y : Int) < 1) = false := by simp; omega
  have f1 : decide (9999 < (y : Int)) = false := by simp; omega
  have f2 : decide ((m : Int) < 1) = false := by simp; omega
  have f3 : decide (12 < (m : Int)) = false := by simp; omega
  have f4 : decide ((d : Int) < 1) = false := by simp; omega
  have f5 : decide (daysL y m < d) = false := by simp; omega
  have hm12 : (0 : Int) ≤ (m : Int) - 1 := by omega
  have hm13 : (m : Int) - 1 < 12 := by omega
  have hly := dec_len y
  have hld := dec_len d
  have hlm := mon_len 0 m (by omega) h3 h4
  clear ha hb hc hd
  have C := known_any [101, 110] w
  rw [show knownB [101, 110] = true from rfl] at C
  have HC := Lib.hid C
  clear C
  have hix := mon_ix 0 m (by omega) h3 h4
  have HE : Hid (dateL (lang4 [101, 110]) y m d = monL 0 m ++ [32] ++ Lib.decDigits d ++ [44, 32] ++ Lib.decDigits y) := rfl
  go_enter Tryd.func15, Tryd.ntmps15
  go_wp2_with fail
  refine HC.out.mono ?_
  rintro e w1 ⟨rfl, rfl⟩
  clear HC
  go_wp2_with fail
  refine (days_any y m w h2 h3 h4).mono ?_
  rintro e w1 ⟨rfl, rfl⟩
  go_wp2_with fail
  refine (months_en w).mono ?_
  rintro e w2 ⟨rfl, hb2⟩
  have hG2 := hG.below hb2
  generalize monA 0 = mm at *
  generalize monL 0 m = nn at *
  go_wp2_with fail
  refine (itoa_any y w2 (by omega) hG2).mono ?_
  rintro e w3 ⟨rfl, hb3'⟩
  have hb3 := hb2.trans (hb3'.mono hb2.size)
  have hG3 := hG.below hb3
  go_wp2_with fail
  refine (itoa_any d w3 (by omega) hG3).mono ?_
  rintro e w4 ⟨rfl, hb4'⟩
  have hb4 := hb3.trans (hb4'.mono hb3.size)
  clear hb2 hb3 hb3' hb4' hG2 hG3
  generalize Lib.decDigits y = dy at *
  generalize Lib.decDigits d = dd at *
  go_wp2
  go_ret2
  exact ⟨by rw [HE.out]; exact ret_two_str (by simp only [B_lit, B_cat, List.append_assoc]; try rfl), hb4⟩

set_option maxHeartbeats 4000000 in
theorem rdate_en (y m d : Nat) (w : World) (hd : dateB y m d = true) : Calls Tryd.prog 16 #[.string (B [101, 110]), .int .i64 y, .int .i64 m, .int .i64 d] w fun e w' => e = DateRet [101, 110] y m d ∧ Below w.heap.size w w' := by
  rw [date_some rfl hd]
  obtain ⟨a, b, c, ha, hb, hc, h1, h2, h3, h4, h5, h6⟩ := date_good hd
  obtain rfl : y = a := by omega
  obtain rfl : m = b := by omega
  obtain rfl : d = c := by omega
  have h31 := days_le y m
  have f0 : decide ((y : Int) < 1) = false := by simp; omega
  have f1 : decide (9999 < (y : Int)) = false := by simp; omega
  have f2 : decide ((m : Int) < 1) = false := by simp; omega
  have f3 : decide (12 < (m : Int)) = false := by simp; omega
  have f4 : decide ((d : Int) < 1) = false := by simp; omega
  have f5 : decide (daysL y m < d) = false := by simp; omega
  have hm12 : (0 : Int) ≤ (m : Int) - 1 := by omega
  have hm13 : (m : Int) - 1 < 12 := by omega
  have hly := dec_len y
  have hld := dec_len d
  have hlm := mon_len 0 m (by omega) h3 h4
  clear ha hb hc hd
  have C := rindex_any [101, 110] w
  rw [show ixL [101, 110] = 0 from rfl] at C
  have HC := Lib.hid C
  clear C
  have HE : Hid (dateL (lang4 [101, 110]) y m d = monL 0 m ++ [32] ++ Lib.decDigits d ++ [44, 32] ++ Lib.decDigits y) := rfl
  go_enter Tryd.func16, Tryd.ntmps16
  go_wp2_with fail
  refine HC.out.mono ?_
  rintro e w1 ⟨rfl, hb1⟩
  clear HC
  go_wp2_with fail
  refine (rdays_any y m w1 h2 h3 h4).mono ?_
  rintro e w1 ⟨rfl, rfl⟩
  go_wp2_with fail
  refine (rmonths_en w1).mono ?_
  rintro e w2 ⟨rfl, hw⟩
  have hc := mon_cell 0 m (by omega) h3 h4 w1
  rw [hw] at hc
  have hb2 : Below w.heap.size w w2 := by rw [← hw]; exact hb1.alloc hb1.size _
  clear hw
  generalize monL 0 m = nn at *
  go_wp2_with fail
  refine (num_any d w2 (by omega)).mono ?_
  rintro e w3 ⟨rfl, rfl⟩
  go_wp2_with fail
  refine (num_any y w2 (by omega)).mono ?_
  rintro e w3 ⟨rfl, rfl⟩
  generalize Lib.decDigits y = dy at *
  generalize Lib.decDigits d = dd at *
  go_wp2
  go_ret2
  exact ⟨by rw [HE.out]; exact ret_two_str (by simp only [B_lit, B_cat, List.append_assoc]; try rfl), hb2⟩

set_option maxHeartbeats 4000000 in
theorem date_de (y m d : Nat) (w : World) (hd : dateB y m d = true) (hG : GlobL w) : Calls Tryd.prog 15 #[.string (B [100, 101]), .int .i64 y, .int .i64 m, .int .i64 d] w fun e w' => e = DateRet [100, 101] y m d ∧ Below w.heap.size w w' := by
  rw [date_some rfl hd]
  obtain ⟨a, b, c, ha, hb, hc, h1, h2, h3, h4, h5, h6⟩ := date_good hd
  obtain rfl : y = a := by omega
  obtain rfl : m = b := by omega
  obtain rfl : d = c := by omega
  have h31 := days_le y m
  have f0 : decide ((y : Int) < 1) = false := by simp; omega
  have f1 : decide (9999 < (y : Int)) = false := by simp; omega
  have f2 : decide ((m : Int) < 1) = false := by simp; omega
  have f3 : decide (12 < (m : Int)) = false := by simp; omega
  have f4 : decide ((d : Int) < 1) = false := by simp; omega
  have f5 : decide (daysL y m < d) = false := by simp; omega
  have hm12 : (0 : Int) ≤ (m : Int) - 1 := by omega
  have hm13 : (m : Int) - 1 < 12 := by omega
  have hly := dec_len y
  have hld := dec_len d
  have hlm := mon_len 1 m (by omega) h3 h4
  clear ha hb hc hd
  have C := known_any [100, 101] w
  rw [show knownB [100, 101] = true from rfl] at C
  have HC := Lib.hid C
  clear C
  have hix := mon_ix 1 m (by omega) h3 h4
  have HE : Hid (dateL (lang4 [100, 101]) y m d = Lib.decDigits d ++ [46, 32] ++ monL 1 m ++ [32] ++ Lib.decDigits y) := rfl
  go_enter Tryd.func15, Tryd.ntmps15
  go_wp2_with fail
  refine HC.out.mono ?_
  rintro e w1 ⟨rfl, rfl⟩
  clear HC
  go_wp2_with fail
  refine (days_any y m w h2 h3 h4).mono ?_
  rintro e w1 ⟨rfl, rfl⟩
  go_wp2_with fail
  refine (months_de w).mono ?_
  rintro e w2 ⟨rfl, hb2⟩
  have hG2 := hG.below hb2
  generalize monA 1 = mm at *
  generalize monL 1 m = nn at *
  go_wp2_with fail
  refine (itoa_any y w2 (by omega) hG2).mono ?_
  rintro e w3 ⟨rfl, hb3'⟩
  have hb3 := hb2.trans (hb3'.mono hb2.size)
  have hG3 := hG.below hb3
  go_wp2_with fail
  refine (itoa_any d w3 (by omega) hG3).mono ?_
  rintro e w4 ⟨rfl, hb4'⟩
  have hb4 := hb3.trans (hb4'.mono hb3.size)
  clear hb2 hb3 hb3' hb4' hG2 hG3
  generalize Lib.decDigits y = dy at *
  generalize Lib.decDigits d = dd at *
  go_wp2
  go_ret2
  exact ⟨by rw [HE.out]; exact ret_two_str (by simp only [B_lit, B_cat, List.append_assoc]; try rfl), hb4⟩

set_option maxHeartbeats 4000000 in
theorem rdate_de (y m d : Nat) (w : World) (hd : dateB y m d = true) : Calls Tryd.prog 16 #[.string (B [100, 101]), .int .i64 y, .int .i64 m, .int .i64 d] w fun e w' => e = DateRet [100, 101] y m d ∧ Below w.heap.size w w' := by
  rw [date_some rfl hd]
  obtain ⟨a, b, c, ha, hb, hc, h1, h2, h3, h4, h5, h6⟩ := date_good hd
  obtain rfl : y = a := by omega
  obtain rfl : m = b := by omega
  obtain rfl : d = c := by omega
  have h31 := days_le y m
  have f0 : decide ((y : Int) < 1) = false := by simp; omega
  have f1 : decide (9999 < (y : Int)) = false := by simp; omega
  have f2 : decide ((m : Int) < 1) = false := by simp; omega
  have f3 : decide (12 < (m : Int)) = false := by simp; omega
  have f4 : decide ((d : Int) < 1) = false := by simp; omega
  have f5 : decide (daysL y m < d) = false := by simp; omega
  have hm12 : (0 : Int) ≤ (m : Int) - 1 := by omega
  have hm13 : (m : Int) - 1 < 12 := by omega
  have hly := dec_len y
  have hld := dec_len d
  have hlm := mon_len 1 m (by omega) h3 h4
  clear ha hb hc hd
  have C := rindex_any [100, 101] w
  rw [show ixL [100, 101] = 1 from rfl] at C
  have HC := Lib.hid C
  clear C
  have HE : Hid (dateL (lang4 [100, 101]) y m d = Lib.decDigits d ++ [46, 32] ++ monL 1 m ++ [32] ++ Lib.decDigits y) := rfl
  go_enter Tryd.func16, Tryd.ntmps16
  go_wp2_with fail
  refine HC.out.mono ?_
  rintro e w1 ⟨rfl, hb1⟩
  clear HC
  go_wp2_with fail
  refine (rdays_any y m w1 h2 h3 h4).mono ?_
  rintro e w1 ⟨rfl, rfl⟩
  go_wp2_with fail
  refine (rmonths_de w1).mono ?_
  rintro e w2 ⟨rfl, hw⟩
  have hc := mon_cell 1 m (by omega) h3 h4 w1
  rw [hw] at hc
  have hb2 : Below w.heap.size w w2 := by rw [← hw]; exact hb1.alloc hb1.size _
  clear hw
  generalize monL 1 m = nn at *
  go_wp2_with fail
  refine (num_any d w2 (by omega)).mono ?_
  rintro e w3 ⟨rfl, rfl⟩
  go_wp2_with fail
  refine (num_any y w2 (by omega)).mono ?_
  rintro e w3 ⟨rfl, rfl⟩
  generalize Lib.decDigits y = dy at *
  generalize Lib.decDigits d = dd at *
  go_wp2
  go_ret2
  exact ⟨by rw [HE.out]; exact ret_two_str (by simp only [B_lit, B_cat, List.append_assoc]; try rfl), hb2⟩

set_option maxHeartbeats 4000000 in
theorem date_fr (y m d : Nat) (w : World) (hd : dateB y m d = true) (hG : GlobL w) : Calls Tryd.prog 15 #[.string (B [102, 114]), .int .i64 y, .int .i64 m, .int .i64 d] w fun e w' => e = DateRet [102, 114] y m d ∧ Below w.heap.size w w' := by
  rw [date_some rfl hd]
  obtain ⟨a, b, c, ha, hb, hc, h1, h2, h3, h4, h5, h6⟩ := date_good hd
  obtain rfl : y = a := by omega
  obtain rfl : m = b := by omega
  obtain rfl : d = c := by omega
  have h31 := days_le y m
  have f0 : decide ((y : Int) < 1) = false := by simp; omega
  have f1 : decide (9999 < (y : Int)) = false := by simp; omega
  have f2 : decide ((m : Int) < 1) = false := by simp; omega
  have f3 : decide (12 < (m : Int)) = false := by simp; omega
  have f4 : decide ((d : Int) < 1) = false := by simp; omega
  have f5 : decide (daysL y m < d) = false := by simp; omega
  have hm12 : (0 : Int) ≤ (m : Int) - 1 := by omega
  have hm13 : (m : Int) - 1 < 12 := by omega
  have hly := dec_len y
  have hld := dec_len d
  have hlm := mon_len 2 m (by omega) h3 h4
  clear ha hb hc hd
  have C := known_any [102, 114] w
  rw [show knownB [102, 114] = true from rfl] at C
  have HC := Lib.hid C
  clear C
  have hix := mon_ix 2 m (by omega) h3 h4
  have HE : Hid (dateL (lang4 [102, 114]) y m d = (if d = 1 then [49, 101, 114] else Lib.decDigits d) ++ [32] ++ monL 2 m ++ [32] ++ Lib.decDigits y) := rfl
  by_cases hone : d = 1
  · have e1 : ((d : Int) == 1) = true := by simp [hone]
    rw [if_pos hone] at HE
    clear hone
    go_enter Tryd.func15, Tryd.ntmps15
    go_wp2_with fail
    refine HC.out.mono ?_
    rintro e w1 ⟨rfl, rfl⟩
    clear HC
    go_wp2_with fail
    refine (days_any y m w h2 h3 h4).mono ?_
    rintro e w1 ⟨rfl, rfl⟩
    go_wp2_with fail
    refine (months_fr w).mono ?_
    rintro e w2 ⟨rfl, hb2⟩
    have hG2 := hG.below hb2
    generalize monA 2 = mm at *
    generalize monL 2 m = nn at *
    go_wp2_with fail
    refine (itoa_any y w2 (by omega) hG2).mono ?_
    rintro e w3 ⟨rfl, hb3'⟩
    have hb3 := hb2.trans (hb3'.mono hb2.size)
    have hG3 := hG.below hb3
    go_wp2_with fail
    refine (itoa_any d w3 (by omega) hG3).mono ?_
    rintro e w4 ⟨rfl, hb4'⟩
    have hb4 := hb3.trans (hb4'.mono hb3.size)
    clear hb2 hb3 hb3' hb4' hG2 hG3
    generalize Lib.decDigits y = dy at *
    generalize Lib.decDigits d = dd at *
    go_wp2
    go_ret2
    exact ⟨by rw [HE.out]; exact ret_two_str (by simp only [B_lit, B_cat, List.append_assoc]; try rfl), hb4⟩
  · have e1 : ((d : Int) == 1) = false := by simp; omega
    rw [if_neg hone] at HE
    clear hone
    go_enter Tryd.func15, Tryd.ntmps15
    go_wp2_with fail
    refine HC.out.mono ?_
    rintro e w1 ⟨rfl, rfl⟩
    clear HC
    go_wp2_with fail
    refine (days_any y m w h2 h3 h4).mono ?_
    rintro e w1 ⟨rfl, rfl⟩
    go_wp2_with fail
    refine (months_fr w).mono ?_
    rintro e w2 ⟨rfl, hb2⟩
    have hG2 := hG.below hb2
    generalize monA 2 = mm at *
    generalize monL 2 m = nn at *
    go_wp2_with fail
    refine (itoa_any y w2 (by omega) hG2).mono ?_
    rintro e w3 ⟨rfl, hb3'⟩
    have hb3 := hb2.trans (hb3'.mono hb2.size)
    have hG3 := hG.below hb3
    go_wp2_with fail
    refine (itoa_any d w3 (by omega) hG3).mono ?_
    rintro e w4 ⟨rfl, hb4'⟩
    have hb4 := hb3.trans (hb4'.mono hb3.size)
    clear hb2 hb3 hb3' hb4' hG2 hG3
    generalize Lib.decDigits y = dy at *
    generalize Lib.decDigits d = dd at *
    go_wp2
    go_ret2
    exact ⟨by rw [HE.out]; exact ret_two_str (by simp only [B_lit, B_cat, List.append_assoc]; try rfl), hb4⟩

set_option maxHeartbeats 4000000 in
theorem rdate_fr (y m d : Nat) (w : World) (hd : dateB y m d = true) : Calls Tryd.prog 16 #[.string (B [102, 114]), .int .i64 y, .int .i64 m, .int .i64 d] w fun e w' => e = DateRet [102, 114] y m d ∧ Below w.heap.size w w' := by
  rw [date_some rfl hd]
  obtain ⟨a, b, c, ha, hb, hc, h1, h2, h3, h4, h5, h6⟩ := date_good hd
  obtain rfl : y = a := by omega
  obtain rfl : m = b := by omega
  obtain rfl : d = c := by omega
  have h31 := days_le y m
  have f0 : decide ((y : Int) < 1) = false := by simp; omega
  have f1 : decide (9999 < (y : Int)) = false := by simp; omega
  have f2 : decide ((m : Int) < 1) = false := by simp; omega
  have f3 : decide (12 < (m : Int)) = false := by simp; omega
  have f4 : decide ((d : Int) < 1) = false := by simp; omega
  have f5 : decide (daysL y m < d) = false := by simp; omega
  have hm12 : (0 : Int) ≤ (m : Int) - 1 := by omega
  have hm13 : (m : Int) - 1 < 12 := by omega
  have hly := dec_len y
  have hld := dec_len d
  have hlm := mon_len 2 m (by omega) h3 h4
  clear ha hb hc hd
  have C := rindex_any [102, 114] w
  rw [show ixL [102, 114] = 2 from rfl] at C
  have HC := Lib.hid C
  clear C
  have HE : Hid (dateL (lang4 [102, 114]) y m d = (if d = 1 then [49, 101, 114] else Lib.decDigits d) ++ [32] ++ monL 2 m ++ [32] ++ Lib.decDigits y) := rfl
  by_cases hone : d = 1
  · have e1 : ((d : Int) == 1) = true := by simp [hone]
    rw [if_pos hone] at HE
    clear hone
    go_enter Tryd.func16, Tryd.ntmps16
    go_wp2_with fail
    refine HC.out.mono ?_
    rintro e w1 ⟨rfl, hb1⟩
    clear HC
    go_wp2_with fail
    refine (rdays_any y m w1 h2 h3 h4).mono ?_
    rintro e w1 ⟨rfl, rfl⟩
    go_wp2_with fail
    refine (rmonths_fr w1).mono ?_
    rintro e w2 ⟨rfl, hw⟩
    have hc := mon_cell 2 m (by omega) h3 h4 w1
    rw [hw] at hc
    have hb2 : Below w.heap.size w w2 := by rw [← hw]; exact hb1.alloc hb1.size _
    clear hw
    generalize monL 2 m = nn at *
    go_wp2_with fail
    refine (num_any y w2 (by omega)).mono ?_
    rintro e w3 ⟨rfl, rfl⟩
    generalize Lib.decDigits y = dy at *
    generalize Lib.decDigits d = dd at *
    go_wp2
    go_ret2
    exact ⟨by rw [HE.out]; exact ret_two_str (by simp only [B_lit, B_cat, List.append_assoc]; try rfl), hb2⟩
  · have e1 : ((d : Int) == 1) = false := by simp; omega
    rw [if_neg hone] at HE
    clear hone
    go_enter Tryd.func16, Tryd.ntmps16
    go_wp2_with fail
    refine HC.out.mono ?_
    rintro e w1 ⟨rfl, hb1⟩
    clear HC
    go_wp2_with fail
    refine (rdays_any y m w1 h2 h3 h4).mono ?_
    rintro e w1 ⟨rfl, rfl⟩
    go_wp2_with fail
    refine (rmonths_fr w1).mono ?_
    rintro e w2 ⟨rfl, hw⟩
    have hc := mon_cell 2 m (by omega) h3 h4 w1
    rw [hw] at hc
    have hb2 : Below w.heap.size w w2 := by rw [← hw]; exact hb1.alloc hb1.size _
    clear hw
    generalize monL 2 m = nn at *
    go_wp2_with fail
    refine (num_any d w2 (by omega)).mono ?_
    rintro e w3 ⟨rfl, rfl⟩
    go_wp2_with fail
    refine (num_any y w2 (by omega)).mono ?_
    rintro e w3 ⟨rfl, rfl⟩
    generalize Lib.decDigits y = dy at *
    generalize Lib.decDigits d = dd at *
    go_wp2
    go_ret2
    exact ⟨by rw [HE.out]; exact ret_two_str (by simp only [B_lit, B_cat, List.append_assoc]; try rfl), hb2⟩

set_option maxHeartbeats 4000000 in
theorem date_es (y m d : Nat) (w : World) (hd : dateB y m d = true) (hG : GlobL w) : Calls Tryd.prog 15 #[.string (B [101, 115]), .int .i64 y, .int .i64 m, .int .i64 d] w fun e w' => e = DateRet [101, 115] y m d ∧ Below w.heap.size w w' := by
  rw [date_some rfl hd]
  obtain ⟨a, b, c, ha, hb, hc, h1, h2, h3, h4, h5, h6⟩ := date_good hd
  obtain rfl : y = a := by omega
  obtain rfl : m = b := by omega
  obtain rfl : d = c := by omega
  have h31 := days_le y m
  have f0 : decide ((y : Int) < 1) = false := by simp; omega
  have f1 : decide (9999 < (y : Int)) = false := by simp; omega
  have f2 : decide ((m : Int) < 1) = false := by simp; omega
  have f3 : decide (12 < (m : Int)) = false := by simp; omega
  have f4 : decide ((d : Int) < 1) = false := by simp; omega
  have f5 : decide (daysL y m < d) = false := by simp; omega
  have hm12 : (0 : Int) ≤ (m : Int) - 1 := by omega
  have hm13 : (m : Int) - 1 < 12 := by omega
  have hly := dec_len y
  have hld := dec_len d
  have hlm := mon_len 3 m (by omega) h3 h4
  clear ha hb hc hd
  have C := known_any [101, 115] w
  rw [show knownB [101, 115] = true from rfl] at C
  have HC := Lib.hid C
  clear C
  have hix := mon_ix 3 m (by omega) h3 h4
  have HE : Hid (dateL (lang4 [101, 115]) y m d = Lib.decDigits d ++ [32, 100, 101, 32] ++ monL 3 m ++ [32, 100, 101, 32] ++ Lib.decDigits y) := rfl
  go_enter Tryd.func15, Tryd.ntmps15
  go_wp2_with fail
  refine HC.out.mono ?_
  rintro e w1 ⟨rfl, rfl⟩
  clear HC
  go_wp2_with fail
  refine (days_any y m w h2 h3 h4).mono ?_
  rintro e w1 ⟨rfl, rfl⟩
  go_wp2_with fail
  refine (months_es w).mono ?_
  rintro e w2 ⟨rfl, hb2⟩
  have hG2 := hG.below hb2
  generalize monA 3 = mm at *
  generalize monL 3 m = nn at *
  go_wp2_with fail
  refine (itoa_any y w2 (by omega) hG2).mono ?_
  rintro e w3 ⟨rfl, hb3'⟩
  have hb3 := hb2.trans (hb3'.mono hb2.size)
  have hG3 := hG.below hb3
  go_wp2_with fail
  refine (itoa_any d w3 (by omega) hG3).mono ?_
  rintro e w4 ⟨rfl, hb4'⟩
  have hb4 := hb3.trans (hb4'.mono hb3.size)
  clear hb2 hb3 hb3' hb4' hG2 hG3
  generalize Lib.decDigits y = dy at *
  generalize Lib.decDigits d = dd at *
  go_wp2
  go_ret2
  exact ⟨by rw [HE.out]; exact ret_two_str (by simp only [B_lit, B_cat, List.append_assoc]; try rfl), hb4⟩

set_option maxHeartbeats 4000000 in
theorem rdate_es (y m d : Nat) (w : World) (hd : dateB y m d = true) : Calls Tryd.prog 16 #[.string (B [101, 115]), .int .i64 y, .int .i64 m, .int .i64 d] w fun e w' => e = DateRet [101, 115] y m d ∧ Below w.heap.size w w' := by
  rw [date_some rfl hd]
  obtain ⟨a, b, c, ha, hb, hc, h1, h2, h3, h4, h5, h6⟩ := date_good hd
  obtain rfl : y = a := by omega
  obtain rfl : m = b := by omega
  obtain rfl : d = c := by omega
  have h31 := days_le y m
  have f0 : decide ((y : Int) < 1) = false := by simp; omega
  have f1 : decide (9999 < (y : Int)) = false := by simp; omega
  have f2 : decide ((m : Int) < 1) = false := by simp; omega
  have f3 : decide (12 < (m : Int)) = false := by simp; omega
  have f4 : decide ((d : Int) < 1) = false := by simp; omega
  have f5 : decide (daysL y m < d) = false := by simp; omega
  have hm12 : (0 : Int) ≤ (m : Int) - 1 := by omega
  have hm13 : (m : Int) - 1 < 12 := by omega
  have hly := dec_len y
  have hld := dec_len d
  have hlm := mon_len 3 m (by omega) h3 h4
  clear ha hb hc hd
  have C := rindex_any [101, 115] w
  rw [show ixL [101, 115] = 3 from rfl] at C
  have HC := Lib.hid C
  clear C
  have HE : Hid (dateL (lang4 [101, 115]) y m d = Lib.decDigits d ++ [32, 100, 101, 32] ++ monL 3 m ++ [32, 100, 101, 32] ++ Lib.decDigits y) := rfl
  go_enter Tryd.func16, Tryd.ntmps16
  go_wp2_with fail
  refine HC.out.mono ?_
  rintro e w1 ⟨rfl, hb1⟩
  clear HC
  go_wp2_with fail
  refine (rdays_any y m w1 h2 h3 h4).mono ?_
  rintro e w1 ⟨rfl, rfl⟩
  go_wp2_with fail
  refine (rmonths_es w1).mono ?_
  rintro e w2 ⟨rfl, hw⟩
  have hc := mon_cell 3 m (by omega) h3 h4 w1
  rw [hw] at hc
  have hb2 : Below w.heap.size w w2 := by rw [← hw]; exact hb1.alloc hb1.size _
  clear hw
  generalize monL 3 m = nn at *
  go_wp2_with fail
  refine (num_any d w2 (by omega)).mono ?_
  rintro e w3 ⟨rfl, rfl⟩
  go_wp2_with fail
  refine (num_any y w2 (by omega)).mono ?_
  rintro e w3 ⟨rfl, rfl⟩
  generalize Lib.decDigits y = dy at *
  generalize Lib.decDigits d = dd at *
  go_wp2
  go_ret2
  exact ⟨by rw [HE.out]; exact ret_two_str (by simp only [B_lit, B_cat, List.append_assoc]; try rfl), hb2⟩

theorem date_any (l : List UInt8) (y m d : Int) (w : World) (hG : GlobL w) : Calls Tryd.prog 15 #[.string (B l), .int .i64 y, .int .i64 m, .int .i64 d] w fun e w' => e = DateRet l y m d ∧ Below w.heap.size w w' := by
  by_cases hd : dateB y m d = true
  · obtain ⟨a, b, c, rfl, rfl, rfl, _⟩ := date_good hd
    rcases lang_cases l with rfl | rfl | rfl | rfl | ⟨_, _, _, _, h⟩
    · exact date_en a b c w hd hG
    · exact date_de a b c w hd hG
    · exact date_fr a b c w hd hG
    · exact date_es a b c w hd hG
    · exact date_no l _ _ _ w h
  · have hd : dateB y m d = false := by simpa using hd
    cases hk : knownB l with
    | true => exact date_range l y m d w hk hd
    | false =>
      rcases lang_cases l with rfl | rfl | rfl | rfl | ⟨_, _, _, _, h⟩
      · cases hk
      · cases hk
      · cases hk
      · cases hk
      · exact date_no l _ _ _ w h

theorem rdate_any (l : List UInt8) (y m d : Int) (w : World) : Calls Tryd.prog 16 #[.string (B l), .int .i64 y, .int .i64 m, .int .i64 d] w fun e w' => e = DateRet l y m d ∧ Below w.heap.size w w' := by
  by_cases hd : dateB y m d = true
  · obtain ⟨a, b, c, rfl, rfl, rfl, _⟩ := date_good hd
    rcases lang_cases l with rfl | rfl | rfl | rfl | ⟨_, _, _, _, h⟩
    · exact rdate_en a b c w hd
    · exact rdate_de a b c w hd
    · exact rdate_fr a b c w hd
    · exact rdate_es a b c w hd
    · exact rdate_no l _ _ _ w h
  · have hd : dateB y m d = false := by simpa using hd
    cases hk : knownB l with
    | true => exact rdate_range l y m d w hk hd
    | false =>
      rcases lang_cases l with rfl | rfl | rfl | rfl | ⟨_, _, _, _, h⟩
      · cases hk
      · cases hk
      · cases hk
      · cases hk
      · exact rdate_no l _ _ _ w h
end Go.Proofs.YtkndgkiglaacnaaDoor
