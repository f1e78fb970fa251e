/-
  Layer 49 (project): a line that gives a name a value; numbers; the text of a project in parts.
-/
import Derived.Test.YtmkenekngaihhaaGreatDoorPjF
namespace Go.Proofs.YtmkenekngaihhaaGreatDoor
open Go.RowKit
set_option linter.unusedVariables false
set_option linter.unusedSimpArgs false
attribute [local go_sem] B_data B_size

theorem B_cat (a b : List UInt8) : B a ++ B b = B (a ++ b) := by
  apply ByteArray.ext; simp [B]
def lnL (n v : List UInt8) : List UInt8 := setL n v ++ [10]
theorem lnL_nil (n : List UInt8) : lnL n [] = n ++ [32, 61, 10] := by simp [lnL, setL, eqTail]
theorem lnL_some (n v : List UInt8) (h : v ≠ []) : lnL n v = n ++ [32, 61, 32] ++ v ++ [10] := by simp [lnL, setL, eqTail, h]
theorem lnL_len (n v : List UInt8) : (lnL n v).length ≤ n.length + v.length + 4 := by
  by_cases h : v = []
  · subst h; rw [lnL_nil]; simp
  · rw [lnL_some n v h]; simp; omega
set_option maxHeartbeats 1000000 in
theorem setting_any (n v : List UInt8) (w : World) (hn : n.length ≤ 1000000000) (hv : v.length ≤ 1000000000) :
    Calls Tryz.prog 30 #[.string (B n), .string (B v)] w fun e w' => e = .returned (.string (B (lnL n v))) ∧ w = w' := by
  have h1 := B_size n
  have h2 := B_size v
  by_cases h : v = []
  · subst h
    have HX := Lib.hid (lnL_nil n)
    have H2 := Lib.hid h2
    clear h2
    go_enter Tryz.func30, Tryz.ntmps30
    go_wp2
    go_ret
    exact ⟨ret_str (by rw [HX.out, ← B_cat]; rfl), rfl⟩
  · have HX := Lib.hid (lnL_some n v h)
    have e1 : (v == []) = false := by simpa using h
    clear h
    go_enter Tryz.func30, Tryz.ntmps30
    go_wp2
    go_ret
    exact ⟨ret_str (by rw [HX.out, ← B_cat, ← B_cat, ← B_cat]; rfl), rfl⟩
set_option maxHeartbeats 1000000 in
theorem assigned_any (n v : List UInt8) (w : World) (hn : n.length ≤ 1000000000) (hv : v.length ≤ 1000000000) :
    Calls Tryz.prog 33 #[.string (B n), .string (B v)] w fun e w' => e = .returned (.string (B (lnL n v))) ∧ w = w' := by
  have h1 := B_size n
  have h2 := B_size v
  by_cases h : v = []
  · subst h
    have HX := Lib.hid (lnL_nil n)
    have H2 := Lib.hid h2
    clear h2
    go_enter Tryz.func33, Tryz.ntmps33
    go_wp2
    go_ret
    exact ⟨ret_str (by rw [HX.out, ← B_cat]; rfl), rfl⟩
  · have HX := Lib.hid (lnL_some n v h)
    have e1 : (v == []) = false := by simpa using h
    clear h
    go_enter Tryz.func33, Tryz.ntmps33
    go_wp2
    go_ret
    exact ⟨ret_str (by rw [HX.out, ← B_cat, ← B_cat, ← B_cat]; rfl), rfl⟩
theorem digit_at (k : Nat) (h : k < 10) : (⟨#[48, 49, 50, 51, 52, 53, 54, 55, 56, 57]⟩ : ByteArray).extract k (k + 1) = B [UInt8.ofNat (48 + k)] := by
  rw [B_extract, show (⟨#[48, 49, 50, 51, 52, 53, 54, 55, 56, 57]⟩ : ByteArray).toList = [48, 49, 50, 51, 52, 53, 54, 55, 56, 57] from B_data _]
  have : k = 0 ∨ k = 1 ∨ k = 2 ∨ k = 3 ∨ k = 4 ∨ k = 5 ∨ k = 6 ∨ k = 7 ∨ k = 8 ∨ k = 9 := by omega
  rcases this with rfl | rfl | rfl | rfl | rfl | rfl | rfl | rfl | rfl | rfl <;> rfl
theorem numS_small (n : Nat) (h : n < 10) : numS n = [UInt8.ofNat (48 + n % 10)] := by rw [numS_lt n h, Nat.mod_eq_of_lt h]
theorem numS_len (n : Nat) : (numS n).length ≤ n + 1 := by
  induction n using Nat.strongRecOn with
  | ind n ih =>
    by_cases h : n < 10
    · rw [numS_lt n h]; simp
    · rw [numS_ge n h]
      have := ih (n / 10) (by omega)
      simp; omega
theorem numS_dec (n : Nat) : Lib.decDigits n = numS n := by
  induction n using Nat.strongRecOn with
  | ind n ih =>
    by_cases h : n < 10
    · rw [numS_lt n h, Lib.decDigits, dif_pos h]
    · rw [numS_ge n h, Lib.decDigits, dif_neg h, ih (n / 10) (by omega)]
theorem itoaS_any (n : Nat) (w : World) (hn : n ≤ 1000000) (hG : GlobL w) : Calls Tryz.prog 31 #[.int .i64 n] w fun e w' => e = .returned (.string (B (numS n))) ∧ Below w.heap.size w w' := by
  have := itoa_any n w hn hG
  rw [numS_dec] at this
  exact this
set_option maxHeartbeats 1000000 in
theorem rnum_any : ∀ (n : Nat) (w : World), n ≤ 1000000 → Calls Tryz.prog 34 #[.int .i64 n] w fun e w' => e = .returned (.string (B (numS n))) ∧ w = w' := by
  intro n
  induction n using Nat.strongRecOn with
  | ind n ih =>
    intro w hn
    have HX := Lib.hid (digit_at (n % 10) (by omega))
    have IH := Lib.hid (ih (n / 10))
    clear ih
    by_cases h : n < 10
    · have HD := Lib.hid (numS_small n h)
      go_enter Tryz.func34, Tryz.ntmps34
      go_wp2
      go_ret
      exact ⟨ret_str (by rw [HX.out, HD.out]), rfl⟩
    · have HD := Lib.hid (numS_ge n h)
      have C := IH.out (by omega) w (by omega)
      rw [show ((n / 10 : Nat) : Int) = (n : Int) / 10 from by omega] at C
      have HC := Lib.hid C
      clear C IH
      go_enter Tryz.func34, Tryz.ntmps34
      go_wp2_with fail
      refine HC.out.mono ?_
      rintro e w1 ⟨rfl, rfl⟩
      have hl := numS_len (n / 10)
      have hx := HX.out
      go_wp2
      go_ret
      exact ⟨ret_str (by rw [B_cat, HD.out]; simp), rfl⟩

/-- the first five lines -/
def hd5 (p : Pj) : List UInt8 := lnL [116, 105, 116, 108, 101] p.ti ++ lnL [108, 97, 110, 103] p.la ++ lnL [109, 97, 105, 110] p.ma ++ lnL [115, 111, 117, 114, 99, 101, 115] p.so ++ lnL [115, 116, 121, 108, 101] p.st
def varL (v : List UInt8 × List UInt8) : List UInt8 := lnL ([118, 97, 114, 32] ++ v.1) v.2
def flL (f : List UInt8) : List UInt8 := [102, 108, 97, 103, 32] ++ f ++ [10]
def tgL (t : Tg) : List UInt8 := targetL t ++ [10]
theorem textP_eq (p : Pj) : textP p = hd5 p ++ p.vs.flatMap varL ++ p.fs.flatMap flL ++ p.ts.flatMap tgL := by
  unfold textP linesP hd5
  simp only [List.flatMap_append, List.flatMap_cons, List.flatMap_nil, List.append_nil, List.flatMap_map]
  unfold lnL varL flL tgL lnL
  simp only [List.append_assoc]
theorem flat_take {α : Type} {l : List α} {f : α → List UInt8} {j : Nat} {x : α} (h : l[j]? = some x) : (l.take (j + 1)).flatMap f = (l.take j).flatMap f ++ f x := by
  rw [take_one h]; simp
theorem hd5_len {p : Pj} (hs : PjSm p) : (hd5 p).length ≤ 5000100 := by
  have := lnL_len [116, 105, 116, 108, 101] p.ti
  have := lnL_len [108, 97, 110, 103] p.la
  have := lnL_len [109, 97, 105, 110] p.ma
  have := lnL_len [115, 111, 117, 114, 99, 101, 115] p.so
  have := lnL_len [115, 116, 121, 108, 101] p.st
  have h1 := hs.ti
  have h2 := hs.la
  have h3 := hs.ma
  have h4 := hs.so
  have h5 := hs.st
  unfold hd5
  simp only [List.length_append, List.length_cons, List.length_nil] at *
  omega
theorem varL_len {v : List UInt8 × List UInt8} (h : v.1.length ≤ 1000000 ∧ v.2.length ≤ 1000000) : (varL v).length ≤ 2000100 := by
  have := lnL_len ([118, 97, 114, 32] ++ v.1) v.2
  unfold varL
  simp only [List.length_append, List.length_cons, List.length_nil] at *
  omega
theorem flL_len {f : List UInt8} (h : f.length ≤ 1000000) : (flL f).length ≤ 1000100 := by
  unfold flL
  simp only [List.length_append, List.length_cons, List.length_nil]
  omega
end Go.Proofs.YtmkenekngaihhaaGreatDoor
