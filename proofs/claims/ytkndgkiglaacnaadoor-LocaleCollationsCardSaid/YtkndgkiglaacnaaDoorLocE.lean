/-
  Layer 28 (locale): numbers in Roman digits, on both sides.
-/
import Derived.Test.YtkndgkiglaacnaaDoorLocA
import Derived.OneCell
import Derived.Deep.LoopGhost
namespace Go.Proofs.YtkndgkiglaacnaaDoor
set_option linter.unusedSimpArgs false
open Go.RowKit
set_option linter.unusedVariables false
attribute [local go_sem] B_data B_size

/-- a text, so many times -/
def rep (k : Nat) (ds : List UInt8) : List UInt8 := (List.replicate k ds).flatten
theorem rep_succ (k : Nat) (ds : List UInt8) : rep (k + 1) ds = rep k ds ++ ds := by unfold rep; rw [List.replicate_succ', List.flatten_append]; simp
theorem rep_len (k : Nat) (ds : List UInt8) (h : ds.length ≤ 2) : (rep k ds).length ≤ 2 * k := by
  induction k with
  | zero => simp [rep]
  | succ k ih => rw [rep_succ, List.length_append]; omega
/-- one value taken off as often as it goes -/
def romStep (q : Nat × List UInt8) (p : Nat × List UInt8) : Nat × List UInt8 := (q.1 % p.1, q.2 ++ rep (q.1 / p.1) p.2)
def romT : List (Nat × List UInt8) := [(1000, [109]), (900, [99, 109]), (500, [100]), (400, [99, 100]), (100, [99]), (90, [120, 99]), (50, [108]), (40, [120, 108]), (10, [120]), (9, [105, 120]), (5, [118]), (4, [105, 118]), (1, [105])]
/-- what is left, and the digits, behind k values -/
def romK (n k : Nat) : Nat × List UInt8 := (romT.take k).foldl romStep (n, [])
def romS (n : Nat) : List UInt8 := (romK n 13).2
theorem romK_succ (n k : Nat) (h : k < 13) : romK n (k + 1) = romStep (romK n k) (romT.getD k (0, [])) := by
  unfold romK
  have hk : k < romT.length := h
  rw [List.take_succ_eq_append_getElem hk, List.foldl_append]
  simp [hk]
theorem rom_pos (k : Nat) (h : k < 13) : 1 ≤ (romT.getD k (0, [])).1 ∧ (romT.getD k (0, [])).1 ≤ 1000 ∧ (romT.getD k (0, [])).2.length ≤ 2 := by
  have : k = 0 ∨ k = 1 ∨ k = 2 ∨ k = 3 ∨ k = 4 ∨ k = 5 ∨ k = 6 ∨ k = 7 ∨ k = 8 ∨ k = 9 ∨ k = 10 ∨ k = 11 ∨ k = 12 := by omega
  rcases this with rfl | rfl | rfl | rfl | rfl | rfl | rfl | rfl | rfl | rfl | rfl | rfl | rfl <;> decide
theorem romStep_len (q p : Nat × List UInt8) (h1 : 1 ≤ p.1) (h2 : p.2.length ≤ 2) : (romStep q p).2.length + 2 * (romStep q p).1 ≤ q.2.length + 2 * q.1 := by
  unfold romStep
  have hr := rep_len (q.1 / p.1) p.2 h2
  have hd := Nat.div_add_mod q.1 p.1
  have : q.1 / p.1 ≤ p.1 * (q.1 / p.1) := Nat.le_mul_of_pos_left _ h1
  simp only [List.length_append]
  omega
theorem romK_len (n k : Nat) (h : k ≤ 13) : (romK n k).2.length + 2 * (romK n k).1 ≤ 2 * n := by
  induction k with
  | zero => simp [romK]
  | succ k ih =>
    rw [romK_succ n k (by omega)]
    have hp := rom_pos k (by omega)
    have := romStep_len (romK n k) (romT.getD k (0, [])) hp.1 hp.2.2
    have := ih (by omega)
    omega
theorem B_cat' (a b : List UInt8) : B a ++ B b = B (a ++ b) := B_cat a b

/-- a variable of one cell -/
def One (w : World) (b : Nat) (v : Value) (t : TypeId) : Prop := w.heap[b]? = some (.cells #[v] t (0, 0))
theorem One.cell {w : World} {b : Nat} {v : Value} {t : TypeId} (h : One w b v t) : w.cell? ⟨b, 0, none⟩ = some v := cell_of_one h
theorem One.free {w : World} {b : Nat} {v : Value} {t : TypeId} (h : One w b v t) : w.frozen? ⟨b, 0, none⟩ = false := free_of_one h
theorem One.set {w : World} {b : Nat} {v : Value} {t : TypeId} (h : One w b v t) (u : Value) : One (w.setCell ⟨b, 0, none⟩ u) b u t := one_setCell h
theorem One.other {w : World} {b c : Nat} {v : Value} {t : TypeId} (h : One w b v t) (hc : c ≠ b) (u : Value) : One (w.setCell ⟨c, 0, none⟩ u) b v t := by
  unfold One World.setCell at *
  simp only
  rw [Array.getElem?_modify, if_neg hc]
  exact h
theorem One.below {w w' : World} {b M : Nat} {v : Value} {t : TypeId} (h : One w b v t) (hb : Below M w w') (hM : b < M) : One w' b v t := (hb.block b hM).trans h


set_option maxHeartbeats 2000000 in
theorem put_any (v n : Nat) (ds s : List UInt8) (a b M : Nat) (w0 w : World) (hv : 1 ≤ v) (hv2 : v ≤ 1000) (hn : n ≤ 4000) (hs : s.length + 2 * n ≤ 8000) (hds : ds.length ≤ 2) (h1 : One w a (.int .i64 n) 3) (h2 : One w b (.string (B s)) 9) (hab : a ≠ b) (hb : Below M w0 w) (hM : M ≤ a) (hM2 : M ≤ b) :
    Calls Tryd.prog 39 #[.int .i64 v, .string (B ds), .pointer (some ⟨a, 0, none⟩), .pointer (some ⟨b, 0, none⟩)] w fun e w' => e = .returned (.tuple #[]) ∧ One w' a (.int .i64 ((n % v : Nat) : Int)) 3 ∧ One w' b (.string (B (s ++ rep (n / v) ds))) 9 ∧ Below M w0 w' := by
  have HX : Hid (n = n / v * v + n % v) := by have := Nat.div_add_mod n v; rw [Nat.mul_comm] at this; exact this.symm
  have hmod := Nat.mod_lt n (show v > 0 by omega)
  have HL : Hid (∀ k, k ≤ n / v → (s ++ rep (n / v - k) ds).length ≤ 8000) := by
    intro k hk
    have := rep_len (n / v - k) ds hds
    have h3 : n / v ≤ n := Nat.div_le_self n v
    rw [List.length_append]; omega
  generalize hr : n % v = r at *
  generalize hq : n / v = q at *
  clear hr hq
  rw [HX.out] at h1
  clear hs
  go_enter Tryd.func39, Tryd.ntmps39
  go_wp2
  go_loopg [6] q (fun k p wr => k ≤ q ∧ One wr a (.int .i64 ((k * v + r : Nat) : Int)) 3 ∧ One wr b (.string (B (s ++ rep (q - k) ds))) 9 ∧ Below M w0 wr)
  case atStart => exact ⟨Nat.le_refl _, h1, by rw [Nat.sub_self]; simpa [rep] using h2, hb⟩
  case round =>
    obtain ⟨hk, g1, g2, hbw⟩ := hrel
    have c1 := g1.cell
    have c2 := g2.cell
    have f1 := g1.free
    have f2 := g2.free
    have hl := HL.out gk hk
    by_cases h0 : gk = 0
    · subst h0
      rw [Nat.zero_mul, Nat.zero_add] at c1 g1
      rw [Nat.sub_zero] at c2 g2
      go_wp2
      go_end0
      exact ⟨rfl, g1, g2, hbw⟩
    · obtain ⟨j, rfl⟩ : ∃ j, gk = j + 1 := ⟨gk - 1, by omega⟩
      have G1 : One ((wr.setCell ⟨b, 0, none⟩ (.string (B (s ++ rep (q - (j + 1)) ds) ++ B ds))).setCell ⟨a, 0, none⟩ (.int .i64 ((j * v + r : Nat) : Int))) a (.int .i64 ((j * v + r : Nat) : Int)) 3 := (g1.other (fun e => hab e.symm) _).set _
      have G2 : One ((wr.setCell ⟨b, 0, none⟩ (.string (B (s ++ rep (q - (j + 1)) ds) ++ B ds))).setCell ⟨a, 0, none⟩ (.int .i64 ((j * v + r : Nat) : Int))) b (.string (B (s ++ rep (q - j) ds))) 9 := by
        have e : B (s ++ rep (q - (j + 1)) ds) ++ B ds = B (s ++ rep (q - j) ds) := by
          rw [B_cat, show q - j = (q - (j + 1)) + 1 from by omega, rep_succ, List.append_assoc]
        rw [e]
        exact (g2.set _).other hab _
      have GB : Below M w0 ((wr.setCell ⟨b, 0, none⟩ (.string (B (s ++ rep (q - (j + 1)) ds) ++ B ds))).setCell ⟨a, 0, none⟩ (.int .i64 ((j * v + r : Nat) : Int))) := (hbw.setCell (p := ⟨b, 0, none⟩) hM2 _).setCell (p := ⟨a, 0, none⟩) hM _
      have c3 : (wr.setCell ⟨b, 0, none⟩ (.string (B (s ++ rep (q - (j + 1)) ds) ++ B ds))).cell? ⟨a, 0, none⟩ = some (.int .i64 (((j + 1) * v + r : Nat) : Int)) := (g1.other (fun e => hab e.symm) _).cell
      have f3 : (wr.setCell ⟨b, 0, none⟩ (.string (B (s ++ rep (q - (j + 1)) ds) ++ B ds))).frozen? ⟨a, 0, none⟩ = false := (g1.other (fun e => hab e.symm) _).free
      have eN : (((j + 1) * v + r : Nat) : Int) = ((j * v + r : Nat) : Int) + (v : Int) := by rw [Nat.add_mul]; omega
      have hN2 : (j + 1) * v + r ≤ n := by rw [HX.out]; exact Nat.add_le_add_right (Nat.mul_le_mul_right _ hk) _
      rw [eN] at c1 c3
      have hN : j * v + r ≤ 4000 := by rw [Nat.add_mul] at hN2; omega
      clear eN hN2 HX HL g1 g2 h1 h2 hb
      generalize hm : j * v + r = m at *
      have HM := Lib.hid hm
      clear hm
      generalize s ++ rep (q - (j + 1)) ds = t at *
      go_wp2
      go_roundg j
      case measure => omega
      case rel => exact ⟨by omega, by rw [HM.out]; exact G1, G2, GB⟩

theorem put_k (k m a b M : Nat) (w0 w : World) (hk : k < 13) (hm : m ≤ 3999) (h1 : One w a (.int .i64 ((romK m k).1 : Nat)) 3) (h2 : One w b (.string (B (romK m k).2)) 9) (hab : a ≠ b) (hb : Below M w0 w) (hM : M ≤ a) (hM2 : M ≤ b) :
    Calls Tryd.prog 39 #[.int .i64 ((romT.getD k (0, [])).1 : Nat), .string (B (romT.getD k (0, [])).2), .pointer (some ⟨a, 0, none⟩), .pointer (some ⟨b, 0, none⟩)] w fun e w' => e = .returned (.tuple #[]) ∧ One w' a (.int .i64 ((romK m (k + 1)).1 : Nat)) 3 ∧ One w' b (.string (B (romK m (k + 1)).2)) 9 ∧ Below M w0 w' := by
  have hp := rom_pos k hk
  have hl := romK_len m k (by omega)
  rw [romK_succ m k hk]
  exact put_any _ _ _ _ a b M w0 w hp.1 hp.2.1 (by omega) (by omega) hp.2.2 h1 h2 hab hb hM hM2
/-- what Roman returns -/
def romR (n : Int) : List UInt8 := if n < 1 ∨ 3999 < n then [] else romS n.toNat
def romE (n : Int) : Int := if n < 1 ∨ 3999 < n then 9 else 0
def RomRet (n : Int) : Ending := .returned (.tuple #[.string (B (romR n)), .int .i64 (romE n)])
theorem rom_out {n : Int} (h : n < 1 ∨ 3999 < n) : RomRet n = .returned (.tuple #[.string ⟨#[]⟩, .int .i64 9]) := by unfold RomRet romR romE; rw [if_pos h, if_pos h]; rfl
theorem rom_in {m : Nat} (h1 : 1 ≤ m) (h2 : m ≤ 3999) : RomRet m = .returned (.tuple #[.string (B (romS m)), .int .i64 0]) := by unfold RomRet romR romE; rw [if_neg (by omega), if_neg (by omega), Int.toNat_natCast]
set_option maxHeartbeats 4000000 in
theorem roman_any (n : Int) (w : World) : Calls Tryd.prog 18 #[.int .i64 n] w fun e w' => e = RomRet n ∧ Below w.heap.size w w' := by
  by_cases hn : n < 1 ∨ 3999 < n
  · rw [rom_out hn]
    by_cases h1 : n < 1
    · have d1 : decide (n < 1) = true := by simpa using h1
      go_enter Tryd.func18, Tryd.ntmps18
      go_wp2
      go_ret2
      exact ⟨rfl, below_alloc _ _⟩
    · have d1 : decide (n < 1) = false := by simpa using h1
      have d2 : decide (3999 < n) = true := by simp; omega
      go_enter Tryd.func18, Tryd.ntmps18
      go_wp2
      go_ret2
      exact ⟨rfl, below_alloc _ _⟩
  · obtain ⟨m, rfl⟩ : ∃ m : Nat, n = m := ⟨n.toNat, by omega⟩
    have h1 : 1 ≤ m := by omega
    have h2 : m ≤ 3999 := by omega
    rw [rom_in h1 h2]
    have d1 : decide ((m : Int) < 1) = false := by simp; omega
    have d2 : decide (3999 < (m : Int)) = false := by simp; omega
    clear hn
    have g1 : One ((w.alloc (.cells #[.int .i64 (m : Int)] 3)).alloc (.cells #[.string ⟨#[]⟩] 9)) w.heap.size (.int .i64 ((romK m 0).1 : Nat)) 3 := by
      unfold One
      rw [Lib.alloc_old _ _ _ (by simp)]
      exact heap_alloc_new w _
    have g2 : One ((w.alloc (.cells #[.int .i64 (m : Int)] 3)).alloc (.cells #[.string ⟨#[]⟩] 9)) (w.heap.size + 1) (.string (B (romK m 0).2)) 9 := by
      have := heap_alloc_new (w.alloc (.cells #[.int .i64 (m : Int)] 3)) (.cells #[.string ⟨#[]⟩] 9)
      rw [show (w.alloc (.cells #[.int .i64 (m : Int)] 3)).heap.size = w.heap.size + 1 from by simp] at this
      exact this
    have hb : Below w.heap.size w ((w.alloc (.cells #[.int .i64 (m : Int)] 3)).alloc (.cells #[.string ⟨#[]⟩] 9)) := ((Below.refl _ _).alloc (Nat.le_refl _) _).alloc (by simp) _
    go_enter Tryd.func18, Tryd.ntmps18
    go_wp2_with fail
    generalize ((w.alloc (.cells #[.int .i64 (m : Int)] 3)).alloc (.cells #[.string ⟨#[]⟩] 9)) = w1 at *
    refine (put_k 0 m w.heap.size (w.heap.size + 1) w.heap.size w _ (by omega) h2 g1 g2 (by omega) hb (Nat.le_refl _) (by omega)).mono ?_
    rintro e w2 ⟨rfl, x1, x2, xb⟩
    clear g1 g2 hb
    have g1 := x1; have g2 := x2; have hb := xb
    clear x1 x2 xb
    go_wp2_with fail
    refine (put_k 1 m w.heap.size (w.heap.size + 1) w.heap.size w _ (by omega) h2 g1 g2 (by omega) hb (Nat.le_refl _) (by omega)).mono ?_
    rintro e w3 ⟨rfl, x1, x2, xb⟩
    clear g1 g2 hb
    have g1 := x1; have g2 := x2; have hb := xb
    clear x1 x2 xb
    go_wp2_with fail
    refine (put_k 2 m w.heap.size (w.heap.size + 1) w.heap.size w _ (by omega) h2 g1 g2 (by omega) hb (Nat.le_refl _) (by omega)).mono ?_
    rintro e w4 ⟨rfl, x1, x2, xb⟩
    clear g1 g2 hb
    have g1 := x1; have g2 := x2; have hb := xb
    clear x1 x2 xb
    go_wp2_with fail
    refine (put_k 3 m w.heap.size (w.heap.size + 1) w.heap.size w _ (by omega) h2 g1 g2 (by omega) hb (Nat.le_refl _) (by omega)).mono ?_
    rintro e w5 ⟨rfl, x1, x2, xb⟩
    clear g1 g2 hb
    have g1 := x1; have g2 := x2; have hb := xb
    clear x1 x2 xb
    go_wp2_with fail
    refine (put_k 4 m w.heap.size (w.heap.size + 1) w.heap.size w _ (by omega) h2 g1 g2 (by omega) hb (Nat.le_refl _) (by omega)).mono ?_
    rintro e w6 ⟨rfl, x1, x2, xb⟩
    clear g1 g2 hb
    have g1 := x1; have g2 := x2; have hb := xb
    clear x1 x2 xb
    go_wp2_with fail
    refine (put_k 5 m w.heap.size (w.heap.size + 1) w.heap.size w _ (by omega) h2 g1 g2 (by omega) hb (Nat.le_refl _) (by omega)).mono ?_
    rintro e w7 ⟨rfl, x1, x2, xb⟩
    clear g1 g2 hb
    have g1 := x1; have g2 := x2; have hb := xb
    clear x1 x2 xb
    go_wp2_with fail
    refine (put_k 6 m w.heap.size (w.heap.size + 1) w.heap.size w _ (by omega) h2 g1 g2 (by omega) hb (Nat.le_refl _) (by omega)).mono ?_
    rintro e w8 ⟨rfl, x1, x2, xb⟩
    clear g1 g2 hb
    have g1 := x1; have g2 := x2; have hb := xb
    clear x1 x2 xb
    go_wp2_with fail
    refine (put_k 7 m w.heap.size (w.heap.size + 1) w.heap.size w _ (by omega) h2 g1 g2 (by omega) hb (Nat.le_refl _) (by omega)).mono ?_
    rintro e w9 ⟨rfl, x1, x2, xb⟩
    clear g1 g2 hb
    have g1 := x1; have g2 := x2; have hb := xb
    clear x1 x2 xb
    go_wp2_with fail
    refine (put_k 8 m w.heap.size (w.heap.size + 1) w.heap.size w _ (by omega) h2 g1 g2 (by omega) hb (Nat.le_refl _) (by omega)).mono ?_
    rintro e w10 ⟨rfl, x1, x2, xb⟩
    clear g1 g2 hb
    have g1 := x1; have g2 := x2; have hb := xb
    clear x1 x2 xb
    go_wp2_with fail
    refine (put_k 9 m w.heap.size (w.heap.size + 1) w.heap.size w _ (by omega) h2 g1 g2 (by omega) hb (Nat.le_refl _) (by omega)).mono ?_
    rintro e w11 ⟨rfl, x1, x2, xb⟩
    clear g1 g2 hb
    have g1 := x1; have g2 := x2; have hb := xb
    clear x1 x2 xb
    go_wp2_with fail
    refine (put_k 10 m w.heap.size (w.heap.size + 1) w.heap.size w _ (by omega) h2 g1 g2 (by omega) hb (Nat.le_refl _) (by omega)).mono ?_
    rintro e w12 ⟨rfl, x1, x2, xb⟩
    clear g1 g2 hb
    have g1 := x1; have g2 := x2; have hb := xb
    clear x1 x2 xb
    go_wp2_with fail
    refine (put_k 11 m w.heap.size (w.heap.size + 1) w.heap.size w _ (by omega) h2 g1 g2 (by omega) hb (Nat.le_refl _) (by omega)).mono ?_
    rintro e w13 ⟨rfl, x1, x2, xb⟩
    clear g1 g2 hb
    have g1 := x1; have g2 := x2; have hb := xb
    clear x1 x2 xb
    go_wp2_with fail
    refine (put_k 12 m w.heap.size (w.heap.size + 1) w.heap.size w _ (by omega) h2 g1 g2 (by omega) hb (Nat.le_refl _) (by omega)).mono ?_
    rintro e w14 ⟨rfl, x1, x2, xb⟩
    clear g1 g2 hb
    have g1 := x1; have g2 := x2; have hb := xb
    clear x1 x2 xb
    have c := g2.cell
    have HS : Hid ((romK m (12 + 1)).2 = romS m) := rfl
    rw [HS.out] at c
    go_wp2
    go_ret2
    exact ⟨rfl, hb⟩

def romV : Array Value := #[.int .i64 1000, .int .i64 900, .int .i64 500, .int .i64 400, .int .i64 100, .int .i64 90, .int .i64 50, .int .i64 40, .int .i64 10, .int .i64 9, .int .i64 5, .int .i64 4, .int .i64 1]
def romD : Array Value := #[.string ⟨#[109]⟩, .string ⟨#[99, 109]⟩, .string ⟨#[100]⟩, .string ⟨#[99, 100]⟩, .string ⟨#[99]⟩, .string ⟨#[120, 99]⟩, .string ⟨#[108]⟩, .string ⟨#[120, 108]⟩, .string ⟨#[120]⟩, .string ⟨#[105, 120]⟩, .string ⟨#[118]⟩, .string ⟨#[105, 118]⟩, .string ⟨#[105]⟩]
theorem rom_cells (w : World) (k : Nat) (h : k < 13) : ((w.alloc (.cells romV 3)).alloc (.cells romD 9)).cell? ⟨w.heap.size, k, none⟩ = some (.int .i64 ((romT.getD k (0, [])).1 : Nat)) ∧ ((w.alloc (.cells romV 3)).alloc (.cells romD 9)).cell? ⟨w.heap.size + 1, k, none⟩ = some (.string (B (romT.getD k (0, [])).2)) := by
  have e1 : ((w.alloc (.cells romV 3)).alloc (.cells romD 9)).heap[w.heap.size]? = some (.cells romV 3 (0, 0)) := by
    rw [Lib.alloc_old _ _ _ (by simp)]; exact heap_alloc_new w _
  have e2 : ((w.alloc (.cells romV 3)).alloc (.cells romD 9)).heap[w.heap.size + 1]? = some (.cells romD 9 (0, 0)) := by
    simpa using heap_alloc_new (w.alloc (.cells romV 3)) (.cells romD 9)
  rw [cell_of_row _ w.heap.size k romV 3 (0, 0) e1, cell_of_row _ (w.heap.size + 1) k romD 9 (0, 0) e2]
  have : k = 0 ∨ k = 1 ∨ k = 2 ∨ k = 3 ∨ k = 4 ∨ k = 5 ∨ k = 6 ∨ k = 7 ∨ k = 8 ∨ k = 9 ∨ k = 10 ∨ k = 11 ∨ k = 12 := by omega
  rcases this with rfl | rfl | rfl | rfl | rfl | rfl | rfl | rfl | rfl | rfl | rfl | rfl | rfl <;> exact ⟨rfl, rfl⟩
set_option maxHeartbeats 4000000 in
theorem rroman_any (n : Int) (w : World) : Calls Tryd.prog 21 #[.int .i64 n] w fun e w' => e = RomRet n ∧ Below w.heap.size w w' := by
  by_cases hn : n < 1 ∨ 3999 < n
  · rw [rom_out hn]
    by_cases h1 : n < 1
    · have d1 : decide (n < 1) = true := by simpa using h1
      go_enter Tryd.func21, Tryd.ntmps21
      go_wp2
      go_ret2
      exact ⟨rfl, Below.refl _ _⟩
    · have d1 : decide (n < 1) = false := by simpa using h1
      have d2 : decide (3999 < n) = true := by simp; omega
      go_enter Tryd.func21, Tryd.ntmps21
      go_wp2
      go_ret2
      exact ⟨rfl, Below.refl _ _⟩
  · obtain ⟨m, rfl⟩ : ∃ m : Nat, n = m := ⟨n.toNat, by omega⟩
    have h1 : 1 ≤ m := by omega
    have h2 : m ≤ 3999 := by omega
    rw [rom_in h1 h2]
    have d1 : decide ((m : Int) < 1) = false := by simp; omega
    have d2 : decide (3999 < (m : Int)) = false := by simp; omega
    clear hn
    have HC := Lib.hid (rom_cells w)
    have hb : Below w.heap.size w ((w.alloc (.cells romV 3)).alloc (.cells romD 9)) := ((Below.refl _ _).alloc (Nat.le_refl _) _).alloc (by simp) _
    go_enter Tryd.func21, Tryd.ntmps21
    go_wp2
    obtain ⟨W, hW⟩ : ∃ W, W = ((w.alloc (.cells romV 3)).alloc (.cells romD 9)) := ⟨_, rfl⟩
    change Code.wp _ _ _ _ ((w.alloc (.cells romV 3)).alloc (.cells romD 9))
    rw [← hW] at HC hb ⊢
    clear hW d1 d2
    go_loop [0, 6, 7] (fun n s i => ∃ k : Nat, k ≤ 13 ∧ i = .int .i64 k ∧ n = .int .i64 ((romK m k).1 : Nat) ∧ s = .string (B (romK m k).2)) (fun _ _ i => 13 - (intOf i).toNat)
    case atStart => exact ⟨0, by omega, rfl, rfl, rfl⟩
    case round =>
      obtain ⟨k, hk, rfl, rfl, rfl⟩ := hrel
      by_cases hlt : k < 13
      · obtain ⟨c1, c2⟩ := HC.out k hlt
        have hp := rom_pos k hlt
        have hl := romK_len m k hk
        have HS := Lib.hid (romK_succ m k hlt)
        generalize romT.getD k (0, []) = q at *
        obtain ⟨v, ds⟩ := q
        generalize romK m k = st at *
        obtain ⟨N, S⟩ := st
        simp only at hp hl c1 c2
        obtain ⟨hv1, hv2, hds⟩ := hp
        have HR : Hid (∀ j, (S ++ rep j ds).length ≤ S.length + 2 * j) := fun j => by have := rep_len j ds hds; rw [List.length_append]; omega
        go_wp2
        go_loop [0, 6] (fun n s => ∃ a j : Nat, Hid (a + j * v = N) ∧ a ≤ N ∧ j ≤ N ∧ n = .int .i64 (a : Nat) ∧ s = .string (B (S ++ rep j ds))) (fun n _ => (intOf n).toNat)
        case atStart => exact ⟨N, 0, by simp [Hid], Nat.le_refl _, by omega, rfl, by simp [rep]⟩
        case round =>
          obtain ⟨a, j, ha, haN, hjN, rfl, rfl⟩ := hrel
          have hlen := HR.out j
          by_cases hva : v ≤ a
          · have HA : Hid ((a - v) + (j + 1) * v = N) := by rw [← ha.out, Nat.add_mul]; unfold Hid; omega
            have HJ : Hid (j + 1 ≤ N) := by
              have : (j + 1) * 1 ≤ (j + 1) * v := Nat.mul_le_mul_left _ hv1
              have := HA.out
              unfold Hid; omega
            have HB : Hid (B (S ++ rep j ds) ++ B ds = B (S ++ rep (j + 1) ds)) := by rw [B_cat, rep_succ, List.append_assoc]; rfl
            have hi : (v : Int) ≤ (a : Int) := by omega
            generalize S ++ rep j ds = t at *
            go_wp2
            go_round
            case rel => exact ⟨a - v, j + 1, HA, by omega, HJ.out, by congr 1; omega, by rw [HB.out]⟩
            case measure => simp [intOf]; omega
          · have hdiv : N / v = j ∧ N % v = a := by
              rw [← ha.out]
              constructor
              · rw [Nat.add_mul_div_right _ _ (by omega), Nat.div_eq_of_lt (by omega)]; omega
              · rw [Nat.add_mul_mod_self_right, Nat.mod_eq_of_lt (by omega)]
            have HE : Hid (romK m (k + 1) = (a, S ++ rep j ds)) := by
              rw [HS.out]; unfold romStep Hid; simp only; rw [hdiv.1, hdiv.2]
            clear hdiv
            have hi : (a : Int) < (v : Int) := by omega
            go_wp2
            go_round
            case rel => exact ⟨k + 1, by omega, by go_num, by rw [HE.out], by rw [HE.out]⟩
            case measure => simp [intOf]; omega
      · obtain rfl : k = 13 := by omega
        have HS : Hid ((romK m 13).2 = romS m) := rfl
        rw [HS.out]
        go_wp2
        go_ret2
        exact ⟨rfl, hb⟩
end Go.Proofs.YtkndgkiglaacnaaDoor
