/-
  Layer 28 (locale): the plain law of LocaleDiffer: two different dates, and two different numbers in Roman digits, are written differently.
-/
import Derived.Test.YtkndgkiglaacnaaDoorLocC
import Derived.Test.YtkndgkiglaacnaaDoorLocE
namespace Go.Proofs.YtkndgkiglaacnaaDoor
open Go.RowKit
set_option linter.unusedVariables false

theorem split_first (c : UInt8) : ∀ (A A' R R' : List UInt8), c ∉ A → c ∉ A' → A ++ c :: R = A' ++ c :: R' → A = A' ∧ R = R' := by
  intro A
  induction A with
  | nil =>
    intro A' R R' _ h' e
    cases A' with
    | nil => simpa using e
    | cons x r =>
      simp only [List.nil_append, List.cons_append, List.cons.injEq] at e
      exact absurd (by rw [e.1]; simp) h'
  | cons x r ih =>
    intro A' R R' h h' e
    cases A' with
    | nil =>
      simp only [List.nil_append, List.cons_append, List.cons.injEq] at e
      exact absurd (by rw [← e.1]; simp) h
    | cons y q =>
      simp only [List.cons_append, List.cons.injEq] at e
      obtain ⟨rfl, e⟩ := e
      obtain ⟨rfl, rfl⟩ := ih q R R' (fun m => h (by simp [m])) (fun m => h' (by simp [m])) e
      exact ⟨rfl, rfl⟩
theorem dig_toNat (k : Nat) (h : k < 10) : (UInt8.ofNat (48 + k)).toNat = 48 + k := by
  rw [UInt8.toNat_ofNat']; omega
theorem dec_digit (n : Nat) : ∀ b ∈ Lib.decDigits n, 48 ≤ b.toNat ∧ b.toNat ≤ 57 := by
  induction n using Nat.strongRecOn with
  | ind n ih =>
    intro b hb
    by_cases h : n < 10
    · rw [dec_small n h] at hb
      simp only [List.mem_singleton] at hb
      rw [hb, dig_toNat _ (by omega)]; omega
    · rw [dec_big n h, List.mem_append] at hb
      rcases hb with hb | hb
      · exact ih (n / 10) (by omega) b hb
      · simp only [List.mem_singleton] at hb
        rw [hb, dig_toNat _ (by omega)]; omega
def valD (l : List UInt8) : Nat := l.foldl (fun a c => a * 10 + (c.toNat - 48)) 0
theorem valD_dec (n : Nat) : valD (Lib.decDigits n) = n := by
  induction n using Nat.strongRecOn with
  | ind n ih =>
    by_cases h : n < 10
    · rw [dec_small n h]
      simp only [valD, List.foldl_cons, List.foldl_nil]
      rw [dig_toNat _ (by omega)]; omega
    · rw [dec_big n h]
      have := ih (n / 10) (by omega)
      unfold valD at this ⊢
      rw [List.foldl_append, this]
      simp only [List.foldl_cons, List.foldl_nil]
      rw [dig_toNat _ (by omega)]; omega
theorem dec_inj {a b : Nat} (h : Lib.decDigits a = Lib.decDigits b) : a = b := by rw [← valD_dec a, h, valD_dec]
theorem no_dig (c : UInt8) (h : c.toNat < 48 ∨ 57 < c.toNat) (n : Nat) : c ∉ Lib.decDigits n := fun m => by have := dec_digit n c m; omega
theorem m12 {m : Nat} (h1 : 1 ≤ m) (h2 : m ≤ 12) : m = 1 ∨ m = 2 ∨ m = 3 ∨ m = 4 ∨ m = 5 ∨ m = 6 ∨ m = 7 ∨ m = 8 ∨ m = 9 ∨ m = 10 ∨ m = 11 ∨ m = 12 := by omega
theorem mon_sp : ∀ i, i < 4 → ∀ m, m < 13 → (32 : UInt8) ∉ monL i m := by decide +kernel
theorem mon_injB : ∀ i, i < 4 → ∀ m, m < 12 → ∀ k, k < 12 → (monL i (m + 1) == monL i (k + 1)) = decide (m = k) := by decide +kernel
theorem mon_inj0 (i : Nat) (hi : i < 4) (m : Nat) (hm : m < 13) (k : Nat) (hk : k < 13) (h1 : 1 ≤ m) (h2 : 1 ≤ k) (e : monL i m = monL i k) : m = k := by
  obtain ⟨a, rfl⟩ : ∃ a, m = a + 1 := ⟨m - 1, by omega⟩
  obtain ⟨b, rfl⟩ : ∃ b, k = b + 1 := ⟨k - 1, by omega⟩
  have := mon_injB i hi a (by omega) b (by omega)
  rw [e] at this
  simp at this
  omega
theorem date_inj (i y m d y' m' d' : Nat) (hi : i < 4) (h1 : 1 ≤ m) (h2 : m ≤ 12) (h1' : 1 ≤ m') (h2' : m' ≤ 12) (e : dateL i y m d = dateL i y' m' d') : y = y' ∧ m = m' ∧ d = d' := by
  have s1 := mon_sp i hi m (by omega)
  have s2 := mon_sp i hi m' (by omega)
  have n32 : ∀ n, (32 : UInt8) ∉ Lib.decDigits n := no_dig 32 (by decide)
  have n44 : ∀ n, (44 : UInt8) ∉ Lib.decDigits n := no_dig 44 (by decide)
  have n46 : ∀ n, (46 : UInt8) ∉ Lib.decDigits n := no_dig 46 (by decide)
  have n101 : ∀ n, (101 : UInt8) ∉ Lib.decDigits n := no_dig 101 (by decide)
  have hc : i = 0 ∨ i = 1 ∨ i = 2 ∨ i = 3 := by omega
  rcases hc with rfl | rfl | rfl | rfl
  · simp only [dateL, if_true, List.append_assoc, List.cons_append, List.nil_append] at e
    obtain ⟨a, e⟩ := split_first 32 _ _ _ _ s1 s2 e
    obtain ⟨b, e⟩ := split_first 44 _ _ _ _ (n44 d) (n44 d') e
    have e := List.cons.inj e
    exact ⟨dec_inj e.2, mon_inj0 0 (by omega) m (by omega) m' (by omega) h1 h1' a, dec_inj b⟩
  · simp only [dateL, if_true, List.append_assoc, List.cons_append, List.nil_append, Nat.one_ne_zero, if_false] at e
    obtain ⟨b, e⟩ := split_first 46 _ _ _ _ (n46 d) (n46 d') e
    have e := (List.cons.inj e).2
    obtain ⟨a, e⟩ := split_first 32 _ _ _ _ s1 s2 e
    exact ⟨dec_inj e, mon_inj0 1 (by omega) m (by omega) m' (by omega) h1 h1' a, dec_inj b⟩
  · have hd : ∀ k : Nat, (32 : UInt8) ∉ (if k = 1 then [49, 101, 114] else Lib.decDigits k) := by
      intro k
      split
      · decide
      · exact n32 k
    simp only [dateL, if_true, List.append_assoc, List.cons_append, List.nil_append, show (2 : Nat) ≠ 0 from by decide, show (2 : Nat) ≠ 1 from by decide, if_false] at e
    obtain ⟨b, e⟩ := split_first 32 _ _ _ _ (hd d) (hd d') e
    obtain ⟨a, e⟩ := split_first 32 _ _ _ _ s1 s2 e
    refine ⟨dec_inj e, mon_inj0 2 (by omega) m (by omega) m' (by omega) h1 h1' a, ?_⟩
    by_cases k1 : d = 1 <;> by_cases k2 : d' = 1
    · omega
    · rw [if_pos k1, if_neg k2] at b
      exact absurd (by rw [← b]; simp) (n101 d')
    · rw [if_neg k1, if_pos k2] at b
      exact absurd (by rw [b]; simp) (n101 d)
    · rw [if_neg k1, if_neg k2] at b
      exact dec_inj b
  · simp only [dateL, List.append_assoc, List.cons_append, List.nil_append, show (3 : Nat) ≠ 0 from by decide, show (3 : Nat) ≠ 1 from by decide, show (3 : Nat) ≠ 2 from by decide, if_false] at e
    obtain ⟨b, e⟩ := split_first 32 _ _ _ _ (n32 d) (n32 d') e
    have e := (List.cons.inj (List.cons.inj (List.cons.inj e).2).2).2
    obtain ⟨a, e⟩ := split_first 32 _ _ _ _ s1 s2 e
    have e := (List.cons.inj (List.cons.inj (List.cons.inj e).2).2).2
    exact ⟨dec_inj e, mon_inj0 3 (by omega) m (by omega) m' (by omega) h1 h1' a, dec_inj b⟩
/-- a date is written as another one only if it is that one -/
theorem dateS_inj (l : List UInt8) (y m d y' m' d' : Int) (h : dateE l y m d = 0) (h' : dateE l y' m' d' = 0) : (dateS l y m d == dateS l y' m' d') = decide (y = y' ∧ m = m' ∧ d = d') := by
  have hk : knownB l = true := by
    cases hk : knownB l with
    | true => rfl
    | false => unfold dateE at h; rw [hk] at h; cases h
  have hb : dateB y m d = true := by
    cases hb : dateB y m d with
    | true => rfl
    | false => unfold dateE at h; rw [hk, hb] at h; cases h
  have hb' : dateB y' m' d' = true := by
    cases hb : dateB y' m' d' with
    | true => rfl
    | false => unfold dateE at h'; rw [hk, hb] at h'; cases h'
  obtain ⟨a, b, c, rfl, rfl, rfl, _, _, h3, h4, _, _⟩ := date_good hb
  obtain ⟨a', b', c', rfl, rfl, rfl, _, _, h3', h4', _, _⟩ := date_good hb'
  have e1 : dateS l a b c = dateL (lang4 l) a b c := by unfold dateS; rw [if_pos ⟨hk, hb⟩]; simp
  have e2 : dateS l a' b' c' = dateL (lang4 l) a' b' c' := by unfold dateS; rw [if_pos ⟨hk, hb'⟩]; simp
  rw [e1, e2, Bool.eq_iff_iff]
  simp only [beq_iff_eq, decide_eq_true_eq]
  constructor
  · intro e
    have hl : lang4 l < 4 := by unfold knownB at hk; simpa using hk
    obtain ⟨x1, x2, x3⟩ := date_inj (lang4 l) a b c a' b' c' hl h3 h4 h3' h4' e
    omega
  · rintro ⟨x1, x2, x3⟩
    obtain rfl : a = a' := by omega
    obtain rfl : b = b' := by omega
    obtain rfl : c = c' := by omega
    rfl

def digV (c : UInt8) : Int := if c = 109 then 1000 else if c = 100 then 500 else if c = 99 then 100 else if c = 108 then 50 else if c = 120 then 10 else if c = 118 then 5 else 1
/-- the number that Roman digits mean -/
def romVal : List UInt8 → Int
  | [] => 0
  | [c] => digV c
  | c :: d :: r => (if digV c < digV d then - digV c else digV c) + romVal (d :: r)
set_option maxRecDepth 100000 in
theorem rom_val : ∀ n, n < 4000 → romVal (romS n) = (n : Int) := by decide +kernel
theorem romR_inj (n m : Int) (h : romE n = 0) (h' : romE m = 0) : (romR n == romR m) = decide (n = m) := by
  have h1 : ¬ (n < 1 ∨ 3999 < n) := fun e => by unfold romE at h; rw [if_pos e] at h; cases h
  have h2 : ¬ (m < 1 ∨ 3999 < m) := fun e => by unfold romE at h'; rw [if_pos e] at h'; cases h'
  unfold romR
  rw [if_neg h1, if_neg h2, Bool.eq_iff_iff]
  simp only [beq_iff_eq, decide_eq_true_eq]
  constructor
  · intro e
    have a := rom_val n.toNat (by omega)
    have b := rom_val m.toNat (by omega)
    rw [e, b] at a
    omega
  · rintro rfl; rfl
end Go.Proofs.YtkndgkiglaacnaaDoor
