/-
  The checksum in plain words: the step of a bit, of a byte, of a string; it is linear, and each step can be undone.
-/
import Derived.Test.YtofbcblhpflleaaDoorBytes
namespace Go.Proofs.YtofbcblhpflleaaDoor
set_option linter.unusedVariables false

/-- the polynomial -/
def pol : Nat := 3988292384
def bitS (r : Nat) : Nat := if r % 2 = 1 then (r / 2) ^^^ pol else r / 2
def bitN : Nat → Nat → Nat
  | 0, r => r
  | n + 1, r => bitN n (bitS r)
/-- the step of a byte, bit by bit -/
def stB (r b : Nat) : Nat := bitN 8 (r ^^^ b)
/-- the step of a byte, by the table -/
def stT (r b : Nat) : Nat := (r / 256) ^^^ bitN 8 ((r % 256) ^^^ b)
def ones : Nat := 4294967295
def crcGo (r : Nat) (l : List UInt8) : Nat := l.foldl (fun r c => stB r c.toNat) r
def crc (l : List UInt8) : Nat := ones ^^^ crcGo ones l

theorem xor_half (x y : Nat) : (x ^^^ y) / 2 = (x / 2) ^^^ (y / 2) := by
  apply Nat.eq_of_testBit_eq; intro i
  rw [← Nat.testBit_add_one, Nat.testBit_xor, Nat.testBit_xor, ← Nat.testBit_add_one, ← Nat.testBit_add_one]
theorem xor_par (x y : Nat) : (x ^^^ y) % 2 = (x % 2 + y % 2) % 2 := by
  have h := Nat.testBit_xor x y 0
  simp only [Nat.testBit_zero] at h
  rcases Nat.mod_two_eq_zero_or_one x with hx | hx <;> rcases Nat.mod_two_eq_zero_or_one y with hy | hy <;>
    rcases Nat.mod_two_eq_zero_or_one (x ^^^ y) with hz | hz <;> simp [hx, hy, hz] at h ⊢
theorem bitS_xor (x y : Nat) : bitS (x ^^^ y) = bitS x ^^^ bitS y := by
  unfold bitS
  rw [xor_par, xor_half]
  rcases Nat.mod_two_eq_zero_or_one x with hx | hx <;> rcases Nat.mod_two_eq_zero_or_one y with hy | hy
  · simp [hx, hy]
  · simp [hx, hy, Nat.xor_assoc]
  · simp only [hx, hy]; simp only [Nat.add_zero, Nat.reduceMod, if_true]; simp only [Nat.zero_ne_one, if_false]
    rw [Nat.xor_assoc, Nat.xor_assoc, Nat.xor_comm pol]
  · simp only [hx, hy]; simp only [if_true]; simp only [Nat.reduceAdd, Nat.reduceMod, Nat.zero_ne_one, if_false]
    rw [Nat.xor_assoc, Nat.xor_comm pol, Nat.xor_assoc, Nat.xor_self, Nat.xor_zero]
theorem bitN_xor (n : Nat) : ∀ x y, bitN n (x ^^^ y) = bitN n x ^^^ bitN n y := by
  induction n with
  | zero => intro x y; rfl
  | succ n ih => intro x y; rw [bitN, bitN, bitN, bitS_xor, ih]
theorem bitN_zero (n : Nat) : bitN n 0 = 0 := by induction n with | zero => rfl | succ n ih => rw [bitN]; exact ih
theorem bitN_shift (n : Nat) : ∀ q, bitN n (q * 2 ^ n) = q := by
  induction n with
  | zero => intro q; simp [bitN]
  | succ n ih =>
    intro q
    rw [bitN]
    have : bitS (q * 2 ^ (n + 1)) = q * 2 ^ n := by
      have e : q * 2 ^ (n + 1) = 2 * (q * 2 ^ n) := by rw [Nat.pow_succ]; rw [← Nat.mul_assoc, Nat.mul_comm]
      unfold bitS
      rw [e, if_neg (by omega)]; omega
    rw [this, ih]
theorem xor_split (r : Nat) : r = (r / 256 * 2 ^ 8) ^^^ (r % 256) := by
  apply Nat.eq_of_testBit_eq; intro i
  rw [Nat.testBit_xor, show r % 256 = r % 2 ^ 8 from rfl, Nat.testBit_mod_two_pow, show r / 256 = r / 2 ^ 8 from rfl, Nat.testBit_mul_two_pow, Nat.testBit_div_two_pow]
  by_cases h : i < 8
  · simp [h, Nat.not_le.2 h]
  · simp [h, Nat.not_lt.1 h]
theorem st_eq (r b : Nat) : stT r b = stB r b := by
  unfold stT stB
  conv => rhs; rw [xor_split r]
  rw [Nat.xor_assoc, bitN_xor 8 (r / 256 * 2 ^ 8), bitN_shift]
theorem bitS_lt (r : Nat) (h : r < 4294967296) : bitS r < 4294967296 := by
  unfold bitS
  split
  · exact Nat.xor_lt_two_pow (n := 32) (by omega) (by decide)
  · omega
theorem bitN_lt (n : Nat) : ∀ r, r < 4294967296 → bitN n r < 4294967296 := by
  induction n with
  | zero => intro r h; exact h
  | succ n ih => intro r h; exact ih _ (bitS_lt r h)
theorem xor_lt {a b : Nat} (ha : a < 4294967296) (hb : b < 4294967296) : a ^^^ b < 4294967296 := Nat.xor_lt_two_pow (n := 32) ha hb
theorem stB_lt (r b : Nat) (h : r < 4294967296) (hb : b < 256) : stB r b < 4294967296 := bitN_lt 8 _ (xor_lt h (by omega))
theorem crcGo_lt (l : List UInt8) : ∀ r, r < 4294967296 → crcGo r l < 4294967296 := by
  induction l with
  | nil => intro r h; exact h
  | cons c q ih => intro r h; exact ih _ (stB_lt r _ h (UInt8.toNat_lt c))
theorem crc_lt (l : List UInt8) : crc l < 4294967296 := xor_lt (by decide) (crcGo_lt l _ (by decide))
theorem crcGo_app (r : Nat) (a b : List UInt8) : crcGo r (a ++ b) = crcGo (crcGo r a) b := by unfold crcGo; rw [List.foldl_append]
theorem crcGo_cons (r : Nat) (c : UInt8) (l : List UInt8) : crcGo r (c :: l) = crcGo (stB r c.toNat) l := rfl

theorem xor_eq_zero {a b : Nat} (h : a ^^^ b = 0) : a = b := by
  have : a ^^^ b ^^^ b = b := by rw [h, Nat.zero_xor]
  rwa [Nat.xor_assoc, Nat.xor_self, Nat.xor_zero] at this
theorem bitS_zero {r : Nat} (hr : r < 4294967296) (h : bitS r = 0) : r = 0 := by
  unfold bitS at h
  split at h
  · have := xor_eq_zero h
    unfold pol at this
    omega
  · omega
theorem bitS_inj {x y : Nat} (hx : x < 4294967296) (hy : y < 4294967296) (h : bitS x = bitS y) : x = y := by
  apply xor_eq_zero
  apply bitS_zero (xor_lt hx hy)
  rw [bitS_xor, h, Nat.xor_self]
theorem bitN_inj (n : Nat) : ∀ {x y : Nat}, x < 4294967296 → y < 4294967296 → bitN n x = bitN n y → x = y := by
  induction n with
  | zero => intro x y _ _ h; exact h
  | succ n ih => intro x y hx hy h; exact bitS_inj hx hy (ih (bitS_lt x hx) (bitS_lt y hy) h)
theorem xor_cancel {a b c : Nat} (h : a ^^^ b = a ^^^ c) : b = c := by
  have : a ^^^ (a ^^^ b) = a ^^^ (a ^^^ c) := by rw [h]
  rwa [← Nat.xor_assoc, ← Nat.xor_assoc, Nat.xor_self, Nat.zero_xor, Nat.zero_xor] at this
theorem stB_inj {r r' b : Nat} (hr : r < 4294967296) (hr' : r' < 4294967296) (hb : b < 256) (h : stB r b = stB r' b) : r = r' := by
  have := bitN_inj 8 (xor_lt hr (by omega)) (xor_lt hr' (by omega)) h
  rw [Nat.xor_comm r, Nat.xor_comm r'] at this
  exact xor_cancel this
theorem stB_inj2 {r b b' : Nat} (hr : r < 4294967296) (hb : b < 256) (hb' : b' < 256) (h : stB r b = stB r b') : b = b' :=
  xor_cancel (bitN_inj 8 (xor_lt hr (by omega)) (xor_lt hr (by omega)) h)
theorem crcGo_inj (l : List UInt8) : ∀ {r r' : Nat}, r < 4294967296 → r' < 4294967296 → crcGo r l = crcGo r' l → r = r' := by
  induction l with
  | nil => intro r r' _ _ h; exact h
  | cons c q ih =>
    intro r r' hr hr' h
    exact stB_inj hr hr' (UInt8.toNat_lt c) (ih (stB_lt r _ hr (UInt8.toNat_lt c)) (stB_lt r' _ hr' (UInt8.toNat_lt c)) h)
/-- a changed byte changes the checksum -/
theorem crc_change (a b : List UInt8) (x y : UInt8) (h : x ≠ y) : crc (a ++ x :: b) ≠ crc (a ++ y :: b) := by
  intro e
  have e := xor_cancel e
  rw [crcGo_app, crcGo_app, crcGo_cons, crcGo_cons] at e
  have hr := crcGo_lt a ones (by decide)
  have e := crcGo_inj b (stB_lt _ _ hr (UInt8.toNat_lt x)) (stB_lt _ _ hr (UInt8.toNat_lt y)) e
  exact h (UInt8.toNat_inj.1 (stB_inj2 hr (UInt8.toNat_lt x) (UInt8.toNat_lt y) e))
theorem stB_xor3 (r1 r2 r3 b1 b2 b3 : Nat) : stB (r1 ^^^ r2 ^^^ r3) (b1 ^^^ b2 ^^^ b3) = stB r1 b1 ^^^ stB r2 b2 ^^^ stB r3 b3 := by
  unfold stB
  rw [← bitN_xor, ← bitN_xor]
  congr 1
  ac_rfl
/-- the bytes of three strings combined -/
def xor3 : List UInt8 → List UInt8 → List UInt8 → List UInt8
  | a :: p, b :: q, c :: r => (a ^^^ b ^^^ c) :: xor3 p q r
  | _, _, _ => []
theorem crcGo_xor3 : ∀ (a b c : List UInt8) (r1 r2 r3 : Nat), a.length = b.length → b.length = c.length → crcGo (r1 ^^^ r2 ^^^ r3) (xor3 a b c) = crcGo r1 a ^^^ crcGo r2 b ^^^ crcGo r3 c := by
  intro a
  induction a with
  | nil =>
    intro b c r1 r2 r3 h1 h2
    cases b with
    | nil => cases c with
      | nil => rfl
      | cons _ _ => simp at h2
    | cons _ _ => simp at h1
  | cons x p ih =>
    intro b c r1 r2 r3 h1 h2
    cases b with
    | nil => simp at h1
    | cons y q => cases c with
      | nil => simp at h2
      | cons z r =>
        rw [xor3, crcGo_cons, crcGo_cons, crcGo_cons, crcGo_cons, ← ih q r _ _ _ (by simpa using h1) (by simpa using h2)]
        rw [UInt8.toNat_xor, UInt8.toNat_xor, stB_xor3]
theorem crc_xor3 (a b c : List UInt8) (h1 : a.length = b.length) (h2 : b.length = c.length) : crc (xor3 a b c) = crc a ^^^ crc b ^^^ crc c := by
  unfold crc
  have h := crcGo_xor3 a b c ones ones ones h1 h2
  rw [show ones ^^^ ones ^^^ ones = ones from by decide] at h
  rw [h]
  have e : ones = ones ^^^ ones ^^^ ones := by decide
  conv => lhs; rw [e]
  ac_rfl

end Go.Proofs.YtofbcblhpflleaaDoor
