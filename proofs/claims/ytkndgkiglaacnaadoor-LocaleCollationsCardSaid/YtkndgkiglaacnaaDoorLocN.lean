/-
  Layer 25 (collate): when a collation is valid (plain).
-/
import Derived.Test.YtkndgkiglaacnaaDoorLocM
import Derived.Test.YtkndgkiglaacnaaDoorLocI
namespace Go.Proofs.YtkndgkiglaacnaaDoor
open Go.RowKit
set_option linter.unusedVariables false
set_option linter.unusedSimpArgs false

def cleanN (c : Nat) : Bool := (c == 10 || (decide (32 ≤ c) && c != 127)) && decide (c < 65533)
/-- none of the letters ps is there already -/
def freshB : List Nat → List Nat → Bool
  | _, [] => true
  | l, c :: r => !(l.contains c) && freshB (l ++ [c]) r
def ruleOK (s : List UInt8) (ps : List Nat) : Bool := decide (1 ≤ s.length) && decide (s.length ≤ 200) && s.all (fun b => b != 32 && b != 10) && ps.all cleanN
def goodO : List Nat → List (List UInt8) → Option (List Nat)
  | l, [] => some l
  | l, x :: r => match dec2 x with
    | none => none
    | some ps => if ruleOK x ps && freshB l ps then goodO (l ++ ps) r else none
def goodR : List Nat → List (List UInt8 × List UInt8) → Bool
  | _, [] => true
  | l, (k, v) :: r => match dec2 k, dec2 v with
    | some a, some b => ruleOK k a && ruleOK v b && decide (a.length ≤ 1) && decide (b.length ≤ 4) && freshB l a && goodR (l ++ a) r
    | _, _ => false
def goodC (L : List (List UInt8)) (P : List (List UInt8 × List UInt8)) : Bool :=
  match goodO [] L with
  | none => false
  | some l => decide (L.length ≤ 128) && decide (P.length ≤ 128) && goodR l P
/-- a text of a rule -/
structure RuleP (s : List UInt8) (ps : List Nat) : Prop where
  d : dec2 s = some ps
  lo : 1 ≤ s.length
  hi : s.length ≤ 200
  nb : ∀ b ∈ s, b ≠ 32 ∧ b ≠ 10
  cl : ∀ c ∈ ps, cleanN c = true
theorem ruleOK_p {s : List UInt8} {ps : List Nat} (hd : dec2 s = some ps) (h : ruleOK s ps = true) : RuleP s ps := by
  unfold ruleOK at h
  simp only [Bool.and_eq_true, decide_eq_true_eq, List.all_eq_true, bne_iff_ne, ne_eq] at h
  exact ⟨hd, h.1.1.1, h.1.1.2, h.1.2, h.2⟩
theorem goodO_step {l : List Nat} {x : List UInt8} {r : List (List UInt8)} {lf : List Nat} (h : goodO l (x :: r) = some lf) :
    ∃ ps, RuleP x ps ∧ freshB l ps = true ∧ goodO (l ++ ps) r = some lf := by
  unfold goodO at h
  split at h
  · cases h
  · rename_i ps hd
    split at h
    · rename_i hh
      rw [Bool.and_eq_true] at hh
      exact ⟨ps, ruleOK_p hd hh.1, hh.2, h⟩
    · cases h
theorem goodR_step {l : List Nat} {k v : List UInt8} {r : List (List UInt8 × List UInt8)} (h : goodR l ((k, v) :: r) = true) :
    ∃ a b, RuleP k a ∧ RuleP v b ∧ a.length ≤ 1 ∧ b.length ≤ 4 ∧ freshB l a = true ∧ goodR (l ++ a) r = true := by
  unfold goodR at h
  split at h
  · rename_i a b ha hb
    simp only [Bool.and_eq_true, decide_eq_true_eq] at h
    exact ⟨a, b, ruleOK_p ha h.1.1.1.1.1, ruleOK_p hb h.1.1.1.1.2, h.1.1.1.2, h.1.1.2, h.1.2, h.2⟩
  · cases h
theorem freshB_at {l ps : List Nat} (h : freshB l ps = true) (m c : Nat) (hm : ps[m]? = some c) : (l ++ ps.take m).contains c = false := by
  induction ps generalizing l m with
  | nil => simp at hm
  | cons p r ih =>
    unfold freshB at h
    rw [Bool.and_eq_true] at h
    cases m with
    | zero =>
      have e : p = c := by simpa using hm
      subst e
      simpa using h.1
    | succ m =>
      have := ih h.2 m (by simpa using hm)
      simpa using this
theorem fresh_len {ps : List Nat} {s : List UInt8} (h : dec2 s = some ps) : ps.length ≤ s.length := by
  induction ps generalizing s with
  | nil => simp
  | cons c r ih =>
    rcases dec2_inv h with ⟨b, q, rfl, _, _, h3⟩ | ⟨b, x, q, rfl, _, _, _, _, _, h6⟩
    · have := ih h3; simp; omega
    · have := ih h6; simp; omega
/-- numbers, as cells -/
def nums (l : List Nat) : List Value := l.map fun (c : Nat) => Value.int .i64 (c : Int)
theorem nums_len (l : List Nat) : (nums l).length = l.length := by simp [nums]
theorem nums_snoc (l : List Nat) (c : Nat) : nums l ++ [.int .i64 (c : Int)] = nums (l ++ [c]) := by simp [nums]
theorem nums_one (l : List Nat) : ∀ u ∈ nums l, u.oneCell' = true := by
  intro u hu
  simp only [nums, List.mem_map] at hu
  obtain ⟨c, _, rfl⟩ := hu
  rfl
theorem rd_num {w : World} {M n k c : Nat} {A : Option Addr} {l : List Nat} (h : Rd w M 1 A n (nums l)) (hk : l[k]? = some c) :
    ∃ b o, A = some ⟨b, o, none⟩ ∧ b < M ∧ w.cell? ⟨b, o + k, none⟩ = some (.int .i64 (c : Int)) := by
  have hl := h.1
  rw [nums_len, Nat.mul_one] at hl
  have hkl := (List.getElem?_eq_some_iff.1 hk).1
  obtain ⟨ad, e, hb, hc⟩ := h.2 (by omega)
  obtain ⟨b, o, spot⟩ := ad
  have h0 := hc k (.int .i64 (c : Int)) (by simp [nums, hk])
  have hx0 := hc 0 _ (List.getElem?_eq_getElem (by rw [nums_len]; omega))
  have hsp : spot = none := by simpa [Addr.add] using World.cell?_spot hx0
  subst hsp
  rw [addr_lit] at h0
  exact ⟨b, o, e, hb, h0⟩
theorem Rd.nums_length {w : World} {M n : Nat} {A : Option Addr} {l : List Nat} (h : Rd w M 1 A n (nums l)) : l.length = n := by
  have := h.1; rwa [nums_len, Nat.mul_one] at this
theorem take_snoc {α : Type} {l : List α} {k : Nat} {x : α} (h : l[k]? = some x) : l.take k ++ [x] = l.take (k + 1) := by
  obtain ⟨hk, e⟩ := List.getElem?_eq_some_iff.1 h
  rw [List.take_succ_eq_append_getElem hk, e]
theorem drop_get {α : Type} {l : List α} {k : Nat} {x : α} (h : l[k]? = some x) : l.drop k = x :: l.drop (k + 1) := by
  obtain ⟨hk, e⟩ := List.getElem?_eq_some_iff.1 h
  rw [List.drop_eq_getElem_cons hk, e]
theorem get_of {α : Type} {l : List α} {k : Nat} (h : k < l.length) : ∃ x, l[k]? = some x := ⟨l[k], List.getElem?_eq_getElem h⟩
end Go.Proofs.YtkndgkiglaacnaaDoor
