/-
  Layer 16 (files): few; the walk of the law FilesCheck.
-/
import Derived.Test.YtpbampchhpkpbaaDoorFilesX
namespace Go.Proofs.YtpbampchhpkpbaaDoor
set_option linter.unusedSimpArgs false
open Go.RowKit
set_option linter.unusedVariables false
attribute [local go_sem] B_data B_size

def Few (n : Nat) (fs : List (List UInt8 × List UInt8)) : Prop := n < 140 ∧ ∀ f ∈ fs, f.1.length ≤ 300 ∧ f.2.length ≤ 300
def fewB (n : Nat) (fs : List (List UInt8 × List UInt8)) : Bool := decide (n < 140) && fs.all (fun f => decide (f.1.length ≤ 300) && decide (f.2.length ≤ 300))
theorem few_iff (n : Nat) (fs : List (List UInt8 × List UInt8)) : fewB n fs = true ↔ Few n fs := by simp [fewB, Few]
theorem fewB_no {n : Nat} {fs : List (List UInt8 × List UInt8)} (h : ¬ Few n fs) : fewB n fs = false := by
  rw [← few_iff] at h; simpa using h
theorem few_all {fs : List (List UInt8 × List UInt8)} {n : Nat} (hl : fs.length = n) (h : ∀ j, j < n → (fs[j]?.getD ([], [])).1.length ≤ 300 ∧ (fs[j]?.getD ([], [])).2.length ≤ 300) : ∀ f ∈ fs, f.1.length ≤ 300 ∧ f.2.length ≤ 300 := by
  intro f hf
  obtain ⟨j, hj, rfl⟩ := List.getElem_of_mem hf
  have := h j (by omega)
  rw [List.getElem?_eq_getElem hj] at this
  exact this
theorem few_no {fs : List (List UInt8 × List UInt8)} {n j : Nat} (hl : fs.length = n) (hj : j < n) (h : ¬ ((fs[j]?.getD ([], [])).1.length ≤ 300 ∧ (fs[j]?.getD ([], [])).2.length ≤ 300)) : ¬ Few n fs := by
  intro ⟨_, hf⟩
  have hj' : j < fs.length := by omega
  rw [List.getElem?_eq_getElem hj'] at h
  exact h (hf _ (List.getElem_mem hj'))

set_option maxHeartbeats 2000000 in
set_option maxRecDepth 100000 in
theorem few_any (A : Option Addr) (n c : Nat) (fs : List (List UInt8 × List UInt8)) (w : World) (hx : Rd w w.heap.size 2 A n (fls fs)) (hn : n ≤ 9223372036854775807) :
    Calls Tryd.prog 19 #[.slice A n c] w fun e w' => e = .returned (.bool (fewB n fs)) ∧ Below w.heap.size w w' := by
  have HL := Lib.hid hx.fls_length
  go_enter Tryd.func19, Tryd.ntmps19
  go_wp2
  go_loop [3] (fun i => ∃ k : Nat, k ≤ n ∧ k ≤ 140 ∧ i = .int .i64 k ∧ Hid (∀ j, j < k → (fs[j]?.getD ([], [])).1.length ≤ 300 ∧ (fs[j]?.getD ([], [])).2.length ≤ 300)) (fun i => 140 - (intOf i).toNat)
  case atStart => exact ⟨0, Nat.zero_le _, by omega, rfl, fun j hj => absurd hj (by omega)⟩
  case round =>
    obtain ⟨k, hk, hk2, rfl, hr⟩ := hrel
    by_cases hlt : k < n
    · by_cases hlt2 : k < 140
      · obtain ⟨b, o, rfl, hm, h0, h1⟩ := hx.file hlt
        by_cases hf : (fs[k]?.getD ([], [])).1.length ≤ 300
        · by_cases hf2 : (fs[k]?.getD ([], [])).2.length ≤ 300
          · have HN : Hid (∀ j, j < k + 1 → (fs[j]?.getD ([], [])).1.length ≤ 300 ∧ (fs[j]?.getD ([], [])).2.length ≤ 300) := by
              intro j hj
              rcases Nat.lt_succ_iff_lt_or_eq.1 hj with h | rfl
              · exact hr.out j h
              · exact ⟨hf, hf2⟩
            generalize fs[k]?.getD ([], []) = f at *
            have d1 : (B f.1).size ≤ 300 := by rw [B_size]; exact hf
            have d2 : (B f.2).size ≤ 300 := by rw [B_size]; exact hf2
            go_wp2
            go_round
            case rel => exact ⟨k + 1, by omega, by omega, by go_num, HN.out⟩
            case measure => simp [intOf]; omega
          · have HN := Lib.hid (few_no HL.out hlt (fun h => hf2 h.2))
            generalize fs[k]?.getD ([], []) = f at *
            go_wp2
            go_ret
            exact ⟨ret_bool (fewB_no HN.out).symm, Below.refl _ _⟩
        · have HN := Lib.hid (few_no HL.out hlt (fun h => hf h.1))
          generalize fs[k]?.getD ([], []) = f at *
          go_wp2
          go_ret
          exact ⟨ret_bool (fewB_no HN.out).symm, Below.refl _ _⟩
      · have d : decide (n < 140) = false := by simp; omega
        go_wp2
        go_ret
        exact ⟨ret_bool (by rw [fewB_no (fun h => absurd h.1 (by omega))]; simp; omega), Below.refl _ _⟩
    · obtain rfl : k = n := by omega
      go_wp2
      go_ret
      refine ⟨ret_bool ?_, Below.refl _ _⟩
      by_cases h : k < 140
      · rw [(few_iff k fs).2 ⟨h, few_all HL.out hr.out⟩]; simp; omega
      · rw [fewB_no (fun h' => h h'.1)]; simp; omega

end Go.Proofs.YtpbampchhpkpbaaDoor
