/-
  Layer 33 (markup): weight and small.
-/
import Derived.Test.YtejjidbodfoiiaaGreatDoorMkW
namespace Go.Proofs.YtejjidbodfoiiaaGreatDoor
open Go.RowKit
set_option linter.unusedVariables false
set_option linter.unusedSimpArgs false
attribute [local go_sem] B_data B_size

theorem szL_len (ks : List Nd) : ks.length ≤ szL ks := by
  induction ks with
  | nil => simp
  | cons a r ih =>
    obtain ⟨nm, tx, ats, ks⟩ := a
    rw [szL, szN, List.length_cons]; omega
theorem mkAs_mem {ats : List (List UInt8 × List UInt8)} {p : List UInt8 × List UInt8} (h : p ∈ ats) : p.1.length ≤ (mkAs ats).length ∧ p.2.length ≤ (mkAs ats).length := by
  induction ats with
  | nil => cases h
  | cons q r ih =>
    rw [mkAs_cons]
    have := esc_len q.2
    simp only [List.length_cons, List.length_append, mkA, List.length_nil]
    rcases List.mem_cons.1 h with rfl | h
    · exact ⟨by omega, by omega⟩
    · have := ih h
      exact ⟨by omega, by omega⟩
theorem ok_of_sz (M : Nat) : ∀ n, szN n ≤ M → okN M n := by
  refine Nd.ind ?_
  intro nm tx ats ks IH h
  rw [szN] at h
  have h1 := szL_len ks
  have h2 := mkAs_len ats
  rw [okN]
  refine ⟨by omega, by omega, by omega, by omega, fun p hp => ?_, ?_⟩
  · have := mkAs_mem hp
    omega
  · have : ∀ r : List Nd, (∀ x ∈ r, x ∈ ks) → okL M r := by
      intro r
      induction r with
      | nil => intro _; trivial
      | cons x r ih =>
        intro hm
        have hx := hm x (List.mem_cons_self ..)
        have := szL_mem hx
        exact ⟨IH x hx (by omega), ih (fun y hy => hm y (List.mem_cons_of_mem _ hy))⟩
    exact this ks (fun _ h => h)
end Go.Proofs.YtejjidbodfoiiaaGreatDoor
