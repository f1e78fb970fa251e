/-
  Layer 16 (files): lists of files in memory.
-/
import Derived.Test.YtofbcblhpflleaaDoorFilesD
import Derived.Laws.StructEq
namespace Go.Proofs.YtofbcblhpflleaaDoor
open Go.RowKit
set_option linter.unusedVariables false
attribute [local go_sem] B_data B_size

/-- files, as cells -/
def fls (fs : List (List UInt8 × List UInt8)) : List Value := fs.flatMap fun f => [.string (B f.1), .string (B f.2)]
theorem fls_len (fs : List (List UInt8 × List UInt8)) : (fls fs).length = 2 * fs.length := by
  induction fs with
  | nil => rfl
  | cons f r ih => simp only [fls, List.flatMap_cons, List.length_append, List.length_cons] at ih ⊢; simp at ih ⊢; omega
theorem fls_at (fs : List (List UInt8 × List UInt8)) (k : Nat) (h : k < fs.length) : (fls fs)[k * 2]? = some (.string (B (fs[k]?.getD ([], [])).1)) ∧ (fls fs)[k * 2 + 1]? = some (.string (B (fs[k]?.getD ([], [])).2)) := by
  induction fs generalizing k with
  | nil => simp at h
  | cons f r ih =>
    cases k with
    | zero => simp [fls]
    | succ k =>
      have := ih k (by simpa using h)
      have e : fls (f :: r) = [.string (B f.1), .string (B f.2)] ++ fls r := by simp [fls]
      rw [e]
      have e1 : (k + 1) * 2 = 2 + k * 2 := by omega
      have e2 : (k + 1) * 2 + 1 = 2 + (k * 2 + 1) := by omega
      rw [e2, e1, List.getElem?_append_right (by simp), List.getElem?_append_right (by simp)]
      simpa using this
theorem Rd.file {w : World} {M n k : Nat} {A : Option Addr} {fs : List (List UInt8 × List UInt8)} (h : Rd w M 2 A n (fls fs)) (hk : k < n) :
    ∃ b o, A = some ⟨b, o, none⟩ ∧ b < M ∧ w.cell? ⟨b, o + k * 2, none⟩ = some (.string (B (fs[k]?.getD ([], [])).1)) ∧ w.cell? ⟨b, o + k * 2 + 1, none⟩ = some (.string (B (fs[k]?.getD ([], [])).2)) := by
  obtain ⟨ad, e, hb, hc⟩ := h.2 (by omega)
  have hl : k < fs.length := by have := h.1; rw [fls_len] at this; omega
  obtain ⟨h1, h2⟩ := fls_at fs k hl
  obtain ⟨b, o, spot⟩ := ad
  have hx0 := hc 0 _ (List.getElem?_eq_getElem (by rw [fls_len]; omega))
  have hsp : spot = none := by simpa [Addr.add] using World.cell?_spot hx0
  subst hsp
  have c1 := hc _ _ h1
  have c2 := hc _ _ h2
  rw [addr_lit] at c1 c2
  exact ⟨b, o, e, hb, c1, c2⟩
theorem Rd.fls_length {w : World} {M n : Nat} {A : Option Addr} {fs : List (List UInt8 × List UInt8)} (h : Rd w M 2 A n (fls fs)) : fs.length = n := by
  have := h.1; rw [fls_len] at this; omega

theorem fdrop (fs : List (List UInt8 × List UInt8)) (k : Nat) (h : k < fs.length) : fs.drop k = fs[k]?.getD ([], []) :: fs.drop (k + 1) := by
  rw [List.drop_eq_getElem_cons h]; simp [h]
end Go.Proofs.YtofbcblhpflleaaDoor
