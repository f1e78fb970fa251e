/-
  Layer 49 (project): the text of a project: the chapter's.
-/
import Derived.Test.YtmkenekngaihhaaDoorPjG
namespace Go.Proofs.YtmkenekngaihhaaDoor
open Go.RowKit
set_option linter.unusedVariables false
set_option linter.unusedSimpArgs false
attribute [local go_sem] B_data B_size

theorem Bx8.drewN {w : World} {b : Nat} {p : Pj} {c : PC} (h : Bx8 w b p c) (n : Nat) : Bx8 (w.drewN n) b p c := h
def txtE (p : Pj) : List UInt8 := if checkE pkG p = 0 then textP p else []
def TxPost (p : Pj) (w : World) (e : Ending) (w' : World) : Prop := e = .returned (.tuple #[.string (B (txtE p)), .int .i64 (checkE pkG p)]) ∧ Below w.heap.size w w'
theorem tx_bad {p : Pj} {w w' : World} (h : Hid (checkE pkG p ≠ 0)) (hb : Below w.heap.size w w') : TxPost p w (.returned (.tuple #[.string ⟨#[]⟩, .int .i64 (checkE pkG p)])) w' := ⟨by unfold txtE; rw [if_neg h.out]; rfl, hb⟩
theorem tx_ok {p : Pj} {l : List UInt8} {w w' : World} (h : Hid (checkE pkG p = 0)) (hl : Hid (l = textP p)) (hb : Below w.heap.size w w') : TxPost p w (.returned (.tuple #[.string (B l), .int .i64 0])) w' := ⟨by unfold txtE; rw [h.out, if_pos rfl, hl.out], hb⟩
theorem pages_num {t : Tg} (h : kindE t = 0) (hk : t.kd = kPages) : ∃ a b : Nat, t.pg = a ∧ t.wd = b ∧ a ≤ 1000 ∧ b ≤ 100000 ∧ tgL t = [116, 97, 114, 103, 101, 116, 32] ++ t.nm ++ [32] ++ kPages ++ [32] ++ numS a ++ [32] ++ numS b ++ [10] := by
  rcases kind_cases h with ⟨_, h2, h3, h4, h5⟩ | ⟨h1, _⟩
  · refine ⟨t.pg.toNat, t.wd.toNat, (Int.toNat_of_nonneg (by omega)).symm, (Int.toNat_of_nonneg (by omega)).symm, by omega, by omega, ?_⟩
    unfold tgL targetL
    rw [if_pos hk, hk]
    simp only [List.append_assoc]
  · exact absurd hk h1
theorem other_tgL {t : Tg} (hk : t.kd ≠ kPages) : tgL t = [116, 97, 114, 103, 101, 116, 32] ++ t.nm ++ [32] ++ t.kd ++ [10] := by
  unfold tgL targetL
  rw [if_neg hk]
  simp only [List.append_assoc, List.append_nil]
theorem tgL_len {t : Tg} (h : kindE t = 0) (h1 : t.nm.length ≤ 1000000) (h2 : t.kd.length ≤ 1000000) : (tgL t).length ≤ 3000000 := by
  by_cases hk : t.kd = kPages
  · obtain ⟨a, b, _, _, ha, hb, e⟩ := pages_num h hk
    have := numS_len a
    have := numS_len b
    have h5 : kPages.length = 5 := rfl
    rw [e]
    simp only [List.length_append, List.length_cons, List.length_nil]
    omega
  · rw [other_tgL hk]
    simp only [List.length_append, List.length_cons, List.length_nil]
    omega
end Go.Proofs.YtmkenekngaihhaaDoor
