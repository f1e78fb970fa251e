/-
  Rows of elements of several cells; layer 1 (chars), the chapter's: at, Points, Valid.
-/
import Derived.Test.YtmkenekngaihhaaDoorMkD
namespace Go.Proofs.YtmkenekngaihhaaDoor
open Go.RowKit
set_option linter.unusedVariables false
set_option linter.unusedSimpArgs false
attribute [local go_sem] B_data B_size

theorem addr_lit (b o j : Nat) : (⟨b, o, none⟩ : Addr).add j = ⟨b, o + j, none⟩ := by unfold Addr.add; split <;> simp_all
section
variable {α : Type} (f : α → List Value) (sz : Nat) (hf : ∀ a, (f a).length = sz)
include hf
theorem row_len (l : List α) : (l.flatMap f).length = l.length * sz := by
  induction l with
  | nil => simp
  | cons a r ih => rw [List.flatMap_cons, List.length_append, ih, hf, List.length_cons, Nat.succ_mul]; omega
theorem row_at (l : List α) (k j : Nat) (x : α) (hk : l[k]? = some x) (hj : j < sz) : (l.flatMap f)[k * sz + j]? = (f x)[j]? := by
  induction l generalizing k with
  | nil => simp at hk
  | cons a r ih =>
    rw [List.flatMap_cons]
    cases k with
    | zero =>
      have e : a = x := by simpa using hk
      subst e
      rw [Nat.zero_mul, Nat.zero_add, List.getElem?_append_left (by rw [hf]; exact hj)]
    | succ k =>
      have hk : r[k]? = some x := by simpa using hk
      rw [List.getElem?_append_right (by rw [hf, Nat.succ_mul]; omega), hf, ← ih k hk]
      congr 1
      rw [Nat.succ_mul]; omega
theorem Rd.elem {w : World} {M n k : Nat} {A : Option Addr} {l : List α} {x : α} (h : Rd w M sz A n (l.flatMap f)) (hsz : 0 < sz) (hk : l[k]? = some x) :
    ∃ b o, A = some ⟨b, o, none⟩ ∧ b < M ∧ ∀ j u, (f x)[j]? = some u → w.cell? ⟨b, o + k * sz + j, none⟩ = some u := by
  have hkl : k < l.length := (List.getElem?_eq_some_iff.1 hk).1
  have hl := h.1
  rw [row_len f sz hf] at hl
  have hn : l.length = n := Nat.eq_of_mul_eq_mul_right hsz hl
  obtain ⟨ad, e, hb, hc⟩ := h.2 (by omega)
  obtain ⟨b, o, spot⟩ := ad
  have hpos : 0 < (l.flatMap f).length := by
    rw [row_len f sz hf]
    exact Nat.mul_pos (by omega) hsz
  have hx0 := hc 0 _ (List.getElem?_eq_getElem hpos)
  have hsp : spot = none := by simpa [Addr.add] using World.cell?_spot hx0
  subst hsp
  refine ⟨b, o, e, hb, fun j u hj => ?_⟩
  have hjs : j < sz := by have := (List.getElem?_eq_some_iff.1 hj).1; rw [hf] at this; exact this
  have := hc (k * sz + j) u (by rw [row_at f sz hf l k j x hk hjs]; exact hj)
  rw [addr_lit] at this
  rw [Nat.add_assoc]
  exact this
theorem Rd.count {w : World} {M n : Nat} {A : Option Addr} {l : List α} (h : Rd w M sz A n (l.flatMap f)) (hsz : 0 < sz) : l.length = n := by
  have hl := h.1
  rw [row_len f sz hf] at hl
  exact Nat.eq_of_mul_eq_mul_right hsz hl
end
theorem drop_get {α : Type} {l : List α} {k : Nat} {x : α} (h : l[k]? = some x) : l.drop k = x :: l.drop (k + 1) := by
  obtain ⟨hk, e⟩ := List.getElem?_eq_some_iff.1 h
  rw [List.drop_eq_getElem_cons hk, e]
theorem get_of {α : Type} {l : List α} {k : Nat} (h : k < l.length) : ∃ x, l[k]? = some x := ⟨l[k], List.getElem?_eq_getElem h⟩

end Go.Proofs.YtmkenekngaihhaaDoor
