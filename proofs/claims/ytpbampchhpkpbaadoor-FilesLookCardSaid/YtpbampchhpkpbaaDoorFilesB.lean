/-
  Layer 16 (files): strings.Split and strings.Join at a slash, the names and parts of the reference, and Clean.
-/
import Derived.Test.YtpbampchhpkpbaaDoorFilesP
namespace Go.Proofs.YtpbampchhpkpbaaDoor
open Go.RowKit
set_option linter.unusedVariables false

/-- the library's variable bytealg.MaxLen holds some int -/
def Glob (w : World) : Prop := ∃ m, w.cell? ⟨0, 0, none⟩ = some (.int .i64 m)
theorem Glob.lt {w : World} (h : Glob w) : 0 < w.heap.size := by
  obtain ⟨m, hm⟩ := h
  exact World.block_lt_of_cell? w _ hm
theorem Glob.below {w w' : World} {M : Nat} (h : Glob w) (hb : Below M w w') (hM : w.heap.size ≤ M) : Glob w' := by
  obtain ⟨m, hm⟩ := h
  refine ⟨m, ?_⟩
  rw [hb.cell (p := ⟨0, 0, none⟩) (Nat.lt_of_lt_of_le (World.block_lt_of_cell? w _ hm) hM)]
  exact hm
theorem Glob.below' {w0 w w' : World} (h0 : Glob w0) (h : Glob w) {M : Nat} (hb : Below M w w') (hM : w0.heap.size ≤ M) : Glob w' := by
  obtain ⟨m, hm⟩ := h
  refine ⟨m, ?_⟩
  rw [hb.cell (p := ⟨0, 0, none⟩) (Nat.lt_of_lt_of_le h0.lt hM)]
  exact hm

theorem addr_lit (b o j : Nat) : (⟨b, o, none⟩ : Addr).add j = ⟨b, o + j, none⟩ := by unfold Addr.add; split <;> simp_all

theorem splitB_strs (s : ByteArray) : (Lib.splitB ⟨#[47]⟩ 0 (Lib.countB s ⟨#[47]⟩) s).map Value.string = strs (parts s.toList) := by
  have h := Lib.splitB_data ⟨#[47]⟩ 0 (Lib.countB s ⟨#[47]⟩) s
  have h2 : Lib.splitK [47] 0 (Lib.countB s ⟨#[47]⟩) s.data.toList = parts s.toList := by
    rw [← split_parts, ByteArray.toList_eq]; rfl
  rw [h2] at h
  rw [← h]
  unfold strs
  rw [List.map_map]
  apply List.map_congr_left
  intro x _
  show Value.string x = Value.string (B x.data.toList)
  rw [← ByteArray.toList_eq, B_self]

theorem ssplit_any (s : ByteArray) (w : World) (hs : s.size < 4294967281) (hG : Glob w) :
    Calls Tryd.prog 30 #[.string s, .string ⟨#[47]⟩] w fun e w' => ∃ v, e = .returned v ∧ w'.ownsRow w.heap.size 9 1 v (parts s.toList).length (strs (parts s.toList)) ∧ Below w.heap.size w w' := by
  obtain ⟨m, hm⟩ := hG
  refine (Tryd.strings_Split s ⟨#[47]⟩ m w hs hm (by decide)).mono ?_
  rintro e w' ⟨rfl, rfl⟩
  have hl : (parts s.toList).length = Lib.countB s ⟨#[47]⟩ + 1 := by
    have h1 := Lib.splitB_all ⟨#[47]⟩ (by decide) 0 _ s rfl
    have h2 := congrArg List.length (splitB_strs s)
    rw [List.length_map, h1, strs_len] at h2
    exact h2.symm
  refine ⟨_, rfl, ⟨by rw [strs_len, Nat.mul_one], .inr ⟨w.heap.size, Lib.countB s ⟨#[47]⟩ + 1, _, by rw [hl], Nat.le_refl _, heap_alloc_new w _, by omega, ?_, ?_, ?_⟩⟩, (Below.refl _ _).alloc (Nat.le_refl _) _⟩
  · have := parts_le s.toList; rw [len_toList] at this; unfold maxLen; omega
  · rw [splitB_strs, List.size_toArray, strs_len, hl, Nat.mul_one]
  · rw [splitB_strs]
    show (strs (parts s.toList)).take _ = _
    rw [List.take_of_length_le (by rw [strs_len, Nat.mul_one]; exact Nat.le_refl _)]

theorem sjoin_any (A : Option Addr) (n c : Nat) (ls : List (List UInt8)) (w : World) (hr : Rd w w.heap.size 1 A n (strs ls)) (hc : n ≤ c) (hn : n ≤ 140737488355328) (hlen : (joinSl ls).length ≤ 140737488355328) :
    Calls Tryd.prog 32 #[.slice A n c, .string ⟨#[47]⟩] w fun e w' => e = .returned (.string (B (joinSl ls))) ∧ Below w.heap.size w w' := by
  have hl := hr.strs_length
  rcases Nat.eq_zero_or_pos n with h0 | h0
  · subst h0
    have e : ls = [] := List.eq_nil_of_length_eq_zero hl
    subst e
    exact (Tryd.strings_Join_none A c ⟨#[47]⟩ w).mono fun _ _ ⟨h1, h2⟩ => ⟨h1, by rw [h2]; exact Below.refl _ _⟩
  · obtain ⟨ad, rfl, hb, hcell⟩ := hr.2 h0
    obtain ⟨bk, o, spot⟩ := ad
    have hx0 := hcell 0 _ (List.getElem?_eq_getElem (by rw [strs_len]; omega))
    have hsp : spot = none := by simpa [Addr.add] using World.cell?_spot hx0
    subst hsp
    have e1 : (ls.map B).map (·.data.toList) = ls := by rw [List.map_map]; conv => rhs; rw [← List.map_id ls]
                                                        apply List.map_congr_left; intro l _; simp [B]
    have h := Tryd.strings_Join bk o c (ls.map B) ⟨#[47]⟩ w (fun j x hj => ?_) hb (by rw [List.length_map, hl]; exact hn) (by rw [List.length_map, hl]; exact hc) (by rw [e1]; exact hlen)
    · rw [List.length_map, hl, e1] at h
      exact h
    · rw [← addr_lit]
      refine hcell j _ ?_
      unfold strs
      rw [List.getElem?_map] at hj ⊢
      cases hk : ls[j]? with
      | none => rw [hk] at hj; simp at hj
      | some l => rw [hk] at hj; simp at hj; simp [hj]

end Go.Proofs.YtpbampchhpkpbaaDoor
