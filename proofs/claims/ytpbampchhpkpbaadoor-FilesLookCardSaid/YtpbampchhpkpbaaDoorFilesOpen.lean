/-
  Layer 16 (files): arguments of the types []api.File and api.File.
-/
import Derived.Test.YtpbampchhpkpbaaDoorFilesV
import Derived.Deep.SlicePairs
import Derived.Lib.SmallJoins
import Derived.ChangeOld
namespace Go.Proofs.YtpbampchhpkpbaaDoor
set_option linter.unusedSimpArgs false
open Go.ChangeShapes Go.WideShapes Go.ChangeAt Go.RowKit
open Go.ChangeMaps (open_string shut_string)
set_option linter.unusedVariables false

theorem fls_range (f g : Nat → ByteArray) (n : Nat) (V0 V1 : Nat → Value) (h : ∀ i, i < n → V0 i = .string (f i) ∧ V1 i = .string (g i)) (j : Nat) (u : Value)
    (hj : (fls ((List.range n).map fun i => ((f i).toList, (g i).toList)))[j]? = some u) : ∃ i, i < n ∧ ((j = i * 2 ∧ u = V0 i) ∨ (j = i * 2 + 1 ∧ u = V1 i)) := by
  have hl : j < 2 * n := by
    have := (List.getElem?_eq_some_iff.1 hj).1
    rw [fls_len, List.length_map, List.length_range] at this; exact this
  have hk := fls_at ((List.range n).map fun i => ((f i).toList, (g i).toList)) (j / 2) (by simp; omega)
  have e : (((List.range n).map fun i => ((f i).toList, (g i).toList))[j / 2]?.getD ([], [])) = ((f (j / 2)).toList, (g (j / 2)).toList) := by
    rw [List.getElem?_map, List.getElem?_range (by omega)]; rfl
  rw [e] at hk
  have hi : j / 2 < n := by omega
  refine ⟨j / 2, hi, ?_⟩
  rcases Nat.mod_two_eq_zero_or_one j with e | e
  · refine .inl ⟨by omega, ?_⟩
    rw [show j / 2 * 2 = j from by omega, hj] at hk
    rw [(h _ hi).1, Option.some.inj hk.1]
    show Value.string (B (f (j / 2)).toList) = _
    rw [B_self]
  · refine .inr ⟨by omega, ?_⟩
    rw [show j / 2 * 2 + 1 = j from by omega, hj] at hk
    rw [(h _ hi).2, Option.some.inj hk.2]
    show Value.string (B (g (j / 2)).toList) = _
    rw [B_self]

theorem open_files {H : Type} {enc : TypeId × Value → H} {W : World} {base b0 : Nat} {sp : Nat → Bool} {held : Bool} {v : Value} {d : DataW H} {p : List MemPlace}
    (hv : Value.okWide Tryd.prog W .any b0 31 v) (h : DataW.Trod enc Tryd.prog W base sp held 31 v d p) :
    ∃ A n c fs, v = .slice A n c ∧ Rd W W.heap.size 2 A n (fls fs) ∧ n ≤ c ∧ c ≤ maxLen := by
  obtain ⟨A, n, c, rfl⟩ := okWide_slice Tryd.underlying31 hv
  obtain ⟨fuel, hf⟩ := h
  rcases Go.Deep.open_slice_pairs Tryd.underlying31 Tryd.underlying36 (by kernel_rfl) rfl rfl (by kernel_rfl) (by kernel_rfl) hf with ⟨h0, _⟩ | ⟨a, len, cap, m, q, V0, V1, D0, D1, P0, P1, h0, hb, hl, hm, hmm, _, hx⟩
  · have : A = none ∧ n = 0 ∧ c = 0 := by simpa [Value.cells] using h0
    obtain ⟨rfl, rfl, rfl⟩ := this
    exact ⟨_, _, _, [], rfl, Rd.nil, Nat.le_refl _, Nat.zero_le _⟩
  · have : A = some a ∧ n = len ∧ c = cap := by simpa [Value.cells] using h0
    obtain ⟨rfl, rfl, rfl⟩ := this
    have hnm : n ≤ m := by rw [hmm]; split <;> omega
    have each : ∀ i, ∃ q : ByteArray × ByteArray, i < n → V0 i = .string q.1 ∧ V1 i = .string q.2 := by
      intro i
      by_cases hi : i < n
      · obtain ⟨_, _, t0, t1⟩ := hx i (by omega)
        obtain ⟨s0, e0, _, _⟩ := DataW.trod_string Tryd.underlying9 t0
        obtain ⟨s1, e1, _, _⟩ := DataW.trod_string Tryd.underlying9 t1
        exact ⟨(s0, s1), fun _ => ⟨by simpa using e0, by simpa using e1⟩⟩
      · exact ⟨(ByteArray.empty, ByteArray.empty), fun h => absurd h hi⟩
    have hch := fun i => Classical.choose_spec (each i)
    refine ⟨_, _, _, (List.range n).map fun i => ((Classical.choose (each i)).1.toList, (Classical.choose (each i)).2.toList), rfl, ⟨?_, fun h1 => ⟨a, rfl, ?_, ?_⟩⟩, hl, hm⟩
    · rw [fls_len]; simp; omega
    · have := World.block_lt_of_cell? W _ (hx 0 (by omega)).1
      rwa [addr_block] at this
    · intro j u hj
      obtain ⟨i, hi, hc⟩ := fls_range (fun i => (Classical.choose (each i)).1) (fun i => (Classical.choose (each i)).2) n V0 V1 (fun i hi => hch i hi) j u hj
      rcases hc with ⟨rfl, rfl⟩ | ⟨rfl, rfl⟩
      · exact (hx i (by omega)).1
      · exact (hx i (by omega)).2.1

theorem open_file {H : Type} {enc : TypeId × Value → H} {W : World} {base b0 : Nat} {sp : Nat → Bool} {held : Bool} {v : Value} {d : DataW H} {p : List MemPlace}
    (hv : Value.okWide Tryd.prog W .any b0 36 v) (h : DataW.Trod enc Tryd.prog W base sp held 36 v d p) :
    ∃ s t : ByteArray, v = .agg #[.string s, .string t] := by
  obtain ⟨v0, v1, y0, y1, n, rfl, _, _, h0, h1⟩ := Go.Joins.open_agg2 Tryd.underlying36 (by kernel_rfl) (by kernel_rfl) hv h
  obtain ⟨s0, e0, _, _⟩ := DataW.trod_string Tryd.underlying9 h0
  obtain ⟨s1, e1, _, _⟩ := DataW.trod_string Tryd.underlying9 h1
  exact ⟨s0, s1, by simp at e0 e1; rw [e0, e1]⟩

end Go.Proofs.YtpbampchhpkpbaaDoor
