/-
  Arguments of the types uint8 and []uint8.
-/
import Derived.Test.YtofbcblhpflleaaDoorMem
import Derived.Lib.SmallJoins
import Derived.ChangeOld
import Derived.ChangeSlices
namespace Go.Proofs.YtofbcblhpflleaaDoor
open Go.ChangeShapes Go.WideShapes Go.ChangeAt Go.RowKit
set_option linter.unusedVariables false

/-- bytes, as cells -/
def u8s (l : List UInt8) : List Value := l.map fun b => .int .u8 (b.toNat : Int)
theorem u8s_len (l : List UInt8) : (u8s l).length = l.length := by simp [u8s]
theorem u8_of {n : Int} (h : (Lit.int .u8 n).wf = true) : ((UInt8.ofNat n.toNat).toNat : Int) = n := by
  have h' : decide (0 ≤ n) = true ∧ decide (n ≤ 255) = true := by rw [← Bool.and_eq_true]; exact h
  have h1 : 0 ≤ n := of_decide_eq_true h'.1
  have h2 : n ≤ 255 := of_decide_eq_true h'.2
  rw [UInt8.toNat_ofNat']
  omega
theorem open_u8 {H : Type} {enc : TypeId × Value → H} {W : World} {base b0 : Nat} {sp : Nat → Bool} {held : Bool} {v : Value} {d : DataW H} {p : List MemPlace}
    (hv : Value.okWide Tryd.prog W .any b0 5 v) (h : DataW.Trod enc Tryd.prog W base sp held 5 v d p) : ∃ q : UInt8, v = .int .u8 (q.toNat : Int) := by
  obtain ⟨n, rfl, _, _, hw⟩ := open_int Tryd.underlying5 hv h
  exact ⟨UInt8.ofNat n.toNat, by rw [u8_of hw]⟩
theorem open_bytes {H : Type} {enc : TypeId × Value → H} {W : World} {base b0 : Nat} {held : Bool} {v : Value} {d : DataW H} {p : List MemPlace}
    (hv : Value.okWide Tryd.prog W .any b0 36 v) (h : DataW.Trod enc Tryd.prog W base (fun _ => true) held 36 v d p) :
    ∃ A n c l, v = .slice A n c ∧ Rd W W.heap.size 1 A n (u8s l) ∧ n ≤ c ∧ c ≤ maxLen := by
  obtain ⟨A, n, c, rfl⟩ := okWide_slice Tryd.underlying36 hv
  obtain ⟨fuel, hf⟩ := h
  rcases open_ints Tryd.underlying36 Tryd.underlying5 (by kernel_rfl) hf with ⟨hcs, _⟩ | ⟨a, l, c', zs, hcs, _, hl, hm, hz, hx, hcell, hws⟩
  · simp [Value.cells] at hcs
    obtain ⟨rfl, rfl, rfl⟩ := hcs
    exact ⟨none, 0, 0, [], rfl, Rd.nil, Nat.le_refl _, Nat.zero_le _⟩
  · simp [Value.cells] at hcs
    obtain ⟨rfl, rfl, rfl⟩ := hcs
    simp only [if_true] at hz
    refine ⟨some a, n, c, (zs.take n).map fun z => UInt8.ofNat z.toNat, rfl, ⟨by simp [u8s]; omega, fun h0 => ⟨a, rfl, ?_, fun j u hj => ?_⟩⟩, hl, hm⟩
    · have := World.block_lt_of_cell? W _ (hcell 0 (by omega))
      rwa [addr_block] at this
    · have hj' : j < n := by
        have := (List.getElem?_eq_some_iff.1 hj).1
        simp [u8s] at this; omega
      have hjz : j < zs.length := by omega
      rw [hcell j hjz, ← hj]
      have hw := hws _ (List.getElem_mem hjz)
      simp only [u8s, List.getElem?_map, List.getElem?_take, if_pos hj', List.getElem?_eq_getElem hjz, Option.map_some, List.getD_eq_getElem?_getD, Option.getD_some, u8_of hw]
end Go.Proofs.YtofbcblhpflleaaDoor
