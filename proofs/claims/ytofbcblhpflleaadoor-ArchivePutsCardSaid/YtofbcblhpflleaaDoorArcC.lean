/-
  Layer 35 (archive): numbers as bytes, and back.
-/
import Derived.Test.YtofbcblhpflleaaDoorFilesT
import Derived.Test.YtofbcblhpflleaaDoorArcB
import Derived.Laws.IdiomStrings
namespace Go.Proofs.YtofbcblhpflleaaDoor
open Go.RowKit
set_option linter.unusedVariables false
attribute [local go_sem] B_data B_size

theorem below_alloc (w : World) (o : Obj) : Below w.heap.size w (w.alloc o) := (Below.refl _ _).alloc (Nat.le_refl _) o
/-- a number in two, in four bytes -/
def le2L (n : Nat) : List UInt8 := [UInt8.ofNat n, UInt8.ofNat (n / 256)]
def le4L (n : Nat) : List UInt8 := [UInt8.ofNat n, UInt8.ofNat (n / 256), UInt8.ofNat (n / 65536), UInt8.ofNat (n / 16777216)]
theorem conv2 (n : Nat) (W : World) : (convert 36 9 (.slice (some ⟨W.heap.size, 0, none⟩) 2 2)).run Tryd.prog (W.alloc (.cells #[.int .u8 ((n : Int) % 256), .int .u8 ((n : Int) / 256 % 256)] 5)) = .ok (.string (B (le2L n))) (W.alloc (.cells #[.int .u8 ((n : Int) % 256), .int .u8 ((n : Int) / 256 % 256)] 5)) := by
  refine run_convert_bytes_back _ 36 9 5 ⟨W.heap.size, 0, none⟩ 2 (le2L n) Tryd.underlying36 Tryd.underlying5 Tryd.underlying9 (fun j hj => ?_)
  rw [addr_lit, cell_of_row _ W.heap.size _ _ _ (0, 0) (heap_alloc_new W _)]
  have hj : j < 2 := hj
  have : j = 0 ∨ j = 1 := by omega
  rcases this with rfl | rfl <;> simp [le2L]
theorem conv4 (n : Nat) (W : World) : (convert 36 9 (.slice (some ⟨W.heap.size, 0, none⟩) 4 4)).run Tryd.prog (W.alloc (.cells #[.int .u8 ((n : Int) % 256), .int .u8 ((n : Int) / 256 % 256), .int .u8 ((n : Int) / 65536 % 256), .int .u8 ((n : Int) / 16777216 % 256)] 5)) = .ok (.string (B (le4L n))) (W.alloc (.cells #[.int .u8 ((n : Int) % 256), .int .u8 ((n : Int) / 256 % 256), .int .u8 ((n : Int) / 65536 % 256), .int .u8 ((n : Int) / 16777216 % 256)] 5)) := by
  refine run_convert_bytes_back _ 36 9 5 ⟨W.heap.size, 0, none⟩ 4 (le4L n) Tryd.underlying36 Tryd.underlying5 Tryd.underlying9 (fun j hj => ?_)
  rw [addr_lit, cell_of_row _ W.heap.size _ _ _ (0, 0) (heap_alloc_new W _)]
  have hj : j < 4 := hj
  have : j = 0 ∨ j = 1 ∨ j = 2 ∨ j = 3 := by omega
  rcases this with rfl | rfl | rfl | rfl <;> simp [le4L]
set_option maxHeartbeats 1000000 in
theorem le2_any (n : Nat) (w : World) (hn : n ≤ 1000000000000) : Calls Tryd.prog 32 #[.int .i64 n] w fun e w' => e = .returned (.string (B (le2L n))) ∧ Below w.heap.size w w' := by
  have hcv := conv2 n w
  go_enter Tryd.func32, Tryd.ntmps32
  go_wp2
  go_ret
  exact ⟨rfl, below_alloc _ _⟩
set_option maxHeartbeats 1000000 in
theorem le4_any (n : Nat) (w : World) (hn : n ≤ 1000000000000) : Calls Tryd.prog 31 #[.int .i64 n] w fun e w' => e = .returned (.string (B (le4L n))) ∧ Below w.heap.size w w' := by
  have hcv := conv4 n w
  go_enter Tryd.func31, Tryd.ntmps31
  go_wp2
  go_ret
  exact ⟨rfl, below_alloc _ _⟩
/-- the number that bytes mean -/
def numL : List UInt8 → Nat
  | [] => 0
  | c :: r => c.toNat + 256 * numL r
end Go.Proofs.YtofbcblhpflleaaDoor
