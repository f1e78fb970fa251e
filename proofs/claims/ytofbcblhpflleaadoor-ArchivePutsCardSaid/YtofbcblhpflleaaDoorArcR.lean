/-
  Layer 35 (archive): the chapter's le.
-/
import Derived.Test.YtofbcblhpflleaaDoorArcX
namespace Go.Proofs.YtofbcblhpflleaaDoor
open Go.RowKit
set_option linter.unusedVariables false
attribute [local go_sem] B_data B_size

theorem and_255 (r : Nat) (h : r < 4294967296) : bits .and .u32 (r : Int) 255 = ((UInt8.ofNat r).toNat : Int) := by
  have := u32_and_nat r 255 h (by decide)
  rw [show ((255 : Nat) : Int) = 255 from rfl] at this
  rw [this, show (255 : Nat) = 2 ^ 8 - 1 from rfl, Nat.and_two_pow_sub_one_eq_mod, UInt8.toNat_ofNat']
theorem conv1R (c : UInt8) (W : World) : (convert 36 9 (.slice (some ⟨W.heap.size, 0, none⟩) 1 1)).run Tryd.prog (W.alloc (.cells #[.int .u8 (c.toNat : Int)] 5)) = .ok (.string (B [c])) (W.alloc (.cells #[.int .u8 (c.toNat : Int)] 5)) := by
  refine run_convert_bytes_back _ 36 9 5 ⟨W.heap.size, 0, none⟩ 1 [c] Tryd.underlying36 Tryd.underlying5 Tryd.underlying9 (fun j hj => ?_)
  rw [addr_lit, cell_of_row _ W.heap.size _ _ _ (0, 0) (heap_alloc_new W _)]
  have hj : j < 1 := hj
  obtain rfl : j = 0 := by omega
  rfl
theorem le4_take (v k : Nat) (h : k < 4) : (le4L v).take (k + 1) = (le4L v).take k ++ [UInt8.ofNat (v / 256 ^ k)] := by
  have : k = 0 ∨ k = 1 ∨ k = 2 ∨ k = 3 := by omega
  rcases this with rfl | rfl | rfl | rfl <;> simp [le4L]
set_option maxHeartbeats 2000000 in
theorem rle_any (v n : Nat) (w : World) (hv : v < 4294967296) (hn : n ≤ 4) : Calls Tryd.prog 37 #[.int .u32 v, .int .i64 n] w fun e w' => e = .returned (.string (B ((le4L v).take n))) ∧ Below w.heap.size w w' := by
  go_enter Tryd.func37, Tryd.ntmps37
  go_wp2
  go_loopw [5, 6] (fun s i wr => ∃ k : Nat, k ≤ n ∧ i = .int .i64 k ∧ s = .string (B ((le4L v).take k)) ∧ Below w.heap.size w wr) (fun _ i _ => n - (intOf i).toNat)
  case atStart => exact ⟨0, by omega, rfl, rfl, Below.refl _ _⟩
  case round =>
    obtain ⟨k, hk, rfl, rfl, hbw⟩ := hrel
    have hbs := hbw.size
    by_cases hlt : k < n
    · have HT := Lib.hid (le4_take v k (by omega))
      have hr : v / 256 ^ k < 4294967296 := Nat.lt_of_le_of_lt (Nat.div_le_self _ _) hv
      have ha := and_255 (v / 256 ^ k) hr
      have hsh : (v : Int) / 2 ^ (8 * k) = ((v / 256 ^ k : Nat) : Int) := by
        rw [show (256 : Nat) = 2 ^ 8 from rfl, ← Nat.pow_mul]
        push_cast
        rfl
      have hk3 : k ≤ 3 := by omega
      generalize v / 256 ^ k = r at *
      generalize UInt8.ofNat r = c at *
      have hcv := conv1R c wr
      have hc8 : (c.toNat : Int) % 256 = (c.toNat : Int) := by have := c.toNat_lt; omega
      have htk : ((le4L v).take k).length ≤ 4 := by rw [List.length_take]; omega
      generalize (le4L v).take k = tk at *
      go_wp2
      go_roundw
      case rel => exact ⟨k + 1, by omega, by go_num, by rw [HT.out, B_app], hbw.alloc hbs _⟩
      case measure => simp [intOf]; omega
    · obtain rfl : k = n := by omega
      go_wp2
      go_ret
      exact ⟨rfl, hbw⟩
end Go.Proofs.YtofbcblhpflleaaDoor
