/-
  Layer 35 (archive): the chapter's common and Archive.
-/
import Derived.Test.YtofbcblhpflleaaDoorArcR
import Derived.Test.YtofbcblhpflleaaDoorArchiveCutsW
import Derived.Test.YtofbcblhpflleaaDoorArcU
namespace Go.Proofs.YtofbcblhpflleaaDoor
open Go.RowKit
set_option linter.unusedVariables false
theorem B_cat (a b : List UInt8) : B a ++ B b = B (a ++ b) := (B_app a b).symm
theorem le2_len (n : Nat) : (le2L n).length = 2 := rfl
theorem le4_len (n : Nat) : (le4L n).length = 4 := rfl
attribute [local go_sem] B_data B_size B_cat le2_len le4_len com_len

theorem rle2_int (v : Int) (w : World) (h0 : 0 ≤ v) (hv : v < 4294967296) : Calls Tryd.prog 37 #[.int .u32 v, .int .i64 2] w fun e w' => e = .returned (.string (B (le2L v.toNat))) ∧ Below w.heap.size w w' := by
  obtain ⟨m, rfl⟩ : ∃ m : Nat, v = m := ⟨v.toNat, by omega⟩
  rw [Int.toNat_natCast]
  exact rle_any m 2 w (by omega) (by omega)
theorem rle4_int (v : Int) (w : World) (h0 : 0 ≤ v) (hv : v < 4294967296) : Calls Tryd.prog 37 #[.int .u32 v, .int .i64 4] w fun e w' => e = .returned (.string (B (le4L v.toNat))) ∧ Below w.heap.size w w' := by
  obtain ⟨m, rfl⟩ : ∃ m : Nat, v = m := ⟨v.toNat, by omega⟩
  rw [Int.toNat_natCast]
  exact rle_any m 4 w (by omega) (by omega)
set_option maxHeartbeats 4000000 in
set_option maxRecDepth 100000 in
theorem rcommon_any (nm da : List UInt8) (w : World) (hn : nm.length ≤ 1000000) (hd : da.length ≤ 1000000) :
    Calls Tryd.prog 38 #[.agg #[.string (B nm), .string (B da)]] w fun e w' => e = .returned (.string (B (comL nm.length da.length (crc da)))) ∧ Below w.heap.size w w' := by
  have w1 : IntKind.u32.wrap (nm.length : Int) = (nm.length : Int) := IntWalk.u32_in _ (by omega)
  have w2 : IntKind.u32.wrap (da.length : Int) = (da.length : Int) := IntWalk.u32_in _ (by omega)
  have hc := crc_lt da
  have HS : Hid (∀ W, Calls Tryd.prog 11 #[.string (B da)] W fun e w' => e = .returned (.int .u32 (crc da : Nat)) ∧ W = w') := fun W => by
    have := rsum_any (B da) W (by rw [B_size]; omega)
    rwa [B_data] at this
  generalize crc da = s at *
  go_enter Tryd.func38, Tryd.ntmps38
  go_wp2
  have hB : Below w.heap.size w (w.alloc (.cells #[.string (B nm), .string (B da)] 35)).drew := (below_alloc _ _).drew
  have c0 : (w.alloc (.cells #[.string (B nm), .string (B da)] 35)).drew.cell? ⟨w.heap.size, 0, none⟩ = some (.string (B nm)) := by simp
  have c1 : (w.alloc (.cells #[.string (B nm), .string (B da)] 35)).drew.cell? ⟨w.heap.size, 1, none⟩ = some (.string (B da)) := by simp
  go_region_held3 (fun w' => w'.cell? ⟨w.heap.size, 0, none⟩ = some (.string (B nm)) ∧ w'.cell? ⟨w.heap.size, 1, none⟩ = some (.string (B da))) (exact ⟨c0, c1⟩)
    (first
      | (go_at_call 37; with_reducible refine (rle2_int _ _ (by omega) (by omega)).mono ?_; rintro e w' ⟨rfl, hb⟩; have hB' := hB.trans (hb.mono hB.size); have c0' := keeps hb (Nat.le_refl _) c0; have c1' := keeps hb (Nat.le_refl _) c1; clear hB c0 c1 hb; have hB := hB'; have c0 := c0'; have c1 := c1'; clear hB' c0' c1')
      | (go_at_call 37; with_reducible refine (rle4_int _ _ (by omega) (by omega)).mono ?_; rintro e w' ⟨rfl, hb⟩; have hB' := hB.trans (hb.mono hB.size); have c0' := keeps hb (Nat.le_refl _) c0; have c1' := keeps hb (Nat.le_refl _) c1; clear hB c0 c1 hb; have hB := hB'; have c0 := c0'; have c1 := c1'; clear hB' c0' c1')
      | (go_at_call 11; with_reducible refine (HS.out _).mono ?_; rintro e w' ⟨rfl, rfl⟩))
  go_wp2
  go_ret
  exact ⟨ret_str (by simp [comL, comP]), hB⟩
end Go.Proofs.YtofbcblhpflleaaDoor
