/-
  Layer 35 (archive): the common part of a file, the program's side.
-/
import Derived.Test.YtofbcblhpflleaaDoorArcD
import Derived.Deep.DrawnRows
namespace Go.Proofs.YtofbcblhpflleaaDoor
open Go.RowKit
set_option linter.unusedVariables false
attribute [local go_sem] B_data B_size
attribute [local go_sem ↓] Go.wp_at_zero Go.wp_at_succ

/-- the parts of the common part: n the length of the name, m that of the data, s the checksum -/
def comP (n m s : Nat) : List (List UInt8) := [le2L 10, le2L 0, le2L 0, le2L 0, le2L 33, le4L s, le4L m, le4L m, le2L n, le2L 0]
def comL (n m s : Nat) : List UInt8 := (comP n m s).flatten
theorem com_len (n m s : Nat) : (comL n m s).length = 26 := by simp [comL, comP, le2L, le4L]
theorem keeps {w w' : World} {M : Nat} (hb : Below M w w') (hM : w.heap.size ≤ M) {p : Addr} {v : Value} (h : w.cell? p = some v) : w'.cell? p = some v := by
  rw [hb.cell (Nat.lt_of_lt_of_le (World.block_lt_of_cell? w _ h) hM)]; exact h
theorem rd_cells (w : World) (C : Array Value) (L : List (List UInt8)) (n : Nat) (h : C.toList = strs L) (hn : L.length = n) : Rd (w.alloc (.cells C 9)) (w.alloc (.cells C 9)).heap.size 1 (some ⟨w.heap.size, 0, none⟩) n (strs L) := by
  refine ⟨by rw [strs_len, hn, Nat.mul_one], fun _ => ⟨_, rfl, by simp, fun j u hj => ?_⟩⟩
  rw [addr_lit, cell_of_row _ w.heap.size _ C 9 (0, 0) (heap_alloc_new w _)]
  rw [← h] at hj
  simpa using hj
theorem le2_int (n : Int) (w : World) (h0 : 0 ≤ n) (hn : n ≤ 1000000000000) : Calls Tryd.prog 32 #[.int .i64 n] w fun e w' => e = .returned (.string (B (le2L n.toNat))) ∧ Below w.heap.size w w' := by
  obtain ⟨m, rfl⟩ : ∃ m : Nat, n = m := ⟨n.toNat, by omega⟩
  rw [Int.toNat_natCast]
  exact le2_any m w (by omega)
theorem le4_int (n : Int) (w : World) (h0 : 0 ≤ n) (hn : n ≤ 1000000000000) : Calls Tryd.prog 31 #[.int .i64 n] w fun e w' => e = .returned (.string (B (le4L n.toNat))) ∧ Below w.heap.size w w' := by
  obtain ⟨m, rfl⟩ : ∃ m : Nat, n = m := ⟨n.toNat, by omega⟩
  rw [Int.toNat_natCast]
  exact le4_any m w (by omega)
set_option maxHeartbeats 4000000 in
theorem common_any (nm da : List UInt8) (s : Nat) (w : World) (hn : nm.length ≤ 100000000) (hd : da.length ≤ 100000000) (hs : s < 4294967296) :
    Calls Tryd.prog 21 #[.agg #[.string (B nm), .string (B da)], .int .u32 s] w fun e w' => e = .returned (.string (B (comL nm.length da.length s))) ∧ Below w.heap.size w w' := by
  go_enter Tryd.func21, Tryd.ntmps21
  go_wp2_with fail
  refine (le4_any da.length _ (by omega)).mono ?_
  rintro e w1 ⟨rfl, hb1'⟩
  have hb1 : Below w.heap.size w w1 := (below_alloc _ _).trans (hb1'.mono (by simp))
  have c1 : w1.cell? ⟨w.heap.size, 0, none⟩ = some (.string (B nm)) := keeps hb1' (Nat.le_refl _) (by simp)
  clear hb1'
  go_wp2
  have hB : Below w.heap.size w w1.drew := hb1.drew
  have hws : IntKind.i64.wrap (s : Int) = (s : Int) := IntWalk.i64_in _ (by omega)
  go_region_held3 (fun w' => w'.cell? ⟨w.heap.size, 0, none⟩ = some (.string (B nm))) (first | exact c1 | (exact keeps hb (Nat.le_refl _) (by assumption)) | (exact keeps (below_alloc _ _) (Nat.le_refl _) (by assumption)))
    (first
      | (go_at_call 32; refine (le2_int _ _ (by omega) (by omega)).mono ?_; rintro e w' ⟨rfl, hb⟩; have hB' := hB.trans (hb.mono hB.size); clear hB; have hB := hB'; clear hB')
      | (go_at_call 31; refine (le4_int _ _ (by omega) (by omega)).mono ?_; rintro e w' ⟨rfl, hb⟩; have hB' := hB.trans (hb.mono hB.size); clear hB; have hB := hB'; clear hB')
      | (go_at_call 20; refine (sjoinE_any _ 10 10 (comP nm.length da.length s) _ (rd_cells _ _ _ 10 rfl rfl) (by omega) (by omega) (by show (comL nm.length da.length s).length ≤ _; rw [com_len]; omega)).mono ?_; rintro e w' ⟨rfl, hb⟩; have hB' := (hB.alloc hB.size _).trans (hb.mono (hB.alloc hB.size _).size); clear hB; have hB := hB'; clear hB'))
  go_wp2
  go_ret
  exact ⟨rfl, hB⟩
end Go.Proofs.YtofbcblhpflleaaDoor
