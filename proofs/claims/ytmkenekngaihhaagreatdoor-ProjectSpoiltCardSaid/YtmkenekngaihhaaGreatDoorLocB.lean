/-
  Layer 28 (locale): what the library's variables hold; Itoa; ordinal numbers.
-/
import Derived.Test.YtmkenekngaihhaaGreatDoorLocA
import Derived.Test.YtmkenekngaihhaaGreatDoorShelf49z
import Derived.Lib.LaidTab
namespace Go.Proofs.YtmkenekngaihhaaGreatDoor
open Go.RowKit
set_option linter.unusedVariables false
attribute [local go_sem] B_data B_size

/-- the library's variable bytealg.MaxLen holds some int; the table of powers of ten is as it was laid -/
def GlobL (w : World) : Prop := (∃ m, w.cell? ⟨0, 0, none⟩ = some (.int .i64 m)) ∧ Lib.TabIs Tryz.prog w "internal/strconv.uint64pow10" .u64 Lib.pow10Tab
theorem tab_block {w : World} (h : Lib.TabIs Tryz.prog w "internal/strconv.uint64pow10" .u64 Lib.pow10Tab) : ∃ o, w.heap[1]? = some o := by
  unfold Lib.TabIs World.var? at h
  rw [show Tryz.prog.globalNamed "internal/strconv.uint64pow10" = some 1 from by kernel_rfl] at h
  simp only [Option.bind_some] at h
  cases hh : w.heap[1]? with
  | none => rw [hh] at h; cases h
  | some o => exact ⟨o, rfl⟩
theorem tab_keep {w w' : World} (h : Lib.TabIs Tryz.prog w "internal/strconv.uint64pow10" .u64 Lib.pow10Tab) (e : w'.heap[1]? = w.heap[1]?) : Lib.TabIs Tryz.prog w' "internal/strconv.uint64pow10" .u64 Lib.pow10Tab := by
  unfold Lib.TabIs World.var? at h ⊢
  rw [show Tryz.prog.globalNamed "internal/strconv.uint64pow10" = some 1 from by kernel_rfl] at h ⊢
  simp only [Option.bind_some] at h ⊢
  rw [e]; exact h
theorem GlobL.below {w w' : World} (h : GlobL w) (hb : Below w.heap.size w w') : GlobL w' := by
  obtain ⟨⟨m, hm⟩, ht⟩ := h
  refine ⟨⟨m, ?_⟩, tab_keep ht ?_⟩
  · rw [hb.cell (p := ⟨0, 0, none⟩) (World.block_lt_of_cell? w _ hm)]; exact hm
  · obtain ⟨o, ho⟩ := tab_block ht
    exact hb.block _ (Array.getElem?_eq_some_iff.1 ho).1
theorem below_grow (w : World) (os : Array Obj) (k : Nat) : Below w.heap.size w (Go.Sort.grow (w.drewN k) os) := by
  refine ⟨rfl, rfl, rfl, ?_, fun i hi => ?_⟩
  · show w.heap.size ≤ (w.heap ++ os).size
    simp
  · show (w.heap ++ os)[i]? = w.heap[i]?
    exact Array.getElem?_append_left hi

theorem itoa_any (n : Nat) (w : World) (hn : n ≤ 1000000) (hG : GlobL w) : Calls Tryz.prog 31 #[.int .i64 n] w fun e w' => e = .returned (.string (B (Lib.decDigits n))) ∧ Below w.heap.size w w' := by
  refine (Tryz.strconv_Itoa n (by omega) (by omega) w hG.2).mono ?_
  rintro e w' ⟨rfl, k, os, rfl⟩
  refine ⟨?_, below_grow w os k⟩
  unfold Lib.itoa
  rw [if_neg (by omega), Int.toNat_natCast]; rfl

end Go.Proofs.YtmkenekngaihhaaGreatDoor
