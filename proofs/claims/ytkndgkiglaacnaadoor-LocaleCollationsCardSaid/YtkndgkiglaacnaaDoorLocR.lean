/-
  Layer 25 (collate), the chapter's: Same of equal collations.
-/
import Derived.Test.YtkndgkiglaacnaaDoorLocQ
import Derived.Laws.StructEq
namespace Go.Proofs.YtkndgkiglaacnaaDoor
open Go.RowKit
set_option linter.unusedVariables false
set_option linter.unusedSimpArgs false
attribute [local go_sem] B_data B_size

theorem pair_eq (f g : List UInt8 × List UInt8) (W : World) : (Op.equalIn 10000 68 (.agg #[.string (B f.1), .string (B f.2)]) (.agg #[.string (B g.1), .string (B g.2)])).run Tryd.prog W = .ok (f.1 == g.1 && f.2 == g.2) W := by
  have u3 := Tryd.underlying9
  have a3 := Tryd.isAgg9
  have z3 := Tryd.sizeOf9
  have hS : Tryd.prog.underlying 68 = some (.struct (Tryd.prog.fieldsOf 68)) := by kernel_rfl
  have hp : Tryd.prog.stoodInHeld 68 = false := by kernel_rfl
  rw [show (10000 : Nat) = 9999 + 1 from rfl, run_equalIn_agg W 9999 68 _ _ hS hp]
  simp only [Program.fieldsOf, Tryd.underlying68]
  go_simp
  by_cases h1 : f.1 = g.1 <;> by_cases h2 : f.2 = g.2 <;> simp [h1, h2]
theorem pair_neq (f g : List UInt8 × List UInt8) (W : World) : (binOp .neq 68 (.agg #[.string (B f.1), .string (B f.2)]) (.agg #[.string (B g.1), .string (B g.2)])).run Tryd.prog W = .ok (.bool (!(f.1 == g.1 && f.2 == g.2))) W := by
  rw [run_neq_struct, pair_eq]; rfl
set_option maxHeartbeats 8000000 in
set_option maxRecDepth 100000 in
theorem same_ok (A A2 A' A2' : Option Addr) (n c n2 c2 n' c' n2' c2' : Nat) (L : List (List UInt8)) (P : List (List UInt8 × List UInt8)) (w : World) (hL : Rd w w.heap.size 1 A n (strs L)) (hP : Rd w w.heap.size 2 A2 n2 (prs P)) (hL' : Rd w w.heap.size 1 A' n' (strs L)) (hP' : Rd w w.heap.size 2 A2' n2' (prs P)) (hn : n ≤ 100000) (hn2 : n2 ≤ 100000) :
    Calls Tryd.prog 23 #[.agg #[.slice A2 n2 c2, .slice A n c, .string ⟨#[]⟩], .agg #[.slice A2' n2' c2', .slice A' n' c', .string ⟨#[]⟩]] w fun e w' => e = .returned (.bool true) ∧ Below w.heap.size w w' := by
  have HL := Lib.hid hL.strs_length
  have HP := Lib.hid hP.prs_length
  obtain rfl : n = n' := by rw [← HL.out]; exact hL'.strs_length
  obtain rfl : n2 = n2' := by rw [← HP.out]; exact hP'.prs_length
  obtain ⟨wa, hwa⟩ : ∃ wa, wa = (w.alloc (.cells #[.slice A2 n2 c2, .slice A n c, .string ⟨#[]⟩] 42)).alloc (.cells #[.slice A2' n2 c2', .slice A' n c', .string ⟨#[]⟩] 42) := ⟨_, rfl⟩
  have hba : Below w.heap.size w wa := by rw [hwa]; exact (below_alloc _ _).alloc (by simp) _
  have hza : wa.heap.size = w.heap.size + 2 := by rw [hwa]; simp
  have HQ := Lib.hid (fun (W : World) (hb : Below wa.heap.size wa W) => (⟨(hb.cell (p := ⟨w.heap.size, 0, none⟩) (by show w.heap.size < _; omega)).trans (by rw [hwa]; simp), (hb.cell (p := ⟨w.heap.size, 1, none⟩) (by show w.heap.size < _; omega)).trans (by rw [hwa]; simp), (hb.cell (p := ⟨w.heap.size + 1, 0, none⟩) (by show w.heap.size + 1 < _; omega)).trans (by rw [hwa]; simp), (hb.cell (p := ⟨w.heap.size + 1, 1, none⟩) (by show w.heap.size + 1 < _; omega)).trans (by rw [hwa]; simp)⟩ :
    W.cell? ⟨w.heap.size, 0, none⟩ = some (.slice A2 n2 c2) ∧ W.cell? ⟨w.heap.size, 1, none⟩ = some (.slice A n c) ∧ W.cell? ⟨w.heap.size + 1, 0, none⟩ = some (.slice A2' n2 c2') ∧ W.cell? ⟨w.heap.size + 1, 1, none⟩ = some (.slice A' n c')))
  go_enter Tryd.func23, Tryd.ntmps23
  go_wp2
  rw [← hwa]
  clear hwa
  go_loopw [5] (fun i wr => ∃ k q : Nat, k ≤ n ∧ i = .int .i64 k ∧ wr = wa.drewN q) (fun i _ => n - (intOf i).toNat)
  case atStart => exact ⟨0, 0, Nat.zero_le _, rfl, rfl⟩
  case round =>
    obtain ⟨k, q, hk, rfl, rfl⟩ := hrel
    have hbw := below_of_drewN wa.heap.size wa q
    obtain ⟨q0, q1, r0, r1⟩ := HQ.out wa (Below.refl _ _)
    by_cases hlt : k < n
    · obtain ⟨x, hx⟩ := get_of (l := L) (k := k) (by rw [HL.out]; exact hlt)
      obtain ⟨b, o, rfl, hm, hcx⟩ := rd_strG (hL.below hba) hx
      obtain ⟨b', o', rfl, hm', hcx'⟩ := rd_strG (hL'.below hba) hx
      have i1 : (0 : Int) ≤ (k : Int) := by omega
      have i2 : (k : Int) < (n : Int) := by omega
      clear hx
      go_wp2
      go_quiet (fail)
      go_wp2
      go_roundw
      case rel => exact ⟨k + 1, _, by omega, by go_num, rfl⟩
      case measure => simp [intOf]; omega
    · go_wp2
      go_loopw [6] (fun i wr => ∃ k q : Nat, k ≤ n2 ∧ i = .int .i64 k ∧ wr = wa.drewN q) (fun i _ => n2 - (intOf i).toNat)
      case atStart => exact ⟨0, q, Nat.zero_le _, rfl, rfl⟩
      case round =>
        clear hbw q0 q1 r0 r1
        obtain ⟨k, q, hk, rfl, rfl⟩ := hrel
        have hbw := below_of_drewN wa.heap.size wa q
        obtain ⟨q0, q1, r0, r1⟩ := HQ.out wa (Below.refl _ _)
        by_cases hlt : k < n2
        · obtain ⟨p, hx⟩ := get_of (l := P) (k := k) (by rw [HP.out]; exact hlt)
          obtain ⟨b, o, rfl, hm, hcx, hcy⟩ := rd_pr (hP.below hba) hx
          obtain ⟨b', o', rfl, hm', hcx', hcy'⟩ := rd_pr (hP'.below hba) hx
          have i1 : (0 : Int) ≤ (k : Int) := by omega
          have i2 : (k : Int) < (n2 : Int) := by omega
          have HN : ∀ W : World, (binOp .neq 68 (.agg #[.string (B p.1), .string (B p.2)]) (.agg #[.string (B p.1), .string (B p.2)])).run Tryd.prog W = .ok (.bool false) W := fun W => by have := pair_neq p p W; simpa using this
          clear hx
          go_wp2
          go_quiet (fail)
          go_wp2
          go_roundw
          case rel => exact ⟨k + 1, _, by omega, by go_num, rfl⟩
          case measure => simp [intOf]; omega
        · go_wp2
          go_ret
          exact ⟨rfl, hba.trans (hbw.mono hba.size)⟩
end Go.Proofs.YtkndgkiglaacnaaDoor
