/-
  Layer 44 (links): arguments of the types []api.File and api.File; a world that lays the listed tables, for the witness.
-/
import Derived.Test.YtejjidbodfoiiaaGreatDoorLkXYZ
import Derived.Test.YtejjidbodfoiiaaGreatDoorCards
import Derived.Test.YtejjidbodfoiiaaGreatDoorTie
import Derived.Deep.SlicePairs
import Derived.Lib.SmallJoins
import Derived.ChangeOld
import Derived.WalkKit
import Derived.ProofKit
import Derived.OpenShut
import Derived.Deep.DeepHandedRow
import Derived.Deep.DeepLaidRun
import Derived.Lib.LaidTab
namespace Go.Proofs.YtejjidbodfoiiaaGreatDoor
open Go.ChangeShapes Go.WideShapes Go.ChangeAt Go.RowKit
open Go.ChangeMaps (open_string shut_string)
set_option linter.unusedVariables false
set_option linter.unusedSimpArgs false

theorem toB (s : ByteArray) : s = B s.toList := by
  rw [ByteArray.toList_eq]; simp [B]
set_option maxRecDepth 100000 in
set_option maxRecDepth 100000 in
theorem open_files {H : Type} {enc : TypeId × Value → H} {W : World} {base b0 : Nat} {sp : Nat → Bool} {held : Bool} {v : Value} {d : DataW H} {p : List MemPlace}
    (hv : Value.okWide Tryz.prog W .any b0 22 v) (h : DataW.Trod enc Tryz.prog W base sp held 22 v d p) :
    ∃ (A : Option Addr) (n c : Nat) (fs : List Fl), v = .slice A n c ∧ Rd W W.heap.size 2 A n (fs.flatMap flC) ∧ n ≤ c ∧ c ≤ maxLen := by
  obtain ⟨A, n, c, rfl⟩ := okWide_slice Tryz.underlying22 hv
  obtain ⟨fuel, hf⟩ := h
  rcases Go.Deep.open_slice_pairs Tryz.underlying22 Tryz.underlying39 (by kernel_rfl) rfl rfl (by kernel_rfl) (by kernel_rfl) hf with ⟨h0, _⟩ | ⟨a, len, cap, m, q, V0, V1, D0, D1, P0, P1, h0, hb, hl, hm, hmm, _, hx⟩
  · have : A = none ∧ n = 0 ∧ c = 0 := by simpa [Value.cells] using h0
    obtain ⟨rfl, rfl, rfl⟩ := this
    exact ⟨_, _, _, [], rfl, Rd.nil, Nat.le_refl _, Nat.zero_le _⟩
  · have : A = some a ∧ n = len ∧ c = cap := by simpa [Value.cells] using h0
    obtain ⟨rfl, rfl, rfl⟩ := this
    have hnm : n ≤ m := by rw [hmm]; split <;> omega
    have each : ∀ i, i < n → ∃ q : Fl, V0 i = .string (B q.1) ∧ V1 i = .string (B q.2) := by
      intro i hi
      obtain ⟨_, _, t0, t1⟩ := hx i (by omega)
      obtain ⟨s0, e0, _, _⟩ := DataW.trod_string Tryz.underlying9 t0
      obtain ⟨s1, e1, _, _⟩ := DataW.trod_string Tryz.underlying9 t1
      have e0 : V0 i = .string s0 := by simpa using e0
      have e1 : V1 i = .string s1 := by simpa using e1
      exact ⟨(s0.toList, s1.toList), by rw [e0]; exact congrArg Value.string (toB s0), by rw [e1]; exact congrArg Value.string (toB s1)⟩
    obtain ⟨Q, hQ⟩ := Go.Deep.choose_lt each
    have hlen : ((List.range n).map Q).length = n := by simp
    refine ⟨some a, n, c, (List.range n).map Q, rfl, ⟨?_, fun h1 => ⟨a, rfl, ?_, ?_⟩⟩, hl, hm⟩
    · rw [row_len flC 2 flC_len, hlen]
    · have := World.block_lt_of_cell? W _ (hx 0 (by omega)).1
      rwa [addr_block] at this
    · intro j u hj
      have hjl := (List.getElem?_eq_some_iff.1 hj).1
      rw [row_len flC 2 flC_len, hlen] at hjl
      have hi : j / 2 < n := by omega
      have hr := Nat.mod_lt j (show 0 < 2 by omega)
      have e : j = j / 2 * 2 + j % 2 := by omega
      have hxx : ((List.range n).map Q)[j / 2]? = some (Q (j / 2)) := by rw [List.getElem?_map, List.getElem?_range hi]; rfl
      obtain ⟨x0, x1, _, _⟩ := hx (j / 2) (by omega)
      obtain ⟨q0, q1⟩ := hQ (j / 2) hi
      rw [q0] at x0
      rw [q1] at x1
      rw [e, row_at flC 2 flC_len _ _ _ _ hxx hr] at hj
      rw [e]
      rcases Nat.mod_two_eq_zero_or_one j with h2 | h2
      · rw [h2] at hj ⊢
        rw [← Option.some.inj hj]; exact x0
      · rw [h2] at hj ⊢
        rw [← Option.some.inj hj]; exact x1
set_option maxRecDepth 100000 in
set_option maxRecDepth 100000 in
theorem open_file {H : Type} {enc : TypeId × Value → H} {W : World} {base b0 : Nat} {sp : Nat → Bool} {held : Bool} {v : Value} {d : DataW H} {p : List MemPlace}
    (hv : Value.okWide Tryz.prog W .any b0 39 v) (h : DataW.Trod enc Tryz.prog W base sp held 39 v d p) :
    ∃ s t : Bs, v = .agg #[.string (B s), .string (B t)] := by
  obtain ⟨v0, v1, y0, y1, n, rfl, _, _, h0, h1⟩ := Go.Joins.open_agg2 Tryz.underlying39 (by kernel_rfl) (by kernel_rfl) hv h
  obtain ⟨s0, e0, _, _⟩ := DataW.trod_string Tryz.underlying9 h0
  obtain ⟨s1, e1, _, _⟩ := DataW.trod_string Tryz.underlying9 h1
  refine ⟨s0.toList, s1.toList, ?_⟩
  simp at e0 e1
  rw [e0, e1, ← toB, ← toB]
theorem glob_of_shaped {w : World} (h : w.ShapedOpen Tryz.prog) : Fil.Glob w :=
  Go.Proofs.cell_of_shapedOpen_int (zero := #[.int .i64 0]) (t := 3) h (of_decide_eq_true (by kernel_rfl)) (by kernel_rfl) rfl (by kernel_rfl) (by kernel_rfl) Tryz.underlying3
/-- the cells of the table utf8.first -/
def firstCells : Array Value := (Go.Pinned.utf8FirstZ.map fun (z : Nat) => Value.int .u8 z).toArray
/-- the cells of the table utf8.acceptRanges -/
def rangeCells : Array Value := #[.int .u8 128, .int .u8 191, .int .u8 160, .int .u8 191, .int .u8 128, .int .u8 159, .int .u8 144, .int .u8 191, .int .u8 128, .int .u8 143, .int .u8 0, .int .u8 0, .int .u8 0, .int .u8 0, .int .u8 0, .int .u8 0, .int .u8 0, .int .u8 0, .int .u8 0, .int .u8 0, .int .u8 0, .int .u8 0, .int .u8 0, .int .u8 0, .int .u8 0, .int .u8 0, .int .u8 0, .int .u8 0, .int .u8 0, .int .u8 0, .int .u8 0, .int .u8 0]
def layIn (cs : Array Value) : Obj → Obj
  | .cells _ t frozen => .cells cs t frozen
  | o => o
noncomputable def laidWorld (os : Os) : World :=
  { World.holding Tryz.prog os ⟨#[], #[], []⟩ with heap := ((World.holding Tryz.prog os ⟨#[], #[], []⟩).heap.modify 1 (layIn firstCells)).modify 2 (layIn rangeCells) }
end Go.Proofs.YtejjidbodfoiiaaGreatDoor
