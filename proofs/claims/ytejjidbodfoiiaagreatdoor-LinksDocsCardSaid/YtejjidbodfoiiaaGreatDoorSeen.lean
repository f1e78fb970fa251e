/-
  Maps keyed by strings that are being filled; sets of names.
-/
import Derived.Test.YtejjidbodfoiiaaGreatDoorMap
namespace Go.Proofs.YtejjidbodfoiiaaGreatDoor
set_option linter.unusedSimpArgs false
open Go.RowKit
set_option linter.unusedVariables false
attribute [local go_sem] B_data B_size

/-- a map that is being filled -/
def MapAt (M : Nat) (w0 : World) (b : Nat) (kvs : List (List UInt8 × Value)) (w : World) : Prop := SMap w b kvs ∧ Below M w0 w ∧ M ≤ b
theorem MapAt.below {M b : Nat} {w0 w w' : World} {kvs : List (List UInt8 × Value)} (h : MapAt M w0 b kvs w) (hb : Below w.heap.size w w') (hM : M ≤ w.heap.size) : MapAt M w0 b kvs w' :=
  ⟨h.1.below hb h.1.lt, h.2.1.trans (hb.mono hM), h.2.2⟩
theorem wpList_upd {P : Program} {w : World} {ops : Array Oper} {rest : List Oper} {o : Oper} {a : Act} {Q : Exit → Act → World → Prop} (hgd : o.guard = none) (T K E : TypeId) (m k v : Operand) (ho : o.op = .mapUpdate T m k v)
    (hT : P.underlying T = some (.map K E)) (hK : P.underlying K = some .string) (M : Nat) (w0 : World) (b : Nat) (kvs : List (List UInt8 × Value)) (hs : MapAt M w0 b kvs w) (hm : a.eval m = .map (some b)) (kl : List UInt8) (hk : a.eval k = .string (B kl)) (val : Value) (hv : a.eval v = val) (hn : lookL kl kvs = none)
    (h : ∀ w', MapAt M w0 b (kvs ++ [(kl, val)]) w' → wpList P ops Q rest (a.put o.dst undef) w') :
    wpList P ops Q (o :: rest) a w := by
  refine wpList_plain hgd fun K' hK' => ?_
  obtain ⟨w', hrun, r1, r2⟩ := SMap.put hT hK hs.1 kl val hn
  unfold Oper.wp
  simp [execOp, ho, hm, hk, hv, hrun, Result.andThen]
  refine hK' _ _ (h w' ⟨r1, hs.2.1.grown r2 (Nat.le_of_lt (Nat.lt_of_le_of_lt hs.2.2 hs.1.lt)) (fun k hk => ?_), hs.2.2⟩)
  injection hk with hk
  rw [← hk]; exact hs.2.2
theorem run_mkS (w : World) : (Instr.makeMap 73 none).run Tryz.prog w = .ok (.map (some w.heap.size)) (w.alloc (.map #[] 0)) := rfl
/-- names that have occurred, as a map has them -/
def seenM (S : List (List UInt8)) : List (List UInt8 × Value) := S.map fun k => (k, .bool true)
theorem seen_look (k : List UInt8) (S : List (List UInt8)) : (k ∈ S ∧ lookL k (seenM S) = some (.bool true)) ∨ (k ∉ S ∧ lookL k (seenM S) = none) := by
  induction S with
  | nil => right; exact ⟨by simp, rfl⟩
  | cons x r ih =>
    unfold seenM at ih ⊢
    rw [List.map_cons, lookL]
    by_cases h : k = x
    · left; exact ⟨by simp [h], by rw [if_pos h]⟩
    · rw [if_neg h]
      rcases ih with ⟨a, b⟩ | ⟨a, b⟩
      · left; exact ⟨by simp [a], b⟩
      · right; exact ⟨by simp [h, a], b⟩
theorem zeroB (w : World) : (zeroValue 4).run Tryz.prog w = .ok (.bool false) w := by kernel_rfl
theorem look_seen {w : World} {b : Nat} {S : List (List UInt8)} (h : SMap w b (seenM S)) (k : List UInt8) : (Instr.lookup 73 (.map (some b)) (.string (B k)) false).run Tryz.prog w = .ok (.bool (decide (k ∈ S))) w := by
  have := (SMap.look (T := 73) (K := 9) (E := 4) Tryz.underlying73 Tryz.underlying9 h k _ (zeroB w)).1
  rw [this]
  rcases seen_look k S with ⟨a, b⟩ | ⟨a, b⟩
  · rw [b]; simp [a]
  · rw [b]; simp [a]

end Go.Proofs.YtejjidbodfoiiaaGreatDoor
