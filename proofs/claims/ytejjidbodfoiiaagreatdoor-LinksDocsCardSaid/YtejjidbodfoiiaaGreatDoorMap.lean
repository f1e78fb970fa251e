/-
  Maps keyed by strings, of the call's own: what a map holds as a list of pairs; look-up and store.
-/
import Derived.Test.YtejjidbodfoiiaaGreatDoorMem
import Derived.MapKept
namespace Go.Proofs.YtejjidbodfoiiaaGreatDoor
set_option linter.unusedSimpArgs false
open Go.RowKit
set_option linter.unusedVariables false
set_option linter.unusedSectionVars false

/-- the map at block b holds the pairs kvs -/
def SMap (w : World) (b : Nat) (kvs : List (List UInt8 × Value)) : Prop :=
  ∃ es clock, w.heap[b]? = some (.map es clock) ∧ es.toList.map (fun e => (e.key, e.val)) = kvs.map fun p => (Value.string (B p.1), p.2)
theorem SMap.lt {w : World} {b : Nat} {kvs : List (List UInt8 × Value)} (h : SMap w b kvs) : b < w.heap.size := by
  obtain ⟨es, c, h, _⟩ := h
  exact (Array.getElem?_eq_some_iff.1 h).1
theorem SMap.of_block {w w' : World} {b : Nat} {kvs : List (List UInt8 × Value)} (h : SMap w b kvs) (e : w'.heap[b]? = w.heap[b]?) : SMap w' b kvs := by
  obtain ⟨es, c, h1, h2⟩ := h
  exact ⟨es, c, e.trans h1, h2⟩
theorem SMap.below {w w' : World} {b M : Nat} {kvs : List (List UInt8 × Value)} (h : SMap w b kvs) (hb : Below M w w') (hM : b < M) : SMap w' b kvs := h.of_block (hb.block b hM)
theorem SMap.made (w : World) : SMap (w.alloc (.map #[] 0)) w.heap.size [] := ⟨#[], 0, heap_alloc_new w _, rfl⟩
theorem SMap.alloc {w : World} {b : Nat} {kvs : List (List UInt8 × Value)} (h : SMap w b kvs) (o : Obj) : SMap (w.alloc o) b kvs :=
  h.below ((Below.refl w.heap.size w).alloc (Nat.le_refl _) o) h.lt
theorem SMap.drewN {w : World} {b : Nat} {kvs : List (List UInt8 × Value)} (h : SMap w b kvs) (n : Nat) : SMap (w.drewN n) b kvs := h

/-- the value of a key -/
def lookL (k : List UInt8) : List (List UInt8 × Value) → Option Value
  | [] => none
  | p :: r => if k = p.1 then some p.2 else lookL k r
theorem B_inj {a b : List UInt8} (h : B a = B b) : a = b := by rw [← B_data a, h, B_data]
theorem B_beq (a b : List UInt8) : (B a == B b) = decide (a = b) := by
  show ((B a).data == (B b).data) = _
  by_cases h : a = b
  · subst h; simp
  · simp only [h, decide_false, beq_eq_false_iff_ne, ne_eq]
    exact fun e => h (B_inj (congrArg ByteArray.mk e))
theorem findNow_smap (k : List UInt8) : ∀ (kvs : List (List UInt8 × Value)) (es : List MapEntry) (i : Nat), es.map (fun e => (e.key, e.val)) = kvs.map (fun p => (Value.string (B p.1), p.2)) →
    (lookL k kvs = none ∧ Instr.findNow .string (.string (B k)) es i = some none) ∨ ∃ j v, lookL k kvs = some v ∧ Instr.findNow .string (.string (B k)) es i = some (some (j, v)) := by
  intro kvs
  induction kvs with
  | nil =>
    intro es i h
    cases es with
    | nil => left; exact ⟨rfl, rfl⟩
    | cons e r => simp at h
  | cons p q ih =>
    intro es i h
    cases es with
    | nil => simp at h
    | cons e r =>
      simp only [List.map_cons, List.cons.injEq, Prod.mk.injEq] at h
      obtain ⟨⟨h1, h2⟩, h3⟩ := h
      by_cases hk : k = p.1
      · right
        refine ⟨i, p.2, by rw [lookL, if_pos hk], ?_⟩
        rw [Instr.findNow, h1]
        simp only [Instr.sameNow, B_beq, hk, decide_true, h2]
      · rcases ih r (i + 1) h3 with ⟨a, b⟩ | ⟨j, v, a, b⟩
        · left
          refine ⟨by rw [lookL, if_neg hk]; exact a, ?_⟩
          rw [Instr.findNow, h1]
          simp only [Instr.sameNow, B_beq, hk, decide_false]
          exact b
        · right
          refine ⟨j, v, by rw [lookL, if_neg hk]; exact a, ?_⟩
          rw [Instr.findNow, h1]
          simp only [Instr.sameNow, B_beq, hk, decide_false]
          exact b

section
variable {P : Program} {T K E : TypeId} (hT : P.underlying T = some (.map K E)) (hK : P.underlying K = some .string)
include hT hK
theorem run_checkKey_string (w : World) (e : Bool) (k : ByteArray) : (Instr.checkKey e 10000 K (.string k)).run P w = .ok () w := by
  have h : ∀ n, (Instr.checkKey e (n + 1) K (.string k)).run P w = .ok () w := fun n => by simp [Instr.checkKey, run_underlying hK]
  exact h 9999
theorem SMap.look {w : World} {b : Nat} {kvs : List (List UInt8 × Value)} (h : SMap w b kvs) (k : List UInt8) (z : Value) (hz : (zeroValue E).run P w = .ok z w) :
    (Instr.lookup T (.map (some b)) (.string (B k)) false).run P w = .ok ((lookL k kvs).getD z) w ∧
    (Instr.lookup T (.map (some b)) (.string (B k)) true).run P w = .ok (.tuple #[(lookL k kvs).getD z, .bool (lookL k kvs).isSome]) w := by
  obtain ⟨es, c, h1, h2⟩ := h
  have hg : (getObj b).run P w = .ok (.map es c) w := by simp [getObj, Sem.run, h1]
  rcases findNow_smap k kvs es.toList 0 h2 with ⟨h3, h4⟩ | ⟨j, v, h3, h4⟩
  · simp [Instr.lookup, run_underlying hT, hg, run_checkKey_string hT hK, Instr.findKey, run_underlying hK, h4, h3, hz]
  · simp [Instr.lookup, run_underlying hT, hg, run_checkKey_string hT hK, Instr.findKey, run_underlying hK, h4, h3]
theorem SMap.put {w : World} {b : Nat} {kvs : List (List UInt8 × Value)} (h : SMap w b kvs) (k : List UInt8) (v : Value) (hn : lookL k kvs = none) :
    ∃ w', (Instr.mapUpdate T (.map (some b)) (.string (B k)) v).run P w = .ok () w' ∧ SMap w' b (kvs ++ [(k, v)]) ∧ w.grownBy w' (some b) := by
  obtain ⟨es, c, h1, h2⟩ := h
  have hg : (getObj b).run P w = .ok (.map es c) w := by simp [getObj, Sem.run, h1]
  rcases findNow_smap k kvs es.toList 0 h2 with ⟨h3, h4⟩ | ⟨j, v, h3, h4⟩
  · have hs : (setObj b (.map (es.push ⟨.string (B k), v, c⟩) (c + 1))).run P w = .ok () { w with heap := w.heap.setIfInBounds b (.map (es.push ⟨.string (B k), v, c⟩) (c + 1)) } := by simp [setObj, Sem.run, h1]
    refine ⟨{ w with heap := w.heap.setIfInBounds b (.map (es.push ⟨.string (B k), v, c⟩) (c + 1)) }, by simp [Instr.mapUpdate, run_underlying hT, hg, run_checkKey_string hT hK, Instr.findKey, run_underlying hK, h4, hs], ?_, ?_⟩
    · refine ⟨es.push ⟨.string (B k), v, c⟩, c + 1, ?_, ?_⟩
      · have hlt := (Array.getElem?_eq_some_iff.1 h1).1
        simp [hlt]
      · simp [h2]
    · exact ⟨rfl, rfl, rfl, by simp, fun j hj hne => by
        rw [Array.getElem?_setIfInBounds_ne]
        exact fun e => hne (congrArg some e.symm)⟩
  · rw [hn] at h3; cases h3
end
end Go.Proofs.YtejjidbodfoiiaaGreatDoor
