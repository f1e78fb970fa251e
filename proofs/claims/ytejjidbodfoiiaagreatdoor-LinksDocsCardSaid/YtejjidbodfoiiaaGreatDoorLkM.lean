/-
  Layer 44 (links): maps keyed by strings: a store at a key that may be there; sets of strings as maps.
-/
import Derived.Test.YtejjidbodfoiiaaGreatDoorMap
import Derived.Test.YtejjidbodfoiiaaGreatDoorLkEF
namespace Go.Proofs.YtejjidbodfoiiaaGreatDoor
open Go.RowKit
set_option linter.unusedVariables false
set_option linter.unusedSimpArgs false
set_option linter.unusedSectionVars false
attribute [local go_sem] B_data B_size

/-- the pairs with a value stored at a key -/
def putM (k : List UInt8) (v : Value) : List (List UInt8 × Value) → List (List UInt8 × Value)
  | [] => [(k, v)]
  | p :: r => if k = p.1 then (k, v) :: r else p :: putM k v r
theorem putM_new {k : List UInt8} {v : Value} {kvs : List (List UInt8 × Value)} (h : lookL k kvs = none) : putM k v kvs = kvs ++ [(k, v)] := by
  induction kvs with
  | nil => rfl
  | cons p r ih =>
    unfold lookL at h
    split at h
    · cases h
    · rename_i hk
      simp [putM, hk, ih h]
theorem look_putM (k q : List UInt8) (v : Value) (kvs : List (List UInt8 × Value)) : lookL q (putM k v kvs) = if q = k then some v else lookL q kvs := by
  induction kvs with
  | nil => simp [putM, lookL]
  | cons p r ih =>
    unfold putM
    split
    · rename_i h
      simp only [lookL]
      by_cases hq : q = k <;> simp [hq, h]
      · subst h; simp [hq]
    · rename_i h
      simp only [lookL, ih]
      by_cases hq : q = k
      · subst hq; simp [h]
      · simp [hq]
theorem find_at (k : List UInt8) : ∀ (kvs : List (List UInt8 × Value)) (es : List MapEntry) (i : Nat), es.map (fun e => (e.key, e.val)) = kvs.map (fun p => (Value.string (B p.1), p.2)) → ∀ v, lookL k kvs = some v →
    ∃ j e, Instr.findNow .string (.string (B k)) es i = some (some (i + j, v)) ∧ es[j]? = some e ∧ e.key = .string (B k) ∧ e.val = v ∧
      ∀ (u : Value), (es.modify j fun e => { e with key := .string (B k), val := u }).map (fun e => (e.key, e.val)) = (putM k u kvs).map (fun p => (Value.string (B p.1), p.2)) := by
  intro kvs
  induction kvs with
  | nil => intro es i h v hv; simp [lookL] at hv
  | cons p q ih =>
    intro es i h v hv
    cases es with
    | nil => simp at h
    | cons e r =>
      simp only [List.map_cons, List.cons.injEq, Prod.mk.injEq] at h
      obtain ⟨⟨h1, h2⟩, h3⟩ := h
      by_cases hk : k = p.1
      · rw [lookL, if_pos hk] at hv
        injection hv with hv
        refine ⟨0, e, ?_, rfl, by rw [h1, hk], h2.trans hv, fun u => ?_⟩
        · rw [Instr.findNow, h1]
          simp only [Instr.sameNow, B_beq, hk, decide_true, h2, hv, Nat.add_zero]
        · simp [putM, hk, h3]
      · rw [lookL, if_neg hk] at hv
        obtain ⟨j, e', a, b, c, d, g⟩ := ih r (i + 1) h3 v hv
        refine ⟨j + 1, e', ?_, by simpa using b, c, d, fun u => ?_⟩
        · rw [Instr.findNow, h1]
          simp only [Instr.sameNow, B_beq, hk, decide_false]
          rw [a, Nat.add_assoc, Nat.add_comm 1 j]
        · have := g u
          simp only [List.modify_succ_cons, List.map_cons, putM, if_neg hk, this, h1, h2]

section
variable {P : Program} {T K E : TypeId} (hT : P.underlying T = some (.map K E)) (hK : P.underlying K = some .string)
include hT hK
theorem SMap.store {w : World} {b : Nat} {kvs : List (List UInt8 × Value)} (h : SMap w b kvs) (k : List UInt8) (v : Value) :
    ∃ w', (Instr.mapUpdate T (.map (some b)) (.string (B k)) v).run P w = .ok () w' ∧ SMap w' b (putM k v kvs) ∧ w.grownBy w' (some b) := by
  cases hl : lookL k kvs with
  | none =>
    obtain ⟨w', h1, h2, h3⟩ := SMap.put hT hK h k v hl
    exact ⟨w', h1, by rw [putM_new hl]; exact h2, h3⟩
  | some x =>
    obtain ⟨es, c, h1, h2⟩ := h
    have hg : (getObj b).run P w = .ok (.map es c) w := by simp [getObj, Sem.run, h1]
    obtain ⟨j, e, h4, h5, h6, h7, h8⟩ := find_at k kvs es.toList 0 h2 x hl
    have hs : (setObj b (.map (es.modify j fun e => { e with key := .string (B k), val := v }) c)).run P w = .ok () { w with heap := w.heap.setIfInBounds b (.map (es.modify j fun e => { e with key := .string (B k), val := v }) c) } := by simp [setObj, Sem.run, h1]
    have hkeep : (Instr.keyThatStays (.string (B k)) (.string (B k))).run P w = .ok (.string (B k)) w := by simp [Instr.keyThatStays, Instr.sameBits, B_beq]
    have hlt := (Array.getElem?_eq_some_iff.1 h1).1
    have hget : ((es[j]?).map (·.key)).getD (.string (B k)) = .string (B k) := by
      rw [← Array.getElem?_toList, h5]; simp [h6]
    refine ⟨{ w with heap := w.heap.setIfInBounds b (.map (es.modify j fun e => { e with key := .string (B k), val := v }) c) }, ?_, ⟨_, c, by simp [hlt]; rfl, ?_⟩, ?_⟩
    · simp [Instr.mapUpdate, run_underlying hT, hg, run_checkKey_string hT hK, Instr.findKey, run_underlying hK, h4, hs, hget, hkeep]
    · rw [Array.toList_modify]; exact h8 v
    · exact ⟨rfl, rfl, rfl, by simp, fun i hi hne => by
        rw [Array.getElem?_setIfInBounds_ne]
        exact fun e => hne (congrArg some e.symm)⟩
theorem SMap.look_nil (w : World) (k : List UInt8) (z : Value) (hz : (zeroValue E).run P w = .ok z w) :
    (Instr.lookup T (.map none) (.string (B k)) false).run P w = .ok z w ∧
    (Instr.lookup T (.map none) (.string (B k)) true).run P w = .ok (.tuple #[z, .bool false]) w := by
  constructor <;> simp [Instr.lookup, run_underlying hT, run_checkKey_string hT hK, Instr.findKey, run_underlying hK, Instr.findNow, hz]
end
theorem wpList_store {P : Program} {w : World} {ops : Array Oper} {rest : List Oper} {o : Oper} {a : Act} {Q : Exit → Act → World → Prop} (hgd : o.guard = none) (T K E : TypeId) (m k v : Operand) (ho : o.op = .mapUpdate T m k v)
    (hT : P.underlying T = some (.map K E)) (hK : P.underlying K = some .string) (b : Nat) (kvs : List (List UInt8 × Value)) (hs : SMap w b kvs) (hm : a.eval m = .map (some b)) (kl : List UInt8) (hk : a.eval k = .string (B kl)) (val : Value) (hv : a.eval v = val)
    (h : ∀ w', SMap w' b (putM kl val kvs) → w.grownBy w' (some b) → wpList P ops Q rest (a.put o.dst undef) w') :
    wpList P ops Q (o :: rest) a w := by
  refine wpList_plain hgd fun K' hK' => ?_
  obtain ⟨w', hrun, r1, r2⟩ := SMap.store hT hK hs kl val
  unfold Oper.wp
  simp [execOp, ho, hm, hk, hv, hrun, Result.andThen]
  exact hK' _ _ (h w' r1 r2)
/-- strings that have occurred, as a map has them -/
def addS (S : List Bs) (k : Bs) : List Bs := if k ∈ S then S else S ++ [k]
def addAll (l : List Bs) : List Bs := l.foldl addS []
theorem lookL_seen (k : Bs) (S : List Bs) : lookL k (seenM S) = if k ∈ S then some (.bool true) else none := by
  induction S with
  | nil => rfl
  | cons x r ih =>
    unfold seenM at ih ⊢
    rw [List.map_cons, lookL, ih]
    by_cases h : k = x
    · simp [h]
    · simp [h]
theorem putM_add {S : List Bs} {k : Bs} : putM k (.bool true) (seenM S) = seenM (addS S k) := by
  unfold addS
  split
  · rename_i h
    induction S with
    | nil => cases h
    | cons a r ih =>
      simp only [seenM, List.map_cons, putM]
      by_cases hk : k = a
      · simp [hk]
      · rw [if_neg hk]
        rcases List.mem_cons.1 h with e | h
        · exact absurd e hk
        · rw [show List.map (fun k => (k, Value.bool true)) r = seenM r from rfl, ih h]
  · rename_i h
    rw [putM_new (by rw [lookL_seen, if_neg h])]
    simp [seenM]
theorem mem_addS {S : List Bs} {k x : Bs} : x ∈ addS S k ↔ x ∈ S ∨ x = k := by
  unfold addS
  split
  · rename_i h
    refine ⟨.inl, fun h1 => ?_⟩
    rcases h1 with h1 | rfl
    · exact h1
    · exact h
  · simp
theorem addAll_snoc (l : List Bs) (k : Bs) : addAll (l ++ [k]) = addS (addAll l) k := by simp [addAll]
theorem mem_addAll {l : List Bs} {x : Bs} : x ∈ addAll l ↔ x ∈ l := by
  have key : ∀ (l S : List Bs), x ∈ l.foldl addS S ↔ x ∈ S ∨ x ∈ l := by
    intro l
    induction l with
    | nil => intro S; simp
    | cons a r ih =>
      intro S
      rw [List.foldl_cons, ih, mem_addS, List.mem_cons]
      constructor
      · rintro ((h | h) | h)
        · exact .inl h
        · exact .inr (.inl h)
        · exact .inr (.inr h)
      · rintro (h | h | h)
        · exact .inl (.inl h)
        · exact .inl (.inr h)
        · exact .inr h
  have := key l []
  simpa [addAll] using this
/-- is a string in a set? -/
theorem SMap.has {w : World} {b : Nat} {S : List Bs} (h : SMap w b (seenM S)) (k : Bs) :
    (Instr.lookup 73 (.map (some b)) (.string (B k)) false).run Tryz.prog w = .ok (.bool (decide (k ∈ S))) w := by
  have := (SMap.look (T := 73) (K := 9) (E := 4) Tryz.underlying73 Tryz.underlying9 h k _ (zeroB w)).1
  rw [this, lookL_seen]
  by_cases hk : k ∈ S <;> simp [hk]
theorem has_none (w : World) (k : Bs) :
    (Instr.lookup 73 (.map none) (.string (B k)) false).run Tryz.prog w = .ok (.bool false) w :=
  (SMap.look_nil (T := 73) (K := 9) (E := 4) Tryz.underlying73 Tryz.underlying9 w k _ (zeroB w)).1
end Go.Proofs.YtejjidbodfoiiaaGreatDoor
