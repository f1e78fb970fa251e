/-
  Layer 48 (graph): maps keyed by strings: a store at a key that is there, a deletion, the length, a nil map.
-/
import Derived.Test.YtbikldmhfaecpaaMap
import Derived.Lib.Hide
namespace Go.Proofs.Ytbikldmhfaecpaa
open Go.RowKit
set_option linter.unusedVariables false
set_option linter.unusedSimpArgs false
set_option linter.unusedSectionVars false

theorem below_alloc (w : World) (o : Obj) : Below w.heap.size w (w.alloc o) := (Below.refl _ _).alloc (Nat.le_refl _) o
theorem addr_lit (b o j : Nat) : (⟨b, o, none⟩ : Addr).add j = ⟨b, o + j, none⟩ := by unfold Addr.add; split <;> simp_all
theorem keeps {w w' : World} {M : Nat} (hb : Below M w w') (hM : w.heap.size ≤ M) {p : Addr} {v : Value} (h : w.cell? p = some v) : w'.cell? p = some v := by
  have hlt : p.block < w.heap.size := by
    rcases Nat.lt_or_ge p.block w.heap.size with h1 | h1
    · exact h1
    · rw [World.cell?, Array.getElem?_eq_none h1] at h; cases h
  rw [hb.cell (Nat.lt_of_lt_of_le hlt hM)]; exact h
/-- the pairs with a value stored at a key -/
def putM (k : List UInt8) (v : Value) : List (List UInt8 × Value) → List (List UInt8 × Value)
  | [] => [(k, v)]
  | p :: r => if k = p.1 then (k, v) :: r else p :: putM k v r
theorem putM_new {k : List UInt8} {v : Value} {kvs : List (List UInt8 × Value)} (h : lookL k kvs = none) : putM k v kvs = kvs ++ [(k, v)] := by
  induction kvs with
  | nil => rfl
  | cons p r ih =>
    unfold lookL at h
    split at h
    · cases h
    · rename_i hk
      simp [putM, hk, ih h]
theorem look_putM (k q : List UInt8) (v : Value) (kvs : List (List UInt8 × Value)) : lookL q (putM k v kvs) = if q = k then some v else lookL q kvs := by
  induction kvs with
  | nil => simp [putM, lookL]
  | cons p r ih =>
    unfold putM
    split
    · rename_i h
      simp only [lookL]
      by_cases hq : q = k <;> simp [hq, h]
      · subst h; simp [hq]
    · rename_i h
      simp only [lookL, ih]
      by_cases hq : q = k
      · subst hq; simp [h]
      · simp [hq]
theorem map_eraseI {α β : Type} (f : α → β) (l : List α) (i : Nat) : (l.eraseIdx i).map f = (l.map f).eraseIdx i := by
  induction l generalizing i with
  | nil => rfl
  | cons a r ih => cases i with
    | zero => rfl
    | succ i => simp [ih]
theorem find_at (k : List UInt8) : ∀ (kvs : List (List UInt8 × Value)) (es : List MapEntry) (i : Nat), es.map (fun e => (e.key, e.val)) = kvs.map (fun p => (Value.string (B p.1), p.2)) → ∀ v, lookL k kvs = some v →
    ∃ j e, Instr.findNow .string (.string (B k)) es i = some (some (i + j, v)) ∧ es[j]? = some e ∧ e.key = .string (B k) ∧ e.val = v ∧
      ∀ (u : Value), (es.modify j fun e => { e with key := .string (B k), val := u }).map (fun e => (e.key, e.val)) = (putM k u kvs).map (fun p => (Value.string (B p.1), p.2)) := by
  intro kvs
  induction kvs with
  | nil => intro es i h v hv; simp [lookL] at hv
  | cons p q ih =>
    intro es i h v hv
    cases es with
    | nil => simp at h
    | cons e r =>
      simp only [List.map_cons, List.cons.injEq, Prod.mk.injEq] at h
      obtain ⟨⟨h1, h2⟩, h3⟩ := h
      by_cases hk : k = p.1
      · rw [lookL, if_pos hk] at hv
        injection hv with hv
        refine ⟨0, e, ?_, rfl, by rw [h1, hk], h2.trans hv, fun u => ?_⟩
        · rw [Instr.findNow, h1]
          simp only [Instr.sameNow, B_beq, hk, decide_true, h2, hv, Nat.add_zero]
        · simp [putM, hk, h3]
      · rw [lookL, if_neg hk] at hv
        obtain ⟨j, e', a, b, c, d, g⟩ := ih r (i + 1) h3 v hv
        refine ⟨j + 1, e', ?_, by simpa using b, c, d, fun u => ?_⟩
        · rw [Instr.findNow, h1]
          simp only [Instr.sameNow, B_beq, hk, decide_false]
          rw [a, Nat.add_assoc, Nat.add_comm 1 j]
        · have := g u
          simp only [List.modify_succ_cons, List.map_cons, putM, if_neg hk, this, h1, h2]

theorem BornOk.modify {es : Array MapEntry} {clock : Nat} (h : BornOk es clock) (j : Nat) (f : MapEntry → MapEntry) (hf : ∀ e, (f e).born = e.born) : BornOk (es.modify j f) clock := by
  have e : ((es.modify j f).toList.map (·.born)) = es.toList.map (·.born) := by
    rw [Array.toList_modify]
    apply List.ext_getElem?
    intro i
    simp only [List.getElem?_map, List.getElem?_modify]
    cases es.toList[i]? with
    | none => rfl
    | some x => simp; split <;> simp [hf]
  refine ⟨by rw [e]; exact h.1, fun x hx => ?_⟩
  have : x.born ∈ es.toList.map (·.born) := by rw [← e]; exact List.mem_map_of_mem hx
  obtain ⟨y, hy, hxy⟩ := List.mem_map.1 this
  rw [← hxy]; exact h.2 y hy
theorem BornOk.erase {es : Array MapEntry} {clock : Nat} (h : BornOk es clock) (j : Nat) : BornOk (es.eraseIdxIfInBounds j) clock := by
  have hs : (es.eraseIdxIfInBounds j).toList.Sublist es.toList := by
    rw [Array.eraseIdxIfInBounds_eq]
    split
    · rw [Array.toList_eraseIdx]; exact List.eraseIdx_sublist _ _
    · exact List.Sublist.refl _
  exact ⟨h.1.sublist (hs.map _), fun e he => h.2 e (hs.subset he)⟩
section
variable {P : Program} {T K E : TypeId} (hT : P.underlying T = some (.map K E)) (hK : P.underlying K = some .string)
include hT hK
theorem SMap.store {w : World} {b : Nat} {kvs : List (List UInt8 × Value)} (h : SMap w b kvs) (k : List UInt8) (v : Value) :
    ∃ w', (Instr.mapUpdate T (.map (some b)) (.string (B k)) v).run P w = .ok () w' ∧ SMap w' b (putM k v kvs) ∧ w.grownBy w' (some b) := by
  cases hl : lookL k kvs with
  | none =>
    obtain ⟨w', h1, h2, h3⟩ := SMap.put hT hK h k v hl
    exact ⟨w', h1, by rw [putM_new hl]; exact h2, h3⟩
  | some x =>
    obtain ⟨es, c, h1, h2, hbo⟩ := h
    have hg : (getObj b).run P w = .ok (.map es c) w := by simp [getObj, Sem.run, h1]
    obtain ⟨j, e, h4, h5, h6, h7, h8⟩ := find_at k kvs es.toList 0 h2 x hl
    have hs : (setObj b (.map (es.modify j fun e => { e with key := .string (B k), val := v }) c)).run P w = .ok () { w with heap := w.heap.setIfInBounds b (.map (es.modify j fun e => { e with key := .string (B k), val := v }) c) } := by simp [setObj, Sem.run, h1]
    have hkeep : (Instr.keyThatStays (.string (B k)) (.string (B k))).run P w = .ok (.string (B k)) w := by simp [Instr.keyThatStays, Instr.sameBits, B_beq]
    have hlt := (Array.getElem?_eq_some_iff.1 h1).1
    have hget : ((es[j]?).map (·.key)).getD (.string (B k)) = .string (B k) := by
      rw [← Array.getElem?_toList, h5]; simp [h6]
    refine ⟨{ w with heap := w.heap.setIfInBounds b (.map (es.modify j fun e => { e with key := .string (B k), val := v }) c) }, ?_, ⟨_, c, by simp [hlt]; rfl, ?_, ?_⟩, ?_⟩
    · simp [Instr.mapUpdate, run_underlying hT, hg, run_checkKey_string hT hK, Instr.findKey, run_underlying hK, h4, hs, hget, hkeep]
    · rw [Array.toList_modify]; exact h8 v
    · exact hbo.modify j _ (fun _ => rfl)
    · exact ⟨rfl, rfl, rfl, by simp, fun i hi hne => by
        rw [Array.getElem?_setIfInBounds_ne]
        exact fun e => hne (congrArg some e.symm)⟩
theorem SMap.look_nil (w : World) (k : List UInt8) (z : Value) (hz : (zeroValue E).run P w = .ok z w) :
    (Instr.lookup T (.map none) (.string (B k)) false).run P w = .ok z w ∧
    (Instr.lookup T (.map none) (.string (B k)) true).run P w = .ok (.tuple #[z, .bool false]) w := by
  constructor <;> simp [Instr.lookup, run_underlying hT, run_checkKey_string hT hK, Instr.findKey, run_underlying hK, Instr.findNow, hz]
/-- the last pair, whose key is nowhere before it, is deleted -/
theorem SMap.drop {w : World} {b : Nat} {kvs : List (List UInt8 × Value)} {k : List UInt8} {v : Value} (h : SMap w b (kvs ++ [(k, v)])) (hk : lookL k kvs = none) (ty : TypeId) :
    ∃ w', (Builtin.delete_ #[T, K] ty #[.map (some b), .string (B k)]).run P w = .ok (.tuple #[]) w' ∧ SMap w' b kvs ∧ w.grownBy w' (some b) := by
  obtain ⟨es, c, h1, h2, hbo⟩ := h
  have hg : (getObj b).run P w = .ok (.map es c) w := by simp [getObj, Sem.run, h1]
  have hlt := (Array.getElem?_eq_some_iff.1 h1).1
  have hfind : ∀ (kvs : List (List UInt8 × Value)) (es : List MapEntry) (i : Nat), lookL k kvs = none → es.map (fun e => (e.key, e.val)) = (kvs ++ [(k, v)]).map (fun p => (Value.string (B p.1), p.2)) → Instr.findNow .string (.string (B k)) es i = some (some (i + kvs.length, v)) ∧ es.length = kvs.length + 1 := by
    intro kvs
    induction kvs with
    | nil =>
      intro es i _ h
      cases es with
      | nil => simp at h
      | cons e r =>
        simp only [List.nil_append, List.map_cons, List.map_nil, List.cons.injEq, Prod.mk.injEq, List.map_eq_nil_iff] at h
        obtain ⟨⟨e1, e2⟩, rfl⟩ := h
        refine ⟨?_, rfl⟩
        rw [Instr.findNow, e1]
        simp [Instr.sameNow, B_beq, e2]
    | cons p q ih =>
      intro es i hn h
      cases es with
      | nil => simp at h
      | cons e r =>
        unfold lookL at hn
        split at hn
        · cases hn
        · rename_i hp
          simp only [List.cons_append, List.map_cons, List.cons.injEq, Prod.mk.injEq] at h
          obtain ⟨⟨e1, e2⟩, e3⟩ := h
          obtain ⟨a, b⟩ := ih r (i + 1) hn e3
          refine ⟨?_, by simp [b]⟩
          rw [Instr.findNow, e1]
          simp only [Instr.sameNow, B_beq, hp, decide_false]
          rw [a]; simp; omega
  obtain ⟨f1, f2⟩ := hfind kvs es.toList 0 hk h2
  have hs : (setObj b (.map (es.eraseIdxIfInBounds kvs.length) c)).run P w = .ok () { w with heap := w.heap.setIfInBounds b (.map (es.eraseIdxIfInBounds kvs.length) c) } := by simp [setObj, Sem.run, h1]
  have hne : es.isEmpty = false := by
    rw [← Array.isEmpty_toList]
    cases hl : es.toList with
    | nil => rw [hl] at f2; simp at f2
    | cons _ _ => rfl
  refine ⟨_, by simp [Builtin.delete_, run_underlying hT, hg, run_checkKey_string hT hK, Instr.findKey, run_underlying hK, f1, hs, hne]; rfl, ⟨_, c, by simp [hlt]; rfl, ?_, hbo.erase _⟩, ?_⟩
  · have : es.size = kvs.length + 1 := by simpa using f2
    rw [Array.eraseIdxIfInBounds_eq, dif_pos (by omega), Array.toList_eraseIdx, map_eraseI, h2, List.map_append, List.eraseIdx_append_of_length_le (by simp)]
    simp
  · exact ⟨rfl, rfl, rfl, by simp, fun i hi hne => by
      rw [Array.getElem?_setIfInBounds_ne]
      exact fun e => hne (congrArg some e.symm)⟩
end
theorem SMap.len {P : Program} {T K E : TypeId} (hT : P.underlying T = some (.map K E)) {w : World} {b : Nat} {kvs : List (List UInt8 × Value)} (h : SMap w b kvs) (ty : TypeId) :
    (Builtin.len_ #[T] ty #[.map (some b)]).run P w = .ok (.int .i64 (kvs.length : Int)) w := by
  obtain ⟨es, c, h1, h2, hbo⟩ := h
  have hl : es.size = kvs.length := by
    have := congrArg List.length h2
    simpa using this
  simp [Builtin.len_, run_underlying hT, getObj, Sem.run, h1, goInt, hl, Result.andThen]
theorem SMap.len_nil {P : Program} {T K E : TypeId} (hT : P.underlying T = some (.map K E)) (w : World) (ty : TypeId) :
    (Builtin.len_ #[T] ty #[.map none]).run P w = .ok (.int .i64 0) w := by
  simp [Builtin.len_, run_underlying hT, goInt, Result.andThen]
end Go.Proofs.Ytbikldmhfaecpaa
