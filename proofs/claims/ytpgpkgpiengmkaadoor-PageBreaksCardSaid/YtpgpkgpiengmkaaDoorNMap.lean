/-
  Sets of names as maps from strings to bools, of the call's own: look-up, store, and a loop that deletes all.
-/
import Derived.Test.YtpgpkgpiengmkaaDoorMap
import Derived.Laws.IdiomRangeMap
namespace Go.Proofs.YtpgpkgpiengmkaaDoor
open Go.RowKit
set_option linter.unusedVariables false
set_option linter.unusedSimpArgs false
set_option linter.unusedSectionVars false

/-- the entries of a map hold the names ks, each true; no stamp twice, each below the clock -/
structure Ents (es : List MapEntry) (clock : Nat) (ks : List (List UInt8)) : Prop where
  kv : es.map (fun e => (e.key, e.val)) = ks.map (fun k => (Value.string (B k), Value.bool true))
  nd : ks.Nodup
  bd : (es.map (·.born)).Nodup
  lt : ∀ e ∈ es, e.born < clock
/-- the map at block b holds the names ks -/
def NMap (w : World) (b : Nat) (ks : List (List UInt8)) : Prop := ∃ es clock, w.heap[b]? = some (.map es clock) ∧ Ents es.toList clock ks
/-- names, as a map has them -/
def seenM (S : List (List UInt8)) : List (List UInt8 × Value) := S.map fun k => (k, .bool true)
theorem seen_look (k : List UInt8) (S : List (List UInt8)) : (k ∈ S ∧ lookL k (seenM S) = some (.bool true)) ∨ (k ∉ S ∧ lookL k (seenM S) = none) := by
  induction S with
  | nil => right; exact ⟨by simp, rfl⟩
  | cons x r ih =>
    unfold seenM at ih ⊢
    rw [List.map_cons, lookL]
    by_cases h : k = x
    · left; exact ⟨by simp [h], by rw [if_pos h]⟩
    · rw [if_neg h]
      rcases ih with ⟨a, b⟩ | ⟨a, b⟩
      · left; exact ⟨by simp [a], b⟩
      · right; exact ⟨by simp [h, a], b⟩
theorem NMap.smap {w : World} {b : Nat} {ks : List (List UInt8)} (h : NMap w b ks) : SMap w b (seenM ks) := by
  obtain ⟨es, c, h1, h2⟩ := h
  exact ⟨es, c, h1, by rw [h2.kv]; simp [seenM]⟩
theorem NMap.lt {w : World} {b : Nat} {ks : List (List UInt8)} (h : NMap w b ks) : b < w.heap.size := h.smap.lt
theorem NMap.of_block {w w' : World} {b : Nat} {ks : List (List UInt8)} (h : NMap w b ks) (e : w'.heap[b]? = w.heap[b]?) : NMap w' b ks := by
  obtain ⟨es, c, h1, h2⟩ := h
  exact ⟨es, c, e.trans h1, h2⟩
theorem NMap.below {w w' : World} {b M : Nat} {ks : List (List UInt8)} (h : NMap w b ks) (hb : Below M w w') (hM : b < M) : NMap w' b ks := h.of_block (hb.block b hM)
theorem NMap.step {w w' : World} {b : Nat} {ks : List (List UInt8)} (h : NMap w b ks) (hb : Below w.heap.size w w') : NMap w' b ks := h.below hb h.lt
theorem NMap.made (w : World) : NMap (w.alloc (.map #[] 0)) w.heap.size [] := ⟨#[], 0, heap_alloc_new w _, rfl, List.nodup_nil, List.nodup_nil, fun e he => by simp at he⟩
theorem NMap.alloc {w : World} {b : Nat} {ks : List (List UInt8)} (h : NMap w b ks) (o : Obj) : NMap (w.alloc o) b ks := h.below ((Below.refl w.heap.size w).alloc (Nat.le_refl _) o) h.lt
theorem NMap.drewN {w : World} {b : Nat} {ks : List (List UInt8)} (h : NMap w b ks) (n : Nat) : NMap (w.drewN n) b ks := h
theorem NMap.nodup {w : World} {b : Nat} {ks : List (List UInt8)} (h : NMap w b ks) : ks.Nodup := by obtain ⟨_, _, _, h⟩ := h; exact h.nd

theorem findNow_idx (k : List UInt8) : ∀ (es : List MapEntry) (i j : Nat) (v : Value), Instr.findNow .string (.string (B k)) es i = some (some (j, v)) → i ≤ j ∧ ∃ e, es[j - i]? = some e ∧ e.key = .string (B k) := by
  intro es
  induction es with
  | nil => intro i j v h; simp [Instr.findNow] at h
  | cons e r ih =>
    intro i j v h
    rw [Instr.findNow] at h
    split at h
    · rename_i hs
      injection h with h
      injection h with h
      injection h with h1 h2
      subst h1
      refine ⟨Nat.le_refl _, e, by simp, ?_⟩
      cases hkk : e.key <;> simp [Instr.sameNow, hkk] at hs
      rename_i c
      rw [← B_self c, B_beq] at hs
      rw [of_decide_eq_true hs, B_self]
    · obtain ⟨h1, e', h2, h3⟩ := ih _ _ _ h
      refine ⟨by omega, e', ?_, h3⟩
      have : j - i = (j - (i + 1)) + 1 := by omega
      rw [this, List.getElem?_cons_succ]
      exact h2
    · cases h
theorem nodup_ne {α : Type} {l : List α} (h : l.Nodup) (i j : Nat) (hij : i < j) (hj : j < l.length) : l[i]? ≠ l[j]? := by
  rw [List.getElem?_eq_getElem hj, List.getElem?_eq_getElem (by omega)]
  intro e
  injection e with e
  exact List.pairwise_iff_getElem.1 h i j (by omega) hj hij e
theorem map_erase {α β : Type} (f : α → β) : ∀ (l : List α) (i : Nat), (l.eraseIdx i).map f = (l.map f).eraseIdx i := by
  intro l
  induction l with
  | nil => intro i; rfl
  | cons a l ih =>
    intro i
    cases i with
    | zero => rfl
    | succ i => simp only [List.eraseIdx_cons_succ, List.map_cons, ih]
theorem ents_erase {es : List MapEntry} {clock : Nat} {ks : List (List UInt8)} (h : Ents es clock ks) (j : Nat) : Ents (es.eraseIdx j) clock (ks.eraseIdx j) :=
  ⟨by rw [map_erase, map_erase, h.kv], h.nd.sublist (List.eraseIdx_sublist ..), h.bd.sublist ((List.eraseIdx_sublist ..).map _), fun e he => h.lt e ((List.eraseIdx_sublist ..).mem he)⟩
theorem ents_len {es : List MapEntry} {clock : Nat} {ks : List (List UInt8)} (h : Ents es clock ks) : es.length = ks.length := by
  have := congrArg List.length h.kv
  simpa using this
theorem ents_key {es : List MapEntry} {clock : Nat} {ks : List (List UInt8)} (h : Ents es clock ks) : es.map (·.key) = ks.map fun k => Value.string (B k) := by
  have := congrArg (List.map Prod.fst) h.kv
  simpa [List.map_map, Function.comp_def] using this
theorem ents_keys_nd {es : List MapEntry} {clock : Nat} {ks : List (List UInt8)} (h : Ents es clock ks) : (es.map (·.key)).Nodup := by
  rw [ents_key h]
  refine List.Pairwise.map _ (fun a b hab => ?_) h.nd
  intro e
  injection e with e
  exact hab (B_inj e)
theorem ents_val {es : List MapEntry} {clock : Nat} {ks : List (List UInt8)} (h : Ents es clock ks) {e : MapEntry} (he : e ∈ es) : ∃ k, k ∈ ks ∧ e.key = .string (B k) ∧ e.val = .bool true := by
  have : (e.key, e.val) ∈ es.map fun e => (e.key, e.val) := List.mem_map.2 ⟨e, he, rfl⟩
  rw [h.kv] at this
  obtain ⟨k, hk, hh⟩ := List.mem_map.1 this
  injection hh with h1 h2
  exact ⟨k, hk, h1.symm, h2.symm⟩

section
variable {P : Program} {T K E : TypeId} (hT : P.underlying T = some (.map K E)) (hK : P.underlying K = some .string)
include hT hK
theorem NMap.look {w : World} {b : Nat} {ks : List (List UInt8)} (h : NMap w b ks) (k : List UInt8) (hz : (zeroValue E).run P w = .ok (.bool false) w) :
    (Instr.lookup T (.map (some b)) (.string (B k)) false).run P w = .ok (.bool (decide (k ∈ ks))) w := by
  have := (SMap.look hT hK h.smap k _ hz).1
  rw [this]
  rcases seen_look k ks with ⟨h1, h2⟩ | ⟨h1, h2⟩ <;> rw [h2] <;> simp [h1]
theorem NMap.put {w : World} {b : Nat} {ks : List (List UInt8)} (h : NMap w b ks) (k : List UInt8) (hn : k ∉ ks) :
    ∃ w', (Instr.mapUpdate T (.map (some b)) (.string (B k)) (.bool true)).run P w = .ok () w' ∧ NMap w' b (ks ++ [k]) ∧ w.grownBy w' (some b) := by
  have hs := h.smap
  obtain ⟨es, c, h1, h2⟩ := h
  have hg : (getObj b).run P w = .ok (.map es c) w := by simp [getObj, Sem.run, h1]
  have hn' : lookL k (seenM ks) = none := by
    rcases seen_look k ks with ⟨a, _⟩ | ⟨_, a⟩
    · exact absurd a hn
    · exact a
  rcases findNow_smap k (seenM ks) es.toList 0 (by rw [h2.kv]; simp [seenM]) with ⟨h3, h4⟩ | ⟨j, v, h3, h4⟩
  · have hs : (setObj b (.map (es.push ⟨.string (B k), .bool true, c⟩) (c + 1))).run P w = .ok () { w with heap := w.heap.setIfInBounds b (.map (es.push ⟨.string (B k), .bool true, c⟩) (c + 1)) } := by simp [setObj, Sem.run, h1]
    refine ⟨{ w with heap := w.heap.setIfInBounds b (.map (es.push ⟨.string (B k), .bool true, c⟩) (c + 1)) }, by simp [Instr.mapUpdate, run_underlying hT, hg, run_checkKey_string hT hK, Instr.findKey, run_underlying hK, h4, hs], ?_, ?_⟩
    · refine ⟨es.push ⟨.string (B k), .bool true, c⟩, c + 1, ?_, ?_, ?_, ?_, ?_⟩
      · have hlt := (Array.getElem?_eq_some_iff.1 h1).1
        simp [hlt]
      · simp [h2.kv]
      · rw [List.nodup_append]
        exact ⟨h2.nd, by simp, fun a ha c hc e => hn (by simp at hc; rw [← hc, ← e]; exact ha)⟩
      · simp only [Array.toList_push, List.map_append, List.map_cons, List.map_nil]
        rw [List.nodup_append]
        refine ⟨h2.bd, by simp, fun a ha c' hc e => ?_⟩
        obtain ⟨x, hx, rfl⟩ := List.mem_map.1 ha
        have := h2.lt x hx
        simp at hc
        omega
      · intro e he
        simp only [Array.toList_push, List.mem_append, List.mem_singleton] at he
        rcases he with he | rfl
        · have := h2.lt e he; omega
        · simp
    · exact ⟨rfl, rfl, rfl, by simp, fun j hj hne => by
        rw [Array.getElem?_setIfInBounds_ne]
        exact fun e => hne (congrArg some e.symm)⟩
  · rw [hn'] at h3; cases h3
end

/-- an iterator r over the map b: nothing that it has handed out is left in the map -/
def NIter (w : World) (b r : Nat) (ks : List (List UInt8)) : Prop :=
  ∃ (es : Array MapEntry) (clock : Nat) (seen : Array Nat) (c0 : Nat), w.heap[b]? = some (.map es clock) ∧ Ents es.toList clock ks ∧ w.heap[r]? = some (.mapIter (some b) clock seen c0) ∧ clock ≤ c0 ∧ ∀ e ∈ es.toList, e.born ∉ seen
/-- the iterator has handed out the name k -/
def NMid (w : World) (b r : Nat) (ks : List (List UInt8)) (k : List UInt8) : Prop :=
  ∃ (es : Array MapEntry) (clock : Nat) (seen : Array Nat) (e : MapEntry), w.heap[b]? = some (.map es clock) ∧ Ents es.toList clock ks ∧ w.heap[r]? = some (.mapIter (some b) clock (seen.push e.born) clock) ∧ e ∈ es.toList ∧ e.key = .string (B k) ∧ e.val = .bool true ∧ ∀ x ∈ es.toList, x.born ∉ seen
theorem NIter.nmap {w : World} {b r : Nat} {ks : List (List UInt8)} (h : NIter w b r ks) : NMap w b ks := by
  obtain ⟨es, c, s, c0, h1, h2, _⟩ := h
  exact ⟨es, c, h1, h2⟩
theorem NMap.range {P : Program} {w : World} {b : Nat} {ks : List (List UInt8)} (h : NMap w b ks) {T K E : TypeId} (hT : P.underlying T = some (.map K E)) :
    ∃ w', (Instr.range T (.map (some b))).run P w = .ok (.pointer (some ⟨w.heap.size, 0, none⟩)) w' ∧ NIter w' b w.heap.size ks ∧ Below w.heap.size w w' ∧ w'.heap.size = w.heap.size + 1 := by
  have hlt := h.lt
  obtain ⟨es, c, h1, h2⟩ := h
  refine ⟨_, run_range_map w T K E b es c hT h1, ⟨es, c, #[], c, ?_, h2, heap_alloc_new w _, Nat.le_refl _, fun e _ => by simp⟩, (Below.refl w.heap.size w).alloc (Nat.le_refl _) _, by simp⟩
  rw [heap_alloc_old w _ hlt]; exact h1
theorem NIter.next {P : Program} {w : World} {b r : Nat} {ks : List (List UInt8)} (h : NIter w b r ks) (hne : b ≠ r) :
    (ks = [] ∧ ∀ ty : TypeId, (Instr.next (.pointer (some ⟨r, 0, none⟩)) false ty).run P w = .ok (.tuple #[.bool false]) w) ∨
    ∃ k w', k ∈ ks ∧ (∀ ty : TypeId, (Instr.next (.pointer (some ⟨r, 0, none⟩)) false ty).run P w = .ok (.tuple #[.bool true, .string (B k), .bool true]) w') ∧ NMid w' b r ks k ∧ w.grownBy w' (some r) ∧ w'.heap.size = w.heap.size := by
  obtain ⟨es, clock, seen, c0, h1, h2, h3, h4, h5⟩ := h
  simp only [Instr.next, getObj, Sem.run_bind, Sem.run, h3, h1, Result.andThen, next_test_false seen es clock c0 (fun x hx => h2.lt x hx) h4, Bool.false_eq_true, if_false]
  have e0 : es.filter (fun e => !seen.contains e.born) = es := Array.filter_eq_self.2 (fun x hx => by have := h5 x (by simpa using hx); simpa using this)
  have e1 : es.filter (fun x => decide (x.born < clock)) = es := Array.filter_eq_self.2 (fun x hx => by simpa using h2.lt x (by simpa using hx))
  have e2 : es.filter (fun x => decide (x.born ≥ clock)) = #[] := by
    rw [Array.filter_eq_empty_iff]
    intro x hx
    have := h2.lt x (by simpa using hx)
    simp
    omega
  simp only [e0, e1, e2, Array.append_empty]
  have hlen := ents_len h2
  rw [Array.length_toList] at hlen
  by_cases h0 : es.size = 0
  · left
    have : es = #[] := Array.eq_empty_of_size_eq_zero h0
    subst this
    refine ⟨List.eq_nil_of_length_eq_zero (by rw [← hlen]; rfl), fun _ => ?_⟩
    simp [choose, Sem.run, Question.forced]
  · right
    have hem : es.isEmpty = false := by simp [Array.isEmpty, h0]
    simp only [hem, Bool.false_eq_true, if_false, Array.empty_append, Array.size_map]
    have hch : ∃ (j : Nat) (w1 : World), j < es.size ∧ w1.heap = w.heap ∧ w1.os = w.os ∧ w1.tape = w.tape ∧ w1.output = w.output ∧ (choose (Question.mapNext es.size)).run P w = .ok j w1 := by
      by_cases hf : es.size ≤ 1
      · exact ⟨0, w, by omega, rfl, rfl, rfl, rfl, by simp [choose, Sem.run, Question.forced, hf]⟩
      · exact ⟨_, w.drew, Nat.mod_lt _ (by omega), rfl, rfl, rfl, rfl, by
          simp only [choose, Sem.run, Question.forced, decide_eq_true_eq, hf, if_false, Question.cut]
          rfl⟩
    obtain ⟨j, w1, hj, a1, a2, a3, a4, hrun⟩ := hch
    obtain ⟨k, hk, hk1, hk2⟩ := ents_val h2 (e := es[j]) (by simp)
    have hrl := (Array.getElem?_eq_some_iff.1 h3).1
    have hset : ∀ o' : Obj, (setObj r o').run P w1 = .ok () { w1 with heap := w1.heap.setIfInBounds r o' } := fun o' => by simp only [setObj, Sem.run, a1, h3]
    refine ⟨k, { w1 with heap := w1.heap.setIfInBounds r (.mapIter (some b) clock (seen.push es[j].born) clock) }, hk, ?_, ⟨es, clock, seen, es[j], ?_, h2, ?_, by simp, hk1, hk2, h5⟩, ⟨a2, a3, a4, by simp [a1], fun i hi hn => ?_⟩, by simp [a1]⟩
    · intro _
      simp only [hrun, Array.getElem?_map, Array.getElem?_eq_getElem hj, Option.map_some, Sem.run_bind, hset, Result.andThen, hk1, hk2]
      rfl
    · show (w1.heap.setIfInBounds r _)[b]? = _
      rw [a1, Array.getElem?_setIfInBounds_ne (fun e => hne e.symm)]; exact h1
    · show (w1.heap.setIfInBounds r _)[r]? = _
      rw [a1]; simp [hrl]
    · show (w1.heap.setIfInBounds r _)[i]? = _
      rw [a1, Array.getElem?_setIfInBounds_ne (fun e => hn (congrArg some e.symm))]
theorem NMid.entry {P : Program} {w : World} {b r : Nat} {ks : List (List UInt8)} {k : List UInt8} (h : NMid w b r ks k) :
    (Instr.entry (.pointer (some ⟨r, 0, none⟩))).run P w = .ok (.tuple #[.string (B k), .bool true]) w := by
  obtain ⟨es, clock, seen, e, h1, h2, h3, h4, h5, h6, h7⟩ := h
  have hf : es.find? (·.born == e.born) = some e := by rw [← Array.find?_toList]; exact find_born e es.toList h2.bd h4
  simp only [Instr.entry, getObj, Sem.run_bind, Sem.run, h3, h1, Result.andThen, Array.back?_push, bne_self_eq_false, Bool.false_eq_true, if_false, hf, h5, h6]
  rfl
theorem NMid.delete {P : Program} {T K E S : TypeId} (hT : P.underlying T = some (.map K E)) (hK : P.underlying K = some .string) {w : World} {b r : Nat} {ks : List (List UInt8)} {k : List UInt8} (h : NMid w b r ks k) (hne : b ≠ r) :
    ∃ w' ks', (∀ ty : TypeId, (Builtin.delete_ #[T, S] ty #[.map (some b), .string (B k)]).run P w = .ok (.tuple #[]) w') ∧ NIter w' b r ks' ∧ ks'.length < ks.length ∧ w.grownBy w' (some b) ∧ w'.heap.size = w.heap.size := by
  obtain ⟨es, clock, seen, e, h1, h2, h3, h4, h5, h6, h7⟩ := h
  have hg : (getObj b).run P w = .ok (.map es clock) w := by simp [getObj, Sem.run, h1]
  have hbl := (Array.getElem?_eq_some_iff.1 h1).1
  obtain ⟨k', hk, hk1, _⟩ := ents_val h2 h4
  have ek : k' = k := by rw [h5] at hk1; injection hk1 with hk1; exact (B_inj hk1).symm
  subst ek
  rcases findNow_smap k' (seenM ks) es.toList 0 (by rw [h2.kv]; simp [seenM]) with ⟨h8, _⟩ | ⟨j, v, _, h9⟩
  · rcases seen_look k' ks with ⟨_, a⟩ | ⟨a, _⟩
    · rw [a] at h8; cases h8
    · exact absurd hk a
  · obtain ⟨_, e', h10, h11⟩ := findNow_idx k' _ _ _ _ h9
    rw [Nat.sub_zero] at h10
    have hj : j < es.toList.length := (List.getElem?_eq_some_iff.1 h10).1
    obtain ⟨i, hi, hie⟩ := List.getElem_of_mem h4
    have hij : i = j := by
      have hn := ents_keys_nd h2
      have hn := nodup_ne hn
      have e1 : (es.toList.map (·.key))[i]? = (es.toList.map (·.key))[j]? := by
        rw [List.getElem?_map, List.getElem?_map, h10, List.getElem?_eq_getElem hi, hie]
        simp [h5, h11]
      rcases Nat.lt_trichotomy i j with h | h | h
      · exact absurd e1 (hn i j h (by simpa using hj))
      · exact h
      · exact absurd e1.symm (hn j i h (by simpa using hi))
    subst hij
    have hs : (setObj b (.map (es.eraseIdxIfInBounds i) clock)).run P w = .ok () { w with heap := w.heap.setIfInBounds b (.map (es.eraseIdxIfInBounds i) clock) } := by simp [setObj, Sem.run, h1]
    have htl : (es.eraseIdxIfInBounds i).toList = es.toList.eraseIdx i := by simp
    refine ⟨{ w with heap := w.heap.setIfInBounds b (.map (es.eraseIdxIfInBounds i) clock) }, ks.eraseIdx i, fun ty => by simp [Builtin.delete_, run_underlying hT, hg, run_checkKey_string hT hK, Instr.findKey, run_underlying hK, h9, hs],
      ⟨es.eraseIdxIfInBounds i, clock, seen.push e.born, clock, by simp [hbl], by rw [htl]; exact ents_erase h2 i, ?_, Nat.le_refl _, fun x hx => ?_⟩, ?_, ⟨rfl, rfl, rfl, by simp, fun j hj hn => ?_⟩, by simp⟩
    · show (w.heap.setIfInBounds b _)[r]? = _
      rw [Array.getElem?_setIfInBounds_ne hne]; exact h3
    · rw [htl] at hx
      have hxm := (List.eraseIdx_sublist es.toList i).mem hx
      rw [Array.mem_push, not_or]
      refine ⟨h7 x hxm, fun eb => ?_⟩
      -- x has e's stamp, so it is e; and e is gone
      have hn := h2.bd
      have hbe : x.born ∉ (es.toList.eraseIdx i).map (·.born) := by
        rw [map_erase, eb, ← hie]
        have := hn
        intro hm
        rw [List.mem_eraseIdx_iff_getElem?] at hm
        obtain ⟨q, hq, hq2⟩ := hm
        have hn := nodup_ne hn
        have e2 : (es.toList.map (·.born))[i]? = some es.toList[i].born := by rw [List.getElem?_map, List.getElem?_eq_getElem hi]; rfl
        have hql : q < es.toList.length := by
          have := (List.getElem?_eq_some_iff.1 hq2).1
          simpa using this
        rcases Nat.lt_trichotomy q i with h | h | h
        · exact hn q i h (by simpa using hi) (by rw [hq2, e2])
        · exact hq h
        · exact hn i q h (by simpa using hql) (by rw [hq2, e2])
      exact hbe (List.mem_map.2 ⟨x, hx, rfl⟩)
    · have := ents_len h2
      rw [List.length_eraseIdx_of_lt (by omega)]
      omega
    · show (w.heap.setIfInBounds b _)[j]? = _
      rw [Array.getElem?_setIfInBounds_ne (fun e => hn (congrArg some e.symm))]
/-- how many entries a map has -/
def mapLen (w : World) (b : Nat) : Nat := match w.heap[b]? with
  | some (.map es _) => es.size
  | _ => 0
theorem NIter.len {w : World} {b r : Nat} {ks : List (List UInt8)} (h : NIter w b r ks) : mapLen w b = ks.length := by
  obtain ⟨es, c, s, c0, h1, h2, _⟩ := h
  have := ents_len h2
  rw [Array.length_toList] at this
  unfold mapLen
  rw [h1]; exact this
end Go.Proofs.YtpgpkgpiengmkaaDoor
