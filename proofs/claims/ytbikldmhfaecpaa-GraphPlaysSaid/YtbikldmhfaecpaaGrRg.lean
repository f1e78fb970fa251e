/-
  Layer 48 (graph), the reference: reach.
-/
import Derived.Test.YtbikldmhfaecpaaGrRf
namespace Go.Proofs.Ytbikldmhfaecpaa
open Go.RowKit
set_option linter.unusedVariables false
set_option linter.unusedSimpArgs false
attribute [local go_sem] B_data B_size

/-- a text appended to a row of the call's own, with its place -/
theorem wpList_appL {ops : Array Oper} {rest : List Oper} {o : Oper} {a : Act} {Q : Exit → Act → World → Prop} (hgd : o.guard = none) (s x : Operand)
    (ho : o.op = .call { callee := .builtin .append, args := #[s, x], argTypes := #[29, 29] }) (wr : World) (u : Nm) (base : Nat) (v : Value) (n : Nat) (xs : List Nm) (hown : wr.ownsRow base 9 1 v n (strs xs))
    (hs : a.eval s = v) (hx : a.eval x = .slice (some ⟨wr.heap.size, 0, none⟩) 1 1) (hn : n + 1 ≤ 1099511627776) (hbase : base ≤ wr.heap.size)
    (h : ∀ g cap w', w'.ownsRow base 9 1 (.slice (some ⟨g, 0, none⟩) (n + 1) cap) (n + 1) (strs (xs ++ [u])) → wr.grownBy w' v.ownBlock → Below base wr w' → (v.ownBlock = some g ∨ wr.heap.size < g) → wpList Try.prog ops Q rest (a.put o.dst (.slice (some ⟨g, 0, none⟩) (n + 1) cap)) w') :
    wpList Try.prog ops Q (o :: rest) a (wr.alloc (.cells #[.string (B u)] 9)) := by
  obtain ⟨i0, hi, hz0, hz1, hz2⟩ := info_parts Try.info9
  refine wpList_append_lies _ hgd s x 29 ho base 9 i0 (.string ⟨#[]⟩) 1 16 Try.underlying29 hi hz0 hz1 hz2 rfl (by omega) v n (strs xs) hs (hown.alloc _) ⟨wr.heap.size, 0, none⟩ 1 1 [.string (B u)] hx rfl ?_ (by simp; rfl) (by omega) (by simp only [maxLen]; omega) (by omega) (by simp; omega) (wr.heap.size + 1) (by simp) ?_
  · intro j q hj
    have hlt : j < 1 := (List.getElem?_eq_some_iff.1 hj).1
    obtain rfl : j = 0 := by omega
    rw [addr_lit, cell_of_row (wr.alloc (.cells #[.string (B u)] 9)) wr.heap.size _ #[.string (B u)] 9 (0, 0) (heap_alloc_new wr _)]
    simpa using hj
  · intro g cap w' h1 h2 h3 h4
    have hg : wr.grownBy w' v.ownBlock := grown_trans (World.grownBy_alloc wr _ _) h2
    have e : strs xs ++ [.string (B u)] = strs (xs ++ [u]) := by simp [strs]
    rw [e] at h1
    exact h g cap w' h1 hg (below_of_grown hg hbase fun k hk => (hown.lt k hk).1) (by rcases h3 with h3 | h3; exact .inl h3; exact .inr (by omega))
/-- what a name needs -/
def ndV (L : List VM) (a : Nm) : List Nm := match findI L a with
  | some i => match L[i]? with
    | some v => v.nd
    | none => []
  | none => []
theorem ndV_some {L : List VM} {a : Nm} {i : Nat} {v : VM} (h : findI L a = some i) (hv : L[i]? = some v) : ndV L a = v.nd := by unfold ndV; rw [h]; simp only; rw [hv]
theorem ndV_none {L : List VM} {a : Nm} (h : findI L a = none) : ndV L a = [] := by unfold ndV; rw [h]
theorem ndV_mem {L : List VM} {a y : Nm} (h : y ∈ ndV L a) : y ∈ L.flatMap (·.nd) := by
  unfold ndV at h
  split at h
  · split at h
    · rename_i hv
      exact List.mem_flatMap.2 ⟨_, List.mem_of_getElem? hv, h⟩
    · cases h
  · cases h
inductive ReP (L : List VM) (a : Nm) : Nm → Prop
  | one {b : Nm} : b ∈ ndV L a → ReP L a b
  | more {b c : Nm} : ReP L a b → c ∈ ndV L b → ReP L a c
theorem ReP.mem {L : List VM} {a x : Nm} (h : ReP L a x) : x ∈ L.flatMap (·.nd) := by
  cases h with
  | one h => exact ndV_mem h
  | more _ h => exact ndV_mem h
structure RI (L : List VM) (a : Nm) (names out : List Nm) : Prop where
  n1 : names.Nodup
  o1 : out.Nodup
  has : a ∈ names
  dep : ∀ x ∈ names, x = a ∨ ReP L a x
  od : ∀ x ∈ out, ReP L a x
theorem RI.nlen {L : List VM} {a : Nm} {names out : List Nm} (h : RI L a names out) : names.length ≤ (L.flatMap (·.nd)).length + 1 := by
  have := nodup_sub_len names (a :: L.flatMap (·.nd)) h.n1 (fun x hx => by
    rcases h.dep x hx with e | e
    · rw [e]; exact List.mem_cons_self
    · exact List.mem_cons_of_mem _ e.mem)
  simpa using this
theorem RI.olen {L : List VM} {a : Nm} {names out : List Nm} (h : RI L a names out) : out.length ≤ (L.flatMap (·.nd)).length := nodup_sub_len out _ h.o1 (fun x hx => (h.od x hx).mem)
def RClosed (L : List VM) (names out : List Nm) (k : Nat) : Prop := ∀ x ∈ names.take k, ∀ y ∈ ndV L x, y ∈ names ∧ y ∈ out
theorem RI.done {L : List VM} {a : Nm} {names out : List Nm} (h : RI L a names out) (hc : RClosed L names out names.length) (x : Nm) : x ∈ out ↔ ReP L a x := by
  rw [RClosed, List.take_length] at hc
  refine ⟨h.od x, fun hx => ?_⟩
  have : x ∈ names ∧ x ∈ out := by
    induction hx with
    | one hb => exact hc a h.has _ hb
    | more _ hb ih => exact hc _ ih.1 _ hb
  exact this.2
theorem ReP.trans1 {L : List VM} {a s y : Nm} (h : s = a ∨ ReP L a s) (hy : y ∈ ndV L s) : ReP L a y := by
  rcases h with rfl | h
  · exact .one hy
  · exact .more h hy
theorem nodup_snoc {l : List Nm} {y : Nm} (h : l.Nodup) (hy : y ∉ l) : (l ++ [y]).Nodup := by
  rw [List.nodup_append]
  exact ⟨h, by simp, fun a ha b hb e => hy (by simp at hb; rw [← hb, ← e]; exact ha)⟩
theorem flat_lenV (L : List VM) (h : ∀ v ∈ L, v.nd.length ≤ 10000) : (L.flatMap (·.nd)).length ≤ L.length * 10000 := by
  induction L with
  | nil => simp
  | cons a r ih =>
    have := ih (fun v hv => h v (List.mem_cons_of_mem _ hv))
    have := h a List.mem_cons_self
    simp only [List.flatMap_cons, List.length_append, List.length_cons]; omega
end Go.Proofs.Ytbikldmhfaecpaa
