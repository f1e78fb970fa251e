/-
  Layer 48 (graph), the reference: stale.
-/
import Derived.Test.YtbikldmhfaecpaaGrRa
namespace Go.Proofs.Ytbikldmhfaecpaa
open Go.RowKit
set_option linter.unusedVariables false
set_option linter.unusedSimpArgs false
attribute [local go_sem] B_data B_size

theorem flat_set {α : Type} (f : α → List Value) (sz : Nat) (hf : ∀ a, (f a).length = sz) : ∀ (l : List α) (i j : Nat) (v v' : α) (u : Value), l[i]? = some v → j < sz → f v' = (f v).set j u → (l.flatMap f).set (i * sz + j) u = (l.set i v').flatMap f
  | [], i, j, v, v', u, h, _, _ => by simp at h
  | a :: l, 0, j, v, v', u, h, hj, e => by
    have h : a = v := by simpa using h
    subst h
    rw [List.set_cons_zero, List.flatMap_cons, List.flatMap_cons, e, Nat.zero_mul, Nat.zero_add, List.set_append_left _ _ (by rw [hf]; exact hj)]
  | a :: l, i + 1, j, v, v', u, h, hj, e => by
    have h : l[i]? = some v := by simpa using h
    rw [List.set_cons_succ, List.flatMap_cons, List.flatMap_cons, ← flat_set f sz hf l i j v v' u h hj e, List.set_append_right _ _ (by rw [hf, Nat.succ_mul]; omega), hf]
    congr 2
    rw [Nat.succ_mul]; omega
theorem RG.free {rb c N g : Nat} {L : List VM} {w0 w : World} {X : Nat → Prop} (h : RG rb (some ⟨g, 0, none⟩) c L N w0 w X) (i : Nat) : w.frozen? ⟨g, i, none⟩ = false := by
  rcases h.row.2 with ⟨h0, _⟩ | ⟨g', cap, cur, hv, _, hg, _⟩
  · cases h0
  · injection hv with hv; injection hv with hv; injection hv with hv
    subst hv
    simp [World.frozen?, hg]
theorem RG.hfree {rb c N : Nat} {A : Option Addr} {L : List VM} {w0 w : World} {X : Nat → Prop} (h : RG rb A c L N w0 w X) (i : Nat) : w.frozen? ⟨rb, i, none⟩ = false := by simp [World.frozen?, h.hd]
theorem RG.put {rb c N g i j : Nat} {L : List VM} {w0 w : World} {X : Nat → Prop} {v v' : VM} {u : Value} (h : RG rb (some ⟨g, 0, none⟩) c L N w0 w X) (hi : L[i]? = some v) (hj : j < 10) (hf : vmF v' = (vmF v).set j u)
    (hd : Dt w X rb (some g) v'.nA v'.nd ∧ Dt w X rb (some g) v'.iA v'.inn) : RG rb (some ⟨g, 0, none⟩) c (L.set i v') N w0 (w.setCell ⟨g, i * 10 + j, none⟩ u) X := by
  have hl : (L.set i v').length = L.length := List.length_set
  obtain ⟨gx, gr⟩ := h.rx g rfl
  have hsz : (w.setCell ⟨g, i * 10 + j, none⟩ u).heap.size = w.heap.size := by simp [World.setCell]
  have hk : ∀ b, b ≠ g → (w.setCell ⟨g, i * 10 + j, none⟩ u).heap[b]? = w.heap[b]? := fun b hb => Below.heap_setCell w ⟨g, i * 10 + j, none⟩ u b hb
  refine ⟨fun b hx => by rw [hsz]; exact h.xs b hx, h.b.setCell (p := ⟨g, i * 10 + j, none⟩) (h.xs g gx).1 _, by rw [hl, hk rb (fun e => gr e.symm)]; exact h.hd, h.xr, ?_, ?_, fun a ha => ?_⟩
  · have := (h.row.stored (i * 10 + j) u).1
    rw [flat_set vmF 10 vmF_len L i j v v' u hi hj hf] at this
    rw [hl]; exact this
  · rw [hl]; exact h.rx
  · rw [hl]
    have keep : ∀ {A : Option Addr} {l : List Nm}, Dt w X rb (some g) A l → Dt (w.setCell ⟨g, i * 10 + j, none⟩ u) X rb (some g) A l := fun hd => hd.keep (fun b _ _ h2 => hk b (fun e => h2 (by rw [e]))) (by rw [hsz]; exact Nat.le_refl _)
    rcases List.mem_or_eq_of_mem_set ha with ha | rfl
    · exact ⟨keep (h.dt a ha).1, keep (h.dt a ha).2⟩
    · exact ⟨keep hd.1, keep hd.2⟩
/-- a vertex needs a name, directly or through others -/
inductive DepV (L : List VM) (n : Nm) : Nm → Prop
  | one {v : VM} : v ∈ L → n ∈ v.nd → DepV L n v.nm
  | more {v : VM} {m : Nm} : v ∈ L → DepV L n m → m ∈ v.nd → DepV L n v.nm
structure NI (L : List VM) (n : Nm) (names : List Nm) : Prop where
  nd : names.Nodup
  has : n ∈ names
  dep : ∀ x ∈ names, x = n ∨ DepV L n x
theorem NI.len {L : List VM} {n : Nm} {names : List Nm} (h : NI L n names) : names.length ≤ L.length + 1 := by
  have := nodup_sub_len names (n :: L.map (·.nm)) h.nd (fun x hx => by
    rcases h.dep x hx with e | e
    · rw [e]; exact List.mem_cons_self
    · refine List.mem_cons_of_mem _ ?_
      cases e with
      | one hv _ => exact List.mem_map_of_mem (f := (·.nm)) hv
      | more hv _ _ => exact List.mem_map_of_mem (f := (·.nm)) hv)
  simpa using this
def ClosedTo (L : List VM) (names : List Nm) (k : Nat) : Prop := ∀ x ∈ names.take k, ∀ v ∈ L, x ∈ v.nd → v.nm ∈ names
theorem NI.snoc {L : List VM} {n : Nm} {names : List Nm} (h : NI L n names) {v : VM} (hv : v ∈ L) {s : Nm} (hs : s ∈ names) (hn : s ∈ v.nd) (hm : v.nm ∉ names) : NI L n (names ++ [v.nm]) := by
  refine ⟨?_, List.mem_append_left _ h.has, fun x hx => ?_⟩
  · rw [List.nodup_append]
    exact ⟨h.nd, by simp, fun a ha b hb e => hm (by simp at hb; rw [← hb, ← e]; exact ha)⟩
  · rcases List.mem_append.1 hx with hx | hx
    · exact h.dep x hx
    · rw [List.mem_singleton] at hx; subst hx
      rcases h.dep s hs with e | e
      · subst e; exact .inr (.one hv hn)
      · exact .inr (.more hv e hn)
theorem ClosedTo.snoc {L : List VM} {names : List Nm} {k : Nat} (h : ClosedTo L names k) (hk : k ≤ names.length) (y : Nm) : ClosedTo L (names ++ [y]) k := by
  intro x hx v hv hn
  rw [List.take_append_of_le_length hk] at hx
  exact List.mem_append_left _ (h x hx v hv hn)
theorem NI.closed {L : List VM} {n : Nm} {names : List Nm} (h : NI L n names) (hc : ClosedTo L names names.length) : ∀ x, DepV L n x → x ∈ names := by
  rw [ClosedTo, List.take_length] at hc
  intro x hx
  induction hx with
  | one hv hn => exact hc n h.has _ hv hn
  | more hv _ hm ih => exact hc _ ih _ hv hm
/-- whether a vertex is made stale by a change of a name -/
def StV (L : List VM) (n : Nm) (v : VM) : Prop := n ∈ v.nd ∨ ∃ m, DepV L n m ∧ m ∈ v.nd
theorem NI.st {L : List VM} {n : Nm} {names : List Nm} (h : NI L n names) (hc : ClosedTo L names names.length) (v : VM) : (∃ x ∈ names, x ∈ v.nd) ↔ StV L n v := by
  constructor
  · rintro ⟨x, hx, hv⟩
    rcases h.dep x hx with e | e
    · subst e; exact .inl hv
    · exact .inr ⟨x, e, hv⟩
  · rintro (hv | ⟨m, hm, hv⟩)
    · exact ⟨n, h.has, hv⟩
    · exact ⟨m, h.closed hc m hm, hv⟩
open Classical in
noncomputable def mkV (P : VM → Prop) (v : VM) : VM := if P v then { v with fresh := false } else v
theorem below_dn {M : Nat} {a b : World} (h : Below M a b) (n : Nat) : Below M a (b.drewN n) := ⟨h.os, h.tape, h.output, h.size, h.block⟩
end Go.Proofs.Ytbikldmhfaecpaa
