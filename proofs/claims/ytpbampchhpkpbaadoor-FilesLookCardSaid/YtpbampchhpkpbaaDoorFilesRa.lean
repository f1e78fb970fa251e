/-
  Layer 16 (files): a list of files appended to one of the call's own.
-/
import Derived.Test.YtpbampchhpkpbaaDoorFilesW
import Derived.Maps.AppendAt
import Derived.Deep.Upon
import Derived.Deep.AppendLies
import Derived.Deep.Onto
import Derived.Laws.OwnMore
namespace Go.Proofs.YtpbampchhpkpbaaDoor
open Go.RowKit
set_option linter.unusedVariables false
set_option linter.unusedSimpArgs false
attribute [local go_sem] B_data B_size

/-- any list of files appended to a list in a block of the call's own -/
theorem run_appF (ty : TypeId) (W : World) (base M : Nat) (v : Value) (n : Nat) (fs : List (List UInt8 × List UInt8)) (hE : W.ownsRow base 36 2 v n (fls fs))
    (A : Option Addr) (m c : Nat) (gs : List (List UInt8 × List UInt8)) (hr : Rd W M 2 A m (fls gs)) (hn : n ≤ 1000000) (hm : m ≤ 1000000) (hbase : base ≤ W.heap.size) :
    ∃ A' c' w', (Builtin.append_ #[31, 31] ty #[v, .slice A m c]).run Tryd.prog W = .ok (.slice A' (n + m) c') w' ∧ w'.ownsRow base 36 2 (.slice A' (n + m) c') (n + m) (fls (fs ++ gs)) ∧ Below base W w' ∧ W.grownBy w' v.ownBlock := by
  obtain ⟨i0, hi, hz0, hz1, hz2⟩ := info_parts Tryd.infoFile
  have hl := hr.1
  have hgl := hr.fls_length
  obtain ⟨A0, c0, rfl, hle⟩ := own_form hE
  by_cases h0 : m = 0
  · subst h0
    have hx : gs = [] := List.eq_nil_of_length_eq_zero hgl
    subst hx
    rw [List.append_nil]
    cases A with
    | none =>
      have h := run_append_nothing (P := Tryd.prog) W 31 31 ty 36 i0 Tryd.underlying31 hi A0 n c0 hle (.slice none 0 c) (Src.ofNil W Tryd.underlying31 c)
      exact ⟨_, _, W, h, hE, Below.refl _ _, ⟨rfl, rfl, rfl, Nat.le_refl _, fun _ _ _ => rfl⟩⟩
    | some ad =>
      have h := run_append_nothing (P := Tryd.prog) W 31 31 ty 36 i0 Tryd.underlying31 hi A0 n c0 hle (.slice (some ad) 0 c) (Src.ofSlice W Tryd.underlying31 ad 0 c [] (by simp) (fun j u h => by simp at h) (fun u h => by cases h))
      exact ⟨_, _, W, h, hE, Below.refl _ _, ⟨rfl, rfl, rfl, Nat.le_refl _, fun _ _ _ => rfl⟩⟩
  · obtain ⟨ad, rfl, hlt, hc⟩ := hr.2 (by omega)
    obtain ⟨v', w', h1, h2, h3, _, _⟩ := run_append_own_at (P := Tryd.prog) W base 31 ty 36 i0 (.agg #[.string ⟨#[]⟩, .string ⟨#[]⟩]) 2 32 Tryd.underlying31 hi hz0 hz1 hz2 rfl (by decide) _ n (fls fs) hE ad m c (fls gs) hl hc (fls_one gs) (by simp only [maxLen]; omega) (by omega) hbase
    rw [← fls_append] at h2
    obtain ⟨g', cap, rfl, _, _⟩ := h2.form (by omega)
    exact ⟨_, _, w', h1, h2, below_of_grown h3 hbase fun k hk => (hE.lt k hk).1, h3⟩
/-- the same, as one operation of a plain region -/
theorem wpList_appF {ops : Array Oper} {rest : List Oper} {o : Oper} {a : Act} {Q : Exit → Act → World → Prop} (hgd : o.guard = none) (s y : Operand)
    (ho : o.op = .call { callee := .builtin .append, args := #[s, y], argTypes := #[31, 31] })
    (W : World) (base M : Nat) (v : Value) (n : Nat) (fs : List (List UInt8 × List UInt8)) (hE : W.ownsRow base 36 2 v n (fls fs))
    (A : Option Addr) (m c : Nat) (gs : List (List UInt8 × List UInt8)) (hr : Rd W M 2 A m (fls gs)) (hn : n ≤ 1000000) (hm : m ≤ 1000000) (hbase : base ≤ W.heap.size)
    (hs : a.eval s = v) (hy : a.eval y = .slice A m c)
    (h : ∀ A' c' w', w'.ownsRow base 36 2 (.slice A' (n + m) c') (n + m) (fls (fs ++ gs)) → Below base W w' → W.grownBy w' v.ownBlock → wpList Tryd.prog ops Q rest (a.put o.dst (.slice A' (n + m) c')) w') :
    wpList Tryd.prog ops Q (o :: rest) a W :=
  wpList_plain hgd fun _ hK => by
    obtain ⟨A', c', w', hr, h1, h2, h3⟩ := run_appF o.type W base M v n fs hE A m c gs hr hn hm hbase
    unfold Oper.wp execOp
    simp only [ho, resolve, invoke, builtin, Sem.run_bind, Sem.run_pure, Result.andThen_ok, List.map_toArray, List.map_cons, List.map_nil, hs, hy, hr]
    exact hK _ _ (h A' c' w' h1 h2 h3)
/-- the same, as one step of a region that draws -/
theorem step_appF {ops : Array Oper} {o : Oper} {a : Act} {K : Act → World → Prop} {Q : Exit → Act → World → Prop} {E : Prop} (hgd : o.guard = none) (s y : Operand)
    (ho : o.op = .call { callee := .builtin .append, args := #[s, y], argTypes := #[31, 31] })
    (W : World) (base M : Nat) (v : Value) (n : Nat) (fs : List (List UInt8 × List UInt8)) (hE : W.ownsRow base 36 2 v n (fls fs))
    (A : Option Addr) (m c : Nat) (gs : List (List UInt8 × List UInt8)) (hr : Rd W M 2 A m (fls gs)) (hn : n ≤ 1000000) (hm : m ≤ 1000000) (hbase : base ≤ W.heap.size)
    (hs : a.eval s = v) (hy : a.eval y = .slice A m c)
    (h : ∀ A' c' w', w'.ownsRow base 36 2 (.slice A' (n + m) c') (n + m) (fls (fs ++ gs)) → Below base W w' → W.grownBy w' v.ownBlock → K (a.put o.dst (.slice A' (n + m) c')) w') :
    if Region.wanted o (yielded ops a.tmps) = true then Oper.wp Tryd.prog o a W K Q else E := by
  have hw : Region.wanted o (yielded ops a.tmps) = true := by simp [Region.wanted, hgd]
  rw [if_pos hw]
  obtain ⟨A', c', w', hr, h1, h2, h3⟩ := run_appF o.type W base M v n fs hE A m c gs hr hn hm hbase
  unfold Oper.wp execOp
  simp only [ho, resolve, invoke, builtin, Sem.run_bind, Sem.run_pure, Result.andThen_ok, List.map_toArray, List.map_cons, List.map_nil, hs, hy, hr]
  exact h A' c' w' h1 h2 h3
/-- an empty list in a block of its own -/
theorem lit_own (w : World) (base : Nat) (hb : base ≤ w.heap.size) : (w.alloc (.cells #[] 36)).ownsRow base 36 2 (.slice (some ⟨w.heap.size, 0, none⟩) 0 0) 0 (fls []) := World.ownsRow_lit w #[] 0 hb (by decide) rfl
end Go.Proofs.YtpbampchhpkpbaaDoor
