/-
  Layer 40 (page), the chapter's: fill; fits, placed.
-/
import Derived.Test.YtpgpkgpiengmkaaDoorPgE
import Derived.Deep.AppendSrc
import Derived.Deep.Upon
namespace Go.Proofs.YtpgpkgpiengmkaaDoor
open Go.RowKit
set_option linter.unusedVariables false
set_option linter.unusedSimpArgs false
attribute [local go_sem] B_data B_size

/-- a fill in its block -/
def FX (q : Nat) (vP vB : Value) (ht f : Int) (vW : Value) (p : Int) (W : World) : Prop := W.heap[q]? = some (.cells #[vP, vB, .int .i64 ht, .int .i64 f, vW, .int .i64 p] 55 (0, 0))
section
variable {q i : Nat} {vP vB vW u : Value} {ht f p x : Int} {W W' : World}
theorem FX.c0 (h : FX q vP vB ht f vW p W) : W.cell? ⟨q, 0, none⟩ = some vP := by unfold FX at h; simp [World.cell?, h]
theorem FX.c1 (h : FX q vP vB ht f vW p W) : W.cell? ⟨q, 1, none⟩ = some vB := by unfold FX at h; simp [World.cell?, h]
theorem FX.c2 (h : FX q vP vB ht f vW p W) : W.cell? ⟨q, 2, none⟩ = some (.int .i64 ht) := by unfold FX at h; simp [World.cell?, h]
theorem FX.c3 (h : FX q vP vB ht f vW p W) : W.cell? ⟨q, 3, none⟩ = some (.int .i64 f) := by unfold FX at h; simp [World.cell?, h]
theorem FX.c4 (h : FX q vP vB ht f vW p W) : W.cell? ⟨q, 4, none⟩ = some vW := by unfold FX at h; simp [World.cell?, h]
theorem FX.c5 (h : FX q vP vB ht f vW p W) : W.cell? ⟨q, 5, none⟩ = some (.int .i64 p) := by unfold FX at h; simp [World.cell?, h]
theorem FX.ff (h : FX q vP vB ht f vW p W) (i : Nat) : W.frozen? ⟨q, i, none⟩ = false := by unfold FX at h; simp [World.frozen?, h]
theorem FX.lt (h : FX q vP vB ht f vW p W) : q < W.heap.size := (Array.getElem?_eq_some_iff.1 h).1
theorem FX.step (h : FX q vP vB ht f vW p W) (hb : Below W.heap.size W W') : FX q vP vB ht f vW p W' := (hb.block q h.lt).trans h
theorem FX.keep {R : Nat → Prop} (h : FX q vP vB ht f vW p W) (hk : Kpt R W W') (hR : ¬ R q) : FX q vP vB ht f vW p W' := hk.at h hR
theorem FX.set0 (h : FX q vP vB ht f vW p W) : FX q u vB ht f vW p (W.setCell ⟨q, 0, none⟩ u) := by unfold FX at *; rw [heap_set u h]; rfl
theorem FX.set1 (h : FX q vP vB ht f vW p W) : FX q vP u ht f vW p (W.setCell ⟨q, 1, none⟩ u) := by unfold FX at *; rw [heap_set u h]; rfl
theorem FX.set2 (h : FX q vP vB ht f vW p W) : FX q vP vB x f vW p (W.setCell ⟨q, 2, none⟩ (.int .i64 x)) := by unfold FX at *; rw [heap_set _ h]; rfl
theorem FX.set3 (h : FX q vP vB ht f vW p W) : FX q vP vB ht x vW p (W.setCell ⟨q, 3, none⟩ (.int .i64 x)) := by unfold FX at *; rw [heap_set _ h]; rfl
theorem FX.set4 (h : FX q vP vB ht f vW p W) : FX q vP vB ht f u p (W.setCell ⟨q, 4, none⟩ u) := by unfold FX at *; rw [heap_set u h]; rfl
theorem FX.set5 (h : FX q vP vB ht f vW p W) : FX q vP vB ht f vW x (W.setCell ⟨q, 5, none⟩ (.int .i64 x)) := by unfold FX at *; rw [heap_set _ h]; rfl
end
/-- a row of ints copied to the end of an empty one -/
theorem run_cp (ty : TypeId) (W : World) (base g M : Nat) (A : Option Addr) (n c : Nat) (xs : List Int) (hE : W.ownsRow base 3 1 (.slice (some ⟨g, 0, none⟩) 0 0) 0 []) (hr : Rd W M 1 A n (ints xs)) (hn : n ≤ 1000000) (hbase : base ≤ W.heap.size) :
    ∃ A' c' w', (Builtin.append_ #[40, 40] ty #[.slice (some ⟨g, 0, none⟩) 0 0, .slice A n c]).run Tryd.prog W = .ok (.slice A' n c') w' ∧ w'.ownsRow base 3 1 (.slice A' n c') n (ints xs) ∧ Kpt (fun k => k = g) W w' := by
  obtain ⟨i0, hi, hz0, hz1, hz2⟩ := info_parts Tryd.infoInt
  have hl := hr.1
  by_cases h0 : n = 0
  · subst h0
    have hx : xs = [] := List.eq_nil_of_length_eq_zero (by rw [ints_len] at hl; omega)
    subst hx
    cases A with
    | none =>
      have h := run_append_nothing (P := Tryd.prog) W 40 40 ty 3 i0 Tryd.underlying40 hi (some ⟨g, 0, none⟩) 0 0 (Nat.le_refl _) (.slice none 0 c) (Src.ofNil W Tryd.underlying40 c)
      exact ⟨_, _, W, h, hE, Kpt.refl _ _⟩
    | some ad =>
      have h := run_append_nothing (P := Tryd.prog) W 40 40 ty 3 i0 Tryd.underlying40 hi (some ⟨g, 0, none⟩) 0 0 (Nat.le_refl _) (.slice (some ad) 0 c) (Src.ofSlice W Tryd.underlying40 ad 0 c [] (by simp) (fun j u h => by simp at h) (fun u h => by cases h))
      exact ⟨_, _, W, h, hE, Kpt.refl _ _⟩
  · obtain ⟨ad, rfl, hlt, hc⟩ := hr.2 (by omega)
    obtain ⟨v', w', h1, h2, h3, _, _⟩ := run_append_own_at (P := Tryd.prog) W base 40 ty 3 i0 (.int .i64 0) 1 8 Tryd.underlying40 hi hz0 hz1 hz2 rfl (by decide) _ 0 [] hE ad n c (ints xs) hl hc (fun u hu => by
      obtain ⟨_, _, rfl⟩ := List.mem_map.1 hu; rfl) (by simp only [maxLen]; omega) (by omega) hbase
    rw [Nat.zero_add, List.nil_append] at h2
    obtain ⟨g', cap, rfl, _, _⟩ := h2.form (by omega)
    exact ⟨_, _, w', h1, h2, (Kpt.of_grown h3).mono fun i _ e => by simpa [Value.ownBlock] using e.symm⟩
theorem own_lit (w : World) : (w.alloc (.cells #[] 3)).ownsRow w.heap.size 3 1 (.slice (some ⟨w.heap.size, 0, none⟩) 0 0) 0 [] := World.ownsRow_lit w #[] 0 (Nat.le_refl _) (by decide) rfl
/-- the same, as one operation of a plain region -/
theorem wpList_cp {ops : Array Oper} {rest : List Oper} {o : Oper} {a : Act} {Q : Exit → Act → World → Prop} (hgd : o.guard = none) (s y : Operand)
    (ho : o.op = .call { callee := .builtin .append, args := #[s, y], argTypes := #[40, 40] })
    (wr : World) (base g M : Nat) (A : Option Addr) (n c : Nat) (xs : List Int) (hE : wr.ownsRow base 3 1 (.slice (some ⟨g, 0, none⟩) 0 0) 0 []) (hr : Rd wr M 1 A n (ints xs)) (hn : n ≤ 1000000) (hbase : base ≤ wr.heap.size)
    (hs : a.eval s = .slice (some ⟨g, 0, none⟩) 0 0) (hy : a.eval y = .slice A n c)
    (h : ∀ A' c' w', w'.ownsRow base 3 1 (.slice A' n c') n (ints xs) → Kpt (fun k => k = g) wr w' → wpList Tryd.prog ops Q rest (a.put o.dst (.slice A' n c')) w') :
    wpList Tryd.prog ops Q (o :: rest) a wr :=
  wpList_plain hgd fun _ hK => by
    obtain ⟨A', c', w', hr, h1, h2⟩ := run_cp o.type wr base g M A n c xs hE hr hn hbase
    unfold Oper.wp execOp
    simp only [ho, resolve, invoke, builtin, Sem.run_bind, Sem.run_pure, Result.andThen_ok, List.map_toArray, List.map_cons, List.map_nil, hs, hy, hr]
    exact hK _ _ (h A' c' w' h1 h2)
set_option maxHeartbeats 4000000 in
set_option maxRecDepth 100000 in
theorem rfits_any (A : Option Addr) (n c : Nat) (l : List Bx) (i : Nat) (b : Bx) (vP vB vW : Value) (ht f p H : Int) (w : World) (hx : BxAt w w.heap.size A n l) (hi : l[i]? = some b) (h0 : 0 ≤ ht) (h1 : ht ≤ 1099511627776) (h2 : 0 ≤ b.h) (h3 : b.h ≤ 1048576) :
    Calls Tryd.prog 47 #[.slice A n c, .agg #[vP, vB, .int .i64 ht, .int .i64 f, vW, .int .i64 p], .int .i64 i, .int .i64 H] w (BlPost (decide (ht + b.h ≤ H)) w) := by
  have HL := Lib.hid hx.len
  have hin : i < n := by rw [← HL.out]; exact (List.getElem?_eq_some_iff.1 hi).1
  have hA : FX w.heap.size vP vB ht f vW p (w.alloc (.cells #[vP, vB, .int .i64 ht, .int .i64 f, vW, .int .i64 p] 55)) := heap_alloc_new w _
  have hb := below_alloc w (.cells #[vP, vB, .int .i64 ht, .int .i64 f, vW, .int .i64 p] 55)
  have d2 := hA.c2
  obtain ⟨g, o, rfl, hg, _, e1, _, _, _, _⟩ := (hx.below hb).at6 hi
  have i1 : (0 : Int) ≤ (i : Int) := by omega
  have i2 : (i : Int) < (n : Int) := by omega
  have hw : IntKind.i64.wrap (ht + b.h) = ht + b.h := wrap_in (by omega) (by omega)
  clear hA hx
  go_enter Tryd.func47, Tryd.ntmps47
  go_wp2
  go_quiet (fail)
  go_wp2
  go_ret
  exact ⟨rfl, below_drewN hb _⟩
end Go.Proofs.YtpgpkgpiengmkaaDoor
