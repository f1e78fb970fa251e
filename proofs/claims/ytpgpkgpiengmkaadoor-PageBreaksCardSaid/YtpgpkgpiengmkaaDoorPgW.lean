/-
  Layer 40 (page): what a call keeps; rows of ints that a call owns, resliced or not; an append to one.
-/
import Derived.Test.YtpgpkgpiengmkaaDoorPgM
import Derived.ArgAppend
import Derived.Deep.AppendLies
namespace Go.Proofs.YtpgpkgpiengmkaaDoor
open Go.RowKit
set_option linter.unusedVariables false
set_option linter.unusedSimpArgs false

/-- w' is w, but for the blocks of R and new ones -/
structure Kpt (R : Nat → Prop) (w w' : World) : Prop where
  os : w'.os = w.os
  tape : w'.tape = w.tape
  output : w'.output = w.output
  size : w.heap.size ≤ w'.heap.size
  block : ∀ k, k < w.heap.size → ¬ R k → w'.heap[k]? = w.heap[k]?
section
variable {R S : Nat → Prop} {a b c : World}
theorem Kpt.refl (R : Nat → Prop) (w : World) : Kpt R w w := ⟨rfl, rfl, rfl, Nat.le_refl _, fun _ _ _ => rfl⟩
theorem Kpt.trans2 (h : Kpt R a b) (k : Kpt S b c) (hS : ∀ i, i < a.heap.size → S i → R i) : Kpt R a c :=
  ⟨k.os.trans h.os, k.tape.trans h.tape, k.output.trans h.output, Nat.le_trans h.size k.size, fun i h1 h2 => (k.block i (Nat.lt_of_lt_of_le h1 h.size) (fun e => h2 (hS i h1 e))).trans (h.block i h1 h2)⟩
theorem Kpt.trans (h : Kpt R a b) (k : Kpt R b c) : Kpt R a c := h.trans2 k fun _ _ e => e
theorem Kpt.mono (h : Kpt R a b) (hS : ∀ i, i < a.heap.size → R i → S i) : Kpt S a b := ⟨h.os, h.tape, h.output, h.size, fun i h1 h2 => h.block i h1 fun e => h2 (hS i h1 e)⟩
theorem Kpt.of_below (h : Below a.heap.size a b) : Kpt R a b := ⟨h.os, h.tape, h.output, h.size, fun i h1 _ => h.block i h1⟩
theorem Kpt.of_grown {row : Option Nat} (h : a.grownBy b row) : Kpt (fun k => row = some k) a b := ⟨h.os, h.tape, h.output, h.size, fun i h1 h2 => h.block i h1 fun e => h2 e.symm⟩
theorem Kpt.below {M : Nat} (h : Kpt R a b) (hM : M ≤ a.heap.size) (hR : ∀ k, R k → M ≤ k) : Below M a b := ⟨h.os, h.tape, h.output, h.size, fun i h1 => h.block i (Nat.lt_of_lt_of_le h1 hM) fun e => by have := hR i e; omega⟩
theorem Kpt.drewN (h : Kpt R a b) (n : Nat) : Kpt R a (b.drewN n) := ⟨h.os, h.tape, h.output, h.size, h.block⟩
theorem Kpt.drew (h : Kpt R a b) : Kpt R a b.drew := ⟨h.os, h.tape, h.output, h.size, h.block⟩
theorem Kpt.alloc (h : Kpt R a b) (o : Obj) : Kpt R a (b.alloc o) := h.trans (Kpt.of_below (below_alloc b o))
theorem Kpt.step (h : Kpt R a b) (hb : Below b.heap.size b c) : Kpt R a c := h.trans (Kpt.of_below hb)
theorem Kpt.setCell {q i : Nat} {u : Value} (h : Kpt R a b) (hq : q < a.heap.size → R q) : Kpt R a (b.setCell ⟨q, i, none⟩ u) :=
  ⟨h.os, h.tape, h.output, by have := h.size; simpa [World.setCell] using this, fun k hk hr => by
    rw [Below.heap_setCell b ⟨q, i, none⟩ u k (fun e => hr (by have e : k = q := e; subst e; exact hq hk))]
    exact h.block k hk hr⟩
theorem Kpt.at {k : Nat} {o : Obj} (h : Kpt R a b) (hk : a.heap[k]? = some o) (hR : ¬ R k) : b.heap[k]? = some o := (h.block k (Array.getElem?_eq_some_iff.1 hk).1 hR).trans hk
theorem Kpt.cell {p : Addr} (h : Kpt R a b) (hp : p.block < a.heap.size) (hR : ¬ R p.block) : b.cell? p = a.cell? p := World.cell?_of_block (w := a) (h.block _ hp hR)
end
theorem heap_set {w : World} {g k : Nat} {cur : Array Value} {t : TypeId} {fr : Nat × Nat} (u : Value) (h : w.heap[g]? = some (.cells cur t fr)) : (w.setCell ⟨g, k, none⟩ u).heap[g]? = some (.cells (cur.setIfInBounds k u) t fr) := by
  simp [World.setCell, Array.getElem?_modify, h]

/-- the value v is a slice of ints, xs, in a row of the call's own (at whatever place of it), or nil -/
def WRow (W : World) (base : Nat) (v : Value) (xs : List Int) : Prop :=
  (v = .slice none 0 0 ∧ xs = []) ∨ ∃ g off cap cur, v = .slice (some ⟨g, off, none⟩) xs.length cap ∧ base ≤ g ∧ W.heap[g]? = some (.cells cur 3 (0, 0)) ∧ xs.length ≤ cap ∧ cap ≤ maxLen ∧ off + cap ≤ cur.size ∧ (cur.toList.drop off).take xs.length = ints xs
section
variable {W W' : World} {base : Nat} {v : Value} {xs : List Int}
theorem WRow.nil (W : World) (base : Nat) : WRow W base (.slice none 0 0) [] := .inl ⟨rfl, rfl⟩
theorem WRow.form (h : WRow W base v xs) : ∃ A c, v = .slice A xs.length c ∧ Rd W W.heap.size 1 A xs.length (ints xs) := by
  rcases h with ⟨rfl, rfl⟩ | ⟨g, off, cap, cur, rfl, hb, hg, hn, hc, hs, hx⟩
  · exact ⟨none, 0, rfl, Rd.nil⟩
  · refine ⟨_, _, rfl, by rw [ints_len]; omega, fun _ => ⟨_, rfl, (Array.getElem?_eq_some_iff.1 hg).1, fun j u hu => ?_⟩⟩
    rw [addr_lit, cell_of_row W g _ cur _ _ hg, ← Array.getElem?_toList]
    have hj : j < xs.length := by have := (List.getElem?_eq_some_iff.1 hu).1; rwa [ints_len] at this
    rw [← hx, List.getElem?_take, if_pos hj, List.getElem?_drop] at hu
    exact hu
theorem WRow.of_own {n : Nat} (h : W.ownsRow base 3 1 v n (ints xs)) : WRow W base v xs := by
  have hl := h.1
  rw [ints_len] at hl
  have hl : xs.length = n := by omega
  subst hl
  rcases h.2 with ⟨rfl, h0⟩ | ⟨g, cap, cur, rfl, hb, hg, hn, hc, hs, hx⟩
  · exact .inl ⟨rfl, List.eq_nil_of_length_eq_zero h0⟩
  · exact .inr ⟨g, 0, cap, cur, rfl, hb, hg, hn, hc, by omega, by rw [List.drop_zero]; rw [Nat.mul_one] at hx; exact hx⟩
theorem WRow.lt (h : WRow W base v xs) : ∀ k, v.ownBlock = some k → base ≤ k ∧ k < W.heap.size := by
  intro k hk
  rcases h with ⟨rfl, rfl⟩ | ⟨g, off, cap, cur, rfl, hb, hg, _⟩
  · cases hk
  · have e : g = k := by simpa [Value.ownBlock] using hk
    subst e
    exact ⟨hb, (Array.getElem?_eq_some_iff.1 hg).1⟩
theorem WRow.ne (h : WRow W base v xs) {q : Nat} {C : Array Value} {t : TypeId} {fr : Nat × Nat} (hq : W.heap[q]? = some (.cells C t fr)) (ht : t ≠ 3) : v.ownBlock ≠ some q := by
  intro hk
  rcases h with ⟨rfl, rfl⟩ | ⟨g, off, cap, cur, rfl, hb, hg, _⟩
  · cases hk
  · have e : g = q := by simpa [Value.ownBlock] using hk
    subst e
    rw [hg] at hq
    injection hq with hq
    injection hq with _ hq
    exact ht hq.symm
theorem WRow.keep {R : Nat → Prop} (h : WRow W base v xs) (hk : Kpt R W W') (hd : ∀ k, v.ownBlock = some k → ¬ R k) : WRow W' base v xs := by
  rcases h with ⟨rfl, rfl⟩ | ⟨g, off, cap, cur, rfl, hb, hg, r⟩
  · exact .inl ⟨rfl, rfl⟩
  · exact .inr ⟨g, off, cap, cur, rfl, hb, hk.at hg (hd g rfl), r⟩
theorem WRow.step (h : WRow W base v xs) (hb : Below W.heap.size W W') : WRow W' base v xs := h.keep (R := fun _ => False) (Kpt.of_below hb) fun _ _ e => e
theorem WRow.mono {base' : Nat} (h : WRow W base v xs) (hb : base' ≤ base) : WRow W base' v xs := by
  rcases h with ⟨rfl, rfl⟩ | ⟨g, off, cap, cur, rfl, h1, r⟩
  · exact .inl ⟨rfl, rfl⟩
  · exact .inr ⟨g, off, cap, cur, rfl, by omega, r⟩
end
/-- the row of v' is that of v, or was made since w -/
def Nxt (w : World) (v v' : Value) : Prop := ∀ k, v'.ownBlock = some k → v.ownBlock = some k ∨ w.heap.size ≤ k
theorem Nxt.refl (w : World) (v : Value) : Nxt w v v := fun _ h => .inl h
theorem Nxt.trans {w w' : World} {v v' v'' : Value} (h : Nxt w v v') (hs : w.heap.size ≤ w'.heap.size) (k : Nxt w' v' v'') : Nxt w v v'' := fun i hi => by
  rcases k i hi with k | k
  · exact h i k
  · exact .inr (by omega)
theorem Nxt.old {w : World} {v v' : Value} {k : Nat} (h : Nxt w v v') (hk : v'.ownBlock = some k) (hl : k < w.heap.size) : v.ownBlock = some k := by
  rcases h k hk with h | h
  · exact h
  · omega
theorem dj_nxt {w : World} {v v' u : Value} (hd : ∀ k, v.ownBlock = some k → u.ownBlock ≠ some k) (hl : ∀ k, u.ownBlock = some k → k < w.heap.size) (h : Nxt w v v') : ∀ k, v'.ownBlock = some k → u.ownBlock ≠ some k := fun k hk e =>
  hd k (h.old hk (hl k e)) e
theorem Tryd.infoInt : (Tryd.prog.info? 3).map (fun i => (i.zero, i.size, i.bytes)) = some (some (.int .i64 0), 1, 8) := by kernel_rfl
theorem run_appW (w : World) (ty : TypeId) (base : Nat) (v : Value) (xs : List Int) (x : Int) (hv : WRow w base v xs) (hn : xs.length + 1 ≤ 1099511627776) (hbase : base ≤ w.heap.size) :
    ∃ v' w', (Builtin.append_ #[40, 40] ty #[v, .slice (some ⟨w.heap.size, 0, none⟩) 1 1]).run Tryd.prog (w.alloc (.cells #[.int .i64 x] 3)) = .ok v' w' ∧ WRow w' base v' (xs ++ [x]) ∧ Kpt (fun k => v.ownBlock = some k) w w' ∧ Nxt w v v' := by
  obtain ⟨i0, hi, hz0, hz1, hz2⟩ := info_parts Tryd.infoInt
  have hnews : ∀ j u, ([.int .i64 x] : List Value)[j]? = some u → (w.alloc (.cells #[.int .i64 x] 3)).cell? ((⟨w.heap.size, 0, none⟩ : Addr).add j) = some u := World.news_of_block (heap_alloc_new w _)
  have h1 : ∀ u ∈ ([.int .i64 x] : List Value), u.oneCell' = true := by intro u hu; simp at hu; subst hu; rfl
  have hsz : (w.alloc (.cells #[.int .i64 x] 3)).heap.size = w.heap.size + 1 := by simp
  have hk1 : Kpt (fun k => v.ownBlock = some k) w (w.alloc (.cells #[.int .i64 x] 3)) := (Kpt.refl _ w).alloc _
  have e1 : ints xs ++ [.int .i64 x] = ints (xs ++ [x]) := by simp [ints]
  rcases hv with ⟨rfl, rfl⟩ | ⟨g, off, cap, cur, rfl, hb, hg, hnc, hc, hs, hx⟩
  · obtain ⟨v', w', hr, h2, h3, _, h5⟩ := run_append_own_at (P := Tryd.prog) (w.alloc (.cells #[.int .i64 x] 3)) base 40 ty 3 i0 (.int .i64 0) 1 8 Tryd.underlying40 hi hz0 hz1 hz2 rfl (by decide) (.slice none 0 0) 0 [] (World.ownsRow_nil ..) ⟨w.heap.size, 0, none⟩ 1 1 [.int .i64 x] rfl hnews h1 (by decide) (by decide) (by omega)
    refine ⟨v', w', hr, WRow.of_own (n := 0 + 1) h2, hk1.trans2 (Kpt.of_grown h3) (fun i _ e => e), ?_⟩
    intro k hk
    rcases h5 with h5 | h5
    · rw [h5] at hk; exact .inl hk
    · rw [h5] at hk; injection hk with hk; exact .inr (by omega)
  · have hg1 : (w.alloc (.cells #[.int .i64 x] 3)).heap[g]? = some (.cells cur 3 (0, 0)) := by rw [Below.heap_alloc _ _ _ (Array.getElem?_eq_some_iff.1 hg).1]; exact hg
    by_cases hroom : xs.length + 1 ≤ cap
    · have hlt : off + xs.length < cur.size := by omega
      have hrun := run_append_room_cells (P := Tryd.prog) (w.alloc (.cells #[.int .i64 x] 3)) 40 ty 3 i0 Tryd.underlying40 hi g off xs.length cap ⟨w.heap.size, 0, none⟩ 1 1 [.int .i64 x] (by rw [hz1]; rfl) hnews h1 hroom
        (fun j hj => by
          have : j = 0 := by simpa using hj
          subst this
          rw [cell_of_row _ g _ cur _ _ hg1, hz1]; simp; omega)
        (fun j hj => by simp [World.frozen?, hg1])
      rw [hz1, Nat.mul_one] at hrun
      refine ⟨_, _, hrun, .inr ⟨g, off, cap, cur.setIfInBounds (off + xs.length) (.int .i64 x), by rw [List.length_append]; rfl, hb, heap_set _ hg1, by rw [List.length_append, List.length_singleton]; exact hroom, hc, by rw [Array.size_setIfInBounds]; exact hs, ?_⟩, hk1.setCell (fun _ => rfl), fun k hk => .inl hk⟩
      rw [← e1, ← hx, List.length_append, List.length_singleton, Array.toList_setIfInBounds, show (cur.toList.set (off + xs.length) (.int .i64 x)).drop off = (cur.toList.drop off).set xs.length (.int .i64 x) from List.set_drop.symm]
      have hl : xs.length < (cur.toList.drop off).length := by have e := Array.length_toList (xs := cur); rw [List.length_drop]; omega
      rw [List.take_succ_eq_append_getElem (by rw [List.length_set]; exact hl), List.getElem_set_self, List.take_set_of_le (Nat.le_refl _)]
    · obtain ⟨v', w', hr, h2, h3⟩ := run_append_arg_grows (P := Tryd.prog) (w.alloc (.cells #[.int .i64 x] 3)) 40 ty 3 i0 (.int .i64 0) 1 8 Tryd.underlying40 hi hz0 hz1 hz2 rfl (by decide) ⟨g, off, none⟩ xs.length cap (ints xs) (by rw [ints_len]; omega)
        (fun j u hu => by
          rw [addr_lit, cell_of_row _ g _ cur _ _ hg1, ← Array.getElem?_toList]
          have hj : j < xs.length := by have := (List.getElem?_eq_some_iff.1 hu).1; rwa [ints_len] at this
          rw [← hx, List.getElem?_take, if_pos hj, List.getElem?_drop] at hu
          exact hu)
        ⟨w.heap.size, 0, none⟩ 1 1 [.int .i64 x] rfl hnews (by omega) (by simp only [maxLen]; omega) (by omega)
      rw [e1] at h2
      obtain ⟨g', cap', rfl, hge, _⟩ := h2.form (by omega)
      refine ⟨_, w', hr, (WRow.of_own h2).mono (by omega), hk1.trans2 (Kpt.of_grown h3) (fun i _ e => by cases e), fun k hk => .inr ?_⟩
      have e : g' = k := by simpa [Value.ownBlock] using hk
      omega
/-- an int appended, as one operation of a plain region -/
theorem wpList_appW {ops : Array Oper} {rest : List Oper} {o : Oper} {a : Act} {Q : Exit → Act → World → Prop} (hgd : o.guard = none) (s y : Operand)
    (ho : o.op = .call { callee := .builtin .append, args := #[s, y], argTypes := #[40, 40] })
    (wr : World) (base : Nat) (v : Value) (xs : List Int) (x : Int) (hv : WRow wr base v xs) (hs : a.eval s = v) (hy : a.eval y = .slice (some ⟨wr.heap.size, 0, none⟩) 1 1) (hn : xs.length + 1 ≤ 1099511627776) (hbase : base ≤ wr.heap.size)
    (h : ∀ v' w', WRow w' base v' (xs ++ [x]) → Kpt (fun k => v.ownBlock = some k) wr w' → Nxt wr v v' → wpList Tryd.prog ops Q rest (a.put o.dst v') w') :
    wpList Tryd.prog ops Q (o :: rest) a (wr.alloc (.cells #[.int .i64 x] 3)) :=
  wpList_plain hgd fun _ hK => by
    obtain ⟨v', w', hr, h1, h2, h3⟩ := run_appW wr o.type base v xs x hv hn hbase
    unfold Oper.wp execOp
    simp only [ho, resolve, invoke, builtin, Sem.run_bind, Sem.run_pure, Result.andThen_ok, List.map_toArray, List.map_cons, List.map_nil, hs, hy, hr]
    exact hK _ _ (h v' w' h1 h2 h3)
end Go.Proofs.YtpgpkgpiengmkaaDoor
