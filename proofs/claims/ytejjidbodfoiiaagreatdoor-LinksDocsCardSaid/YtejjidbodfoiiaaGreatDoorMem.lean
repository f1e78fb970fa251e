/-
  Words for memory: a slice that reads as a list of cells below a block number; strings as cells; one element appended to a row of the call's own; what is kept over each step.
-/
import Derived.Test.YtejjidbodfoiiaaGreatDoorBytes
import Derived.Laws.OwnMore
import Derived.Deep.AppendLies
import Derived.Deep.Draws
import Derived.Deep.QuietTactic
import Derived.BigQuiet
import Derived.OwnWalk
import Derived.Maps.AppendAt
import Derived.RegionTactic
namespace Go.Proofs.YtejjidbodfoiiaaGreatDoor
set_option linter.unusedSimpArgs false
open Go.RowKit
set_option linter.unusedVariables false

theorem addr_block (a : Addr) (n : Nat) : (a.add n).block = a.block := by unfold Addr.add; split <;> rfl
theorem addr_add (a : Addr) (i j : Nat) : (a.add i).add j = a.add (i + j) := by
  unfold Addr.add
  by_cases hi : i = 0 <;> by_cases hj : j = 0 <;> simp [hi, hj, Nat.add_assoc]

/-- The slice value of length n at A, of elements of sz cells, holds the cells xs and lies below block M. -/
def Rd (w : World) (M sz : Nat) (A : Option Addr) (n : Nat) (xs : List Value) : Prop :=
  xs.length = n * sz ∧ (0 < n → ∃ ad, A = some ad ∧ ad.block < M ∧ ∀ j u, xs[j]? = some u → w.cell? (ad.add j) = some u)

section
variable {w w' : World} {M M' sz n : Nat} {A : Option Addr} {xs : List Value}
theorem Rd.nil : Rd w M sz A 0 [] := ⟨by simp, fun h => absurd h (by omega)⟩
theorem Rd.at1 {k : Nat} (h : Rd w M 1 A n xs) (hk : k < n) : ∃ ad u, A = some ad ∧ ad.block < M ∧ xs[k]? = some u ∧ w.cell? (ad.add k) = some u := by
  obtain ⟨ad, e, hb, hc⟩ := h.2 (by omega)
  have hl : k < xs.length := by have := h.1; omega
  exact ⟨ad, xs[k], e, hb, List.getElem?_eq_getElem hl, hc k _ (List.getElem?_eq_getElem hl)⟩
theorem Rd.keep (h : Rd w M sz A n xs) (hk : ∀ p : Addr, p.block < M → w'.cell? p = w.cell? p) : Rd w' M sz A n xs :=
  ⟨h.1, fun hn => by
    obtain ⟨ad, e, hb, hc⟩ := h.2 hn
    exact ⟨ad, e, hb, fun j u hu => (hk _ (by rw [addr_block]; exact hb)).trans (hc j u hu)⟩⟩
theorem Rd.more (h : Rd w M sz A n xs) (hM : M ≤ M') : Rd w M' sz A n xs :=
  ⟨h.1, fun hn => by
    obtain ⟨ad, e, hb, hc⟩ := h.2 hn
    exact ⟨ad, e, by omega, hc⟩⟩
theorem Rd.below (h : Rd w M sz A n xs) (hb : Below M w w') : Rd w' M sz A n xs := h.keep fun _ hp => hb.cell hp
theorem Rd.of_own {base : Nat} {e : TypeId} {c : Nat} (h : w.ownsRow base e sz (.slice A n c) n xs) : Rd w w.heap.size sz A n xs := by
  refine ⟨h.1, fun hn => ?_⟩
  rcases h.2 with ⟨h0, h1⟩ | ⟨g, cap, cur, hv, _, hg, _⟩
  · omega
  · have hA : A = some ⟨g, 0, none⟩ := by injection hv
    subst hA
    exact ⟨_, rfl, (Array.getElem?_eq_some_iff.1 hg).1, h.cells (g := g) rfl⟩
end

/-- strings, as cells -/
def strs (ls : List (List UInt8)) : List Value := ls.map fun l => .string (B l)
theorem strs_len (ls : List (List UInt8)) : (strs ls).length = ls.length := by simp [strs]
theorem strs_at {ls : List (List UInt8)} {k : Nat} {u : Value} (h : (strs ls)[k]? = some u) : u = .string (B (ls.getD k [])) := by
  unfold strs at h
  rw [List.getElem?_map] at h
  cases hk : ls[k]? with
  | none => simp [hk] at h
  | some l => simp [hk] at h; simp [hk, h]
theorem Rd.str {w : World} {M n k : Nat} {A : Option Addr} {ls : List (List UInt8)} (h : Rd w M 1 A n (strs ls)) (hk : k < n) :
    ∃ ad, A = some ad ∧ w.cell? (ad.add k) = some (.string (B (ls.getD k []))) := by
  obtain ⟨ad, u, e, _, hx, hc⟩ := h.at1 hk
  exact ⟨ad, e, by rw [hc, strs_at hx]⟩
theorem Rd.strs_length {w : World} {M n : Nat} {A : Option Addr} {ls : List (List UInt8)} (h : Rd w M 1 A n (strs ls)) : ls.length = n := by
  have := h.1; rw [strs_len] at this; omega


theorem below_drewN {M : Nat} {a w : World} (h : Below M a w) (n : Nat) : Below M a (w.drewN n) := ⟨h.os, h.tape, h.output, h.size, h.block⟩
theorem below_of_drewN (M : Nat) (w : World) (n : Nat) : Below M w (w.drewN n) := below_drewN (Below.refl _ _) n
theorem grown_trans {a b c : World} {row : Option Nat} (h : a.grownBy b row) (k : b.grownBy c row) : a.grownBy c row :=
  ⟨k.os.trans h.os, k.tape.trans h.tape, k.output.trans h.output, Nat.le_trans h.size k.size, fun i hi hne => (k.block i (Nat.lt_of_lt_of_le hi h.size) hne).trans (h.block i hi hne)⟩
theorem grown_of_below {a w : World} (h : Below a.heap.size a w) (row : Option Nat) : a.grownBy w row := ⟨h.os, h.tape, h.output, h.size, fun i hi _ => h.block i hi⟩
theorem below_of_grown {a w : World} {row : Option Nat} {M : Nat} (h : a.grownBy w row) (hM : M ≤ a.heap.size) (hr : ∀ k, row = some k → M ≤ k) : Below M a w :=
  (Below.refl _ _).grown h hM hr

/-- One element, of the cells us, appended to a row of the call's own (nil, with room or without). -/
theorem wpList_app {P : Program} {ops : Array Oper} {rest : List Oper} {o : Oper} {a : Act} {Q : Exit → Act → World → Prop} (hgd : o.guard = none) (s x : Operand) (t : TypeId)
    (ho : o.op = .call { callee := .builtin .append, args := #[s, x], argTypes := #[t, t] })
    (e : TypeId) (z : Value) (sz bytes : Nat) (ht : P.underlying t = some (.slice e)) (hinf : (P.info? e).map (fun i => (i.zero, i.size, i.bytes)) = some (some z, sz, bytes))
    (hzs : z.cells.size = sz) (hsz : 0 < sz) (wr : World) (us : List Value) (hl : us.length = sz) (hu : ∀ u ∈ us, u.oneCell' = true)
    (base : Nat) (v : Value) (n : Nat) (xs : List Value) (hown : wr.ownsRow base e sz v n xs) (hs : a.eval s = v) (hx : a.eval x = .slice (some ⟨wr.heap.size, 0, none⟩) 1 1)
    (hn : n + 1 ≤ 1099511627776) (hbytes : bytes ≤ 128) (hbase : base ≤ wr.heap.size)
    (h : ∀ v' w', w'.ownsRow base e sz v' (n + 1) (xs ++ us) → wr.grownBy w' v.ownBlock → Below base wr w' → wpList P ops Q rest (a.put o.dst v') w') :
    wpList P ops Q (o :: rest) a (wr.alloc (.cells us.toArray e)) := by
  obtain ⟨i0, hi, hz0, hz1, hz2⟩ := info_parts hinf
  refine wpList_append_own _ hgd s x t ho base e i0 z sz bytes ht hi hz0 hz1 hz2 hzs hsz v n xs hs (hown.alloc _) ⟨wr.heap.size, 0, none⟩ 1 1 us hx (by rw [hl, Nat.one_mul]) ?_ hu (by simp only [maxLen]; omega) ?_ (by simp; omega) ?_
  · intro j u hj
    have hlt : j < us.length := (List.getElem?_eq_some_iff.1 hj).1
    have e1 : (⟨wr.heap.size, 0, none⟩ : Addr).add j = ⟨wr.heap.size, j, none⟩ := by unfold Addr.add; split <;> simp_all
    rw [e1, cell_of_row (wr.alloc (.cells us.toArray e)) wr.heap.size j us.toArray e (0, 0) (heap_alloc_new wr _)]
    simpa using hj
  · have : (n + 1) * bytes ≤ 1099511627776 * 128 := Nat.mul_le_mul hn hbytes
    omega
  · intro v' w' h1 h2 _
    have hg : wr.grownBy w' v.ownBlock := grown_trans (World.grownBy_alloc wr _ _) h2
    exact h v' w' h1 hg (below_of_grown hg hbase fun k hk => (hown.lt k hk).1)

theorem run_app_nil {P : Program} (w : World) (base : Nat) (t ty e : TypeId) (i : TypeInfo) (sz : Nat) (ht : P.underlying t = some (.slice e)) (hi : P.info? e = some i)
    (v : Value) (n : Nat) (xs : List Value) (hown : w.ownsRow base e sz v n xs) (c : Nat) : (Builtin.append_ #[t, t] ty #[v, .slice none 0 c]).run P w = .ok v w := by
  rcases hown.2 with ⟨rfl, rfl⟩ | ⟨g, cap, cur, rfl, _, _, hnc, _⟩
  · simp [Builtin.append_, run_underlying ht, sizeOf, typeInfo, hi, Builtin.lenOf, Builtin.firstCells]
  · simp [Builtin.append_, run_underlying ht, sizeOf, typeInfo, hi, Builtin.lenOf, Builtin.firstCells, hnc, storeCells]

/-- A slice (nil, empty or not) appended to a row of the call's own. -/
theorem wpList_apps {P : Program} {ops : Array Oper} {rest : List Oper} {o : Oper} {a : Act} {Q : Exit → Act → World → Prop} (hgd : o.guard = none) (s x : Operand) (t : TypeId)
    (ho : o.op = .call { callee := .builtin .append, args := #[s, x], argTypes := #[t, t] })
    (e : TypeId) (z : Value) (sz bytes : Nat) (ht : P.underlying t = some (.slice e)) (hinf : (P.info? e).map (fun i => (i.zero, i.size, i.bytes)) = some (some z, sz, bytes))
    (hzs : z.cells.size = sz) (hsz : 0 < sz) (w : World) (base : Nat) (v : Value) (n : Nat) (xs : List Value) (hown : w.ownsRow base e sz v n xs) (hs : a.eval s = v)
    (M : Nat) (A : Option Addr) (m c : Nat) (us : List Value) (hr : Rd w M sz A m us) (hx : a.eval x = .slice A m c) (hu : ∀ u ∈ us, u.oneCell' = true)
    (hn : n + m ≤ 1099511627776) (hbytes : bytes ≤ 128) (hbase : base ≤ w.heap.size)
    (h : ∀ v' w', w'.ownsRow base e sz v' (n + m) (xs ++ us) → w.grownBy w' v.ownBlock → Below base w w' → wpList P ops Q rest (a.put o.dst v') w') :
    wpList P ops Q (o :: rest) a w := by
  obtain ⟨i0, hi, hz0, hz1, hz2⟩ := info_parts hinf
  rcases A with _ | ad
  · have hm : m = 0 := by
      rcases Nat.eq_zero_or_pos m with h0 | h0
      · exact h0
      · obtain ⟨ad, h, _⟩ := hr.2 h0
        cases h
    subst hm
    have hn : us = [] := List.eq_nil_of_length_eq_zero (by simpa using hr.1)
    subst hn
    refine wpList_plain hgd fun K hK => ?_
    have hrun := run_app_nil (P := P) w base t o.type e i0 sz ht hi v n xs hown c
    unfold Oper.wp
    simp [execOp, ho, resolve, invoke, builtin, hs, hx, hrun, Result.andThen]
    exact hK _ _ (h v w (by simpa using hown) (World.grownBy.refl w _) (Below.refl _ _))
  · refine wpList_append_own _ hgd s x t ho base e i0 z sz bytes ht hi hz0 hz1 hz2 hzs hsz v n xs hs hown ad m c us hx hr.1 ?_ hu (by simp only [maxLen]; omega) ?_ hbase ?_
    · intro j u hj
      rcases Nat.eq_zero_or_pos m with h0 | h0
      · subst h0
        have hn : us = [] := List.eq_nil_of_length_eq_zero (by simpa using hr.1)
        subst hn
        simp at hj
      · obtain ⟨ad', h, _, hc⟩ := hr.2 h0
        injection h with h
        subst h
        exact hc j u hj
    · have : (n + m) * bytes ≤ 1099511627776 * 128 := Nat.mul_le_mul hn hbytes
      omega
    · intro v' w' h1 h2 _
      exact h v' w' h1 h2 (below_of_grown h2 hbase fun k hk => (hown.lt k hk).1)
theorem strs_one (ls : List (List UInt8)) : ∀ u ∈ strs ls, u.oneCell' = true := by
  intro u hu
  simp only [strs, List.mem_map] at hu
  obtain ⟨l, _, rfl⟩ := hu
  rfl

/-- What a value of a row reads. -/
theorem own_form {w : World} {base e sz n : Nat} {v : Value} {xs : List Value} (h : w.ownsRow base e sz v n xs) : ∃ A c, v = .slice A n c ∧ n ≤ c := by
  rcases h.2 with ⟨rfl, rfl⟩ | ⟨g, cap, cur, rfl, _, _, hc, _⟩
  · exact ⟨_, _, rfl, Nat.le_refl _⟩
  · exact ⟨_, _, rfl, hc⟩
theorem own_len {w : World} {base e sz n : Nat} {v : Value} {xs : List Value} (h : w.ownsRow base e sz v n xs) : n ≤ 9223372036854775807 := by
  rcases h.2 with ⟨_, rfl⟩ | ⟨g, cap, cur, _, _, _, hc, hm, _⟩
  · omega
  · unfold maxLen at hm; omega
theorem rd_of_open {w : World} {x : Addr} {l c : Nat} {ss : List ByteArray} (hl : l ≤ c) (hm : c ≤ maxLen) (hz : ss.length = c) (hcell : ∀ i, i < ss.length → w.cell? (x.add i) = some (.string (ss.getD i ByteArray.empty))) :
    ∃ ls, Rd w w.heap.size 1 (some x) l (strs ls) ∧ l ≤ maxLen := by
  refine ⟨(ss.take l).map ByteArray.toList, ⟨by simp [strs]; omega, fun h0 => ⟨x, rfl, ?_, fun j u hj => ?_⟩⟩, by omega⟩
  · have := World.block_lt_of_cell? w _ (hcell 0 (by omega))
    rwa [addr_block] at this
  · have e := strs_at hj
    have hj' : j < l := by
      have := (List.getElem?_eq_some_iff.1 hj).1
      simp [strs] at this; omega
    rw [e, hcell j (by omega)]
    have : ((ss.take l).map ByteArray.toList).getD j [] = (ss.getD j ByteArray.empty).toList := by
      simp [hj', show j < ss.length from by omega]
    rw [this, B_self]
theorem own_below {w w' : World} {base e sz n : Nat} {v : Value} {xs : List Value} (h : w.ownsRow base e sz v n xs) (hb : Below w.heap.size w w') : w'.ownsRow base e sz v n xs :=
  h.kept (grown_of_below hb none) (by cases hv : v.ownBlock <;> simp)
theorem own_more {w : World} {base base' e sz n : Nat} {v : Value} {xs : List Value} (h : w.ownsRow base e sz v n xs) (hb : base' ≤ base) : w.ownsRow base' e sz v n xs := by
  refine ⟨h.1, ?_⟩
  rcases h.2 with h0 | ⟨g, cap, cur, h1, h2, h3⟩
  · exact .inl h0
  · exact .inr ⟨g, cap, cur, h1, Nat.le_trans hb h2, h3⟩
theorem strs_snoc (ls : List (List UInt8)) (l : List UInt8) : strs ls ++ [.string (B l)] = strs (ls ++ [l]) := by simp [strs]
theorem strs_append (ls ms : List (List UInt8)) : strs ls ++ strs ms = strs (ls ++ ms) := by simp [strs]

theorem Tryz.info9 : (Tryz.prog.info? 9).map (fun i => (i.zero, i.size, i.bytes)) = some (some (.string ⟨#[]⟩), 1, 16) := by kernel_rfl

end Go.Proofs.YtejjidbodfoiiaaGreatDoor
