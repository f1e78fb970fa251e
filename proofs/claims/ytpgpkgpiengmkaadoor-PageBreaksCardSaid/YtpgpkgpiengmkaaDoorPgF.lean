/-
  Layer 40 (page): the program's filler: fits, place, early.
-/
import Derived.Test.YtpgpkgpiengmkaaDoorPgW
import Derived.Test.YtpgpkgpiengmkaaDoorPgP
import Derived.Deep.RegionHeld3
import Derived.Deep.CutRange
namespace Go.Proofs.YtpgpkgpiengmkaaDoor
open Go.RowKit
set_option linter.unusedVariables false
set_option linter.unusedSimpArgs false
attribute [local go_sem] B_data B_size

/-- a filler in its block -/
def FB (q : Nat) (vB : Value) (ht : Int) (vL : Value) (W : World) : Prop := W.heap[q]? = some (.cells #[vB, .int .i64 ht, vL] 50 (0, 0))
section
variable {q : Nat} {vB vL u : Value} {ht x : Int} {W W' : World}
theorem FB.c0 (h : FB q vB ht vL W) : W.cell? ⟨q, 0, none⟩ = some vB := by unfold FB at h; simp [World.cell?, h]
theorem FB.c1 (h : FB q vB ht vL W) : W.cell? ⟨q, 1, none⟩ = some (.int .i64 ht) := by unfold FB at h; simp [World.cell?, h]
theorem FB.c2 (h : FB q vB ht vL W) : W.cell? ⟨q, 2, none⟩ = some vL := by unfold FB at h; simp [World.cell?, h]
theorem FB.ff {i : Nat} (h : FB q vB ht vL W) : W.frozen? ⟨q, i, none⟩ = false := by unfold FB at h; simp [World.frozen?, h]
theorem FB.lt (h : FB q vB ht vL W) : q < W.heap.size := (Array.getElem?_eq_some_iff.1 h).1
theorem FB.keep {R : Nat → Prop} (h : FB q vB ht vL W) (hk : Kpt R W W') (hR : ¬ R q) : FB q vB ht vL W' := hk.at h hR
theorem FB.step (h : FB q vB ht vL W) (hb : Below W.heap.size W W') : FB q vB ht vL W' := (hb.block q h.lt).trans h
theorem FB.alloc (h : FB q vB ht vL W) (o : Obj) : FB q vB ht vL (W.alloc o) := h.step (below_alloc W o)
theorem FB.set0 (h : FB q vB ht vL W) : FB q u ht vL (W.setCell ⟨q, 0, none⟩ u) := by unfold FB at *; rw [heap_set u h]; rfl
theorem FB.set1 (h : FB q vB ht vL W) : FB q vB x vL (W.setCell ⟨q, 1, none⟩ (.int .i64 x)) := by unfold FB at *; rw [heap_set _ h]; rfl
theorem FB.set2 (h : FB q vB ht vL W) : FB q vB ht u (W.setCell ⟨q, 2, none⟩ u) := by unfold FB at *; rw [heap_set u h]; rfl
end
def BlPost (r : Bool) (w : World) (e : Ending) (w' : World) : Prop := e = .returned (.bool r) ∧ Below w.heap.size w w'
set_option maxHeartbeats 4000000 in
set_option maxRecDepth 100000 in
theorem fits_any (q : Nat) (vB vL : Value) (ht H : Int) (b : Bx) (w : World) (hq : FB q vB ht vL w) (h0 : 0 ≤ ht) (h1 : ht ≤ 1099511627776) (h2 : 0 ≤ b.h) (h3 : b.h ≤ 1048576) :
    Calls Tryd.prog 43 #[.pointer (some ⟨q, 0, none⟩), .agg #[.string (B b.tx), .int .i64 b.h, .int .i64 b.g, .bool b.kp, .bool b.fl, .slice b.A b.na b.ca], .int .i64 H] w (BlPost (decide (ht + b.h ≤ H)) w) := by
  have hA := hq.alloc (.cells #[.string (B b.tx), .int .i64 b.h, .int .i64 b.g, .bool b.kp, .bool b.fl, .slice b.A b.na b.ca] 45)
  have hb := below_alloc w (.cells #[.string (B b.tx), .int .i64 b.h, .int .i64 b.g, .bool b.kp, .bool b.fl, .slice b.A b.na b.ca] 45)
  have d1 := hA.c1
  clear hA hq
  go_enter Tryd.func43, Tryd.ntmps43
  go_wp2
  go_quiet (fail)
  go_wp2
  go_ret
  exact ⟨rfl, below_drewN hb _⟩
theorem wrap_in {x : Int} (h : -9223372036854775808 ≤ x) (h2 : x < 9223372036854775808) : IntKind.i64.wrap x = x := by
  unfold IntKind.wrap
  simp [IntKind.signed, IntKind.bits]
  omega
/-- what placing a box leaves -/
def PlPost (q : Nat) (vB vL : Value) (ht : Int) (bx : List Int) (base : Nat) (w : World) (e : Ending) (w' : World) : Prop :=
  e = .returned (.tuple #[]) ∧ ∃ vB', FB q vB' ht vL w' ∧ WRow w' base vB' bx ∧ Kpt (fun k => k = q ∨ vB.ownBlock = some k) w w' ∧ Nxt w vB vB'
theorem ne_int : 50 ≠ 3 := by decide
set_option maxHeartbeats 4000000 in
set_option maxRecDepth 100000 in
theorem place_any (A : Option Addr) (n c M : Nat) (l : List Bx) (i : Nat) (b : Bx) (q : Nat) (vB vL : Value) (ht : Int) (bx : List Int) (base : Nat) (w : World) (hx : BxAt w M A n l) (hi : l[i]? = some b)
    (hM : M ≤ base) (hMq : M ≤ q) (hbw : base ≤ w.heap.size) (hq : FB q vB ht vL w) (hB : WRow w base vB bx) (hn : bx.length ≤ 1000000) (h0 : 0 ≤ ht) (h1 : ht ≤ 1099511627776) (h2 : 0 ≤ b.h) (h3 : b.h ≤ 1048576) :
    Calls Tryd.prog 44 #[.pointer (some ⟨q, 0, none⟩), .slice A n c, .int .i64 i] w (PlPost q vB vL (ht + b.h) (bx ++ [(i : Int)]) base w) := by
  have HL := Lib.hid hx.len
  have hin : i < n := by rw [← HL.out]; exact (List.getElem?_eq_some_iff.1 hi).1
  have hne := hB.ne hq ne_int
  have hnR : ∀ k, vB.ownBlock = some k → M ≤ k := fun k hk => by have := (hB.lt k hk).1; omega
  have c0 := hq.c0
  go_enter Tryd.func44, Tryd.ntmps44
  go_wp2_with (at_builtin; refine wpList_appW rfl _ _ rfl w base vB bx (i : Int) hB rfl rfl (by omega) hbw ?_)
  intro vB' w1 hB1 hk1 hn1
  obtain ⟨A', c', rfl, _⟩ := hB1.form
  generalize (bx ++ [(i : Int)]).length = m' at *
  have hq1 : FB q vB ht vL w1 := hq.keep hk1 hne
  have hb1 : Below M w w1 := hk1.below (by omega) hnR
  have hk2 : Kpt (fun k => k = q ∨ vB.ownBlock = some k) w (w1.setCell ⟨q, 0, none⟩ (.slice A' m' c')) := (hk1.mono (fun _ _ e => .inr e)).setCell (fun _ => .inl rfl)
  have hq2 : FB q (.slice A' m' c') ht vL (w1.setCell ⟨q, 0, none⟩ (.slice A' m' c')) := hq1.set0
  have hb2 : Below M w (w1.setCell ⟨q, 0, none⟩ (.slice A' m' c')) := hb1.setCell hMq _
  have hne2 : (Value.slice A' m' c').ownBlock ≠ some q := by
    intro e
    rcases hn1 q e with h | h
    · exact hne h
    · have := hq.lt; omega
  have hB2 : WRow (w1.setCell ⟨q, 0, none⟩ (.slice A' m' c')) base (.slice A' m' c') (bx ++ [(i : Int)]) := hB1.keep (R := fun k => k = q) ((Kpt.refl _ w1).setCell (fun _ => rfl)) (fun k hk e => hne2 (by rw [hk, e]))
  obtain ⟨g, o, rfl, hg, _, e1, _, _, _, _⟩ := (hx.below hb2).at6 hi
  have z0 := hq1.c0
  have zf := hq1.ff (i := 0)
  have d1 := hq2.c1
  have df := hq2.ff (i := 1)
  have i1 : (0 : Int) ≤ (i : Int) := by omega
  have i2 : (i : Int) < (n : Int) := by omega
  have HK2 := Lib.hid hk2
  have HQ2 := Lib.hid hq2
  have HB2 := Lib.hid hB2
  clear hk1 hb1 hk2 hb2 hB2 hB1 hq1 hq hB hne hnR hx c0
  go_wp2
  go_region_with (fail)
  all_goals
    have hw : IntKind.i64.wrap (ht + b.h) = ht + b.h := wrap_in (by omega) (by omega)
    rw [hw]
    go_wp2
    go_end0
    exact ⟨rfl, _, (HQ2.out.set1 (x := ht + b.h)), HB2.out.keep (R := fun k => k = q) ((Kpt.refl (fun k => k = q) _).setCell (fun _ => rfl)).drew (fun k hk e => hne2 (by rw [hk, e])), (HK2.out.setCell (fun _ => .inl rfl)).drew, hn1⟩
end Go.Proofs.YtpgpkgpiengmkaaDoor
