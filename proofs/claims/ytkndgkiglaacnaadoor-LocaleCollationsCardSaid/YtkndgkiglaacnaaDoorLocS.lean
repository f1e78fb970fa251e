/-
  Layer 28 (locale), the chapter's: rules; a collation that is being made.
-/
import Derived.Test.YtkndgkiglaacnaaDoorLocI
import Derived.Test.YtkndgkiglaacnaaDoorLocK
import Derived.Test.YtkndgkiglaacnaaDoorLocN
namespace Go.Proofs.YtkndgkiglaacnaaDoor
open Go.RowKit
set_option linter.unusedVariables false
set_option linter.unusedSimpArgs false
attribute [local go_sem] B_data B_size

def flatP (P : List (List UInt8 × List UInt8)) : List (List UInt8) := P.flatMap fun p => [p.1, p.2]
theorem flatP_len (P : List (List UInt8 × List UInt8)) : (flatP P).length = P.length * 2 := by
  induction P with
  | nil => rfl
  | cons a r ih => simp only [flatP, List.flatMap_cons, List.length_append, List.length_cons] at ih ⊢; simp only [ih, List.length_nil]; omega
theorem flatP_at {P : List (List UInt8 × List UInt8)} {p : List UInt8 × List UInt8} {k : Nat} (h : P[k]? = some p) : (flatP P)[2 * k]? = some p.1 ∧ (flatP P)[2 * k + 1]? = some p.2 := by
  induction P generalizing k with
  | nil => simp at h
  | cons a r ih =>
    cases k with
    | zero =>
      have e : a = p := by simpa using h
      subst e
      simp [flatP]
    | succ k =>
      have := ih (k := k) (by simpa using h)
      rw [show 2 * (k + 1) = 2 * k + 2 from by omega]
      simpa [flatP, List.flatMap_cons] using this
theorem rd_strH {w : World} {M n k : Nat} {A : Option Addr} {ls : List (List UInt8)} {x : List UInt8} (h : Rd w M 1 A n (strs ls)) (hk : ls[k]? = some x) :
    ∃ b o, A = some ⟨b, o, none⟩ ∧ b < M ∧ w.cell? ⟨b, o + k, none⟩ = some (.string (B x)) := by
  have hkl := (List.getElem?_eq_some_iff.1 hk).1
  obtain ⟨b, o, e, hb, hc⟩ := rd_strb h (k := k) (by rw [← h.strs_length]; exact hkl)
  refine ⟨b, o, e, hb, ?_⟩
  rw [hc]; simp [hk]
set_option maxHeartbeats 4000000 in
set_option maxRecDepth 100000 in
theorem rules_any (A : Option Addr) (n c : Nat) (P : List (List UInt8 × List UInt8)) (w : World) (hr : Rd w w.heap.size 1 A n (strs (flatP P))) (hn : n ≤ 1000) :
    Calls Tryd.prog 43 #[.slice A n c] w fun e w' => ∃ v, e = .returned v ∧ w'.ownsRow w.heap.size 68 2 v P.length (prs P) ∧ Below w.heap.size w w' := by
  have hl : P.length * 2 = n := by rw [← flatP_len]; exact hr.strs_length
  go_enter Tryd.func43, Tryd.ntmps43
  go_wp2
  go_loopw [3, 4] (fun v i wr => ∃ (k j : Nat), k ≤ P.length ∧ Hid (j = 2 * k) ∧ i = .int .i64 (j : Int) ∧ wr.ownsRow w.heap.size 68 2 v k (prs (P.take k)) ∧ Below w.heap.size w wr) (fun _ i _ => n - (intOf i).toNat)
  case atStart => exact ⟨0, 0, Nat.zero_le _, rfl, rfl, ⟨rfl, .inl ⟨rfl, rfl⟩⟩, Below.refl _ _⟩
  case round =>
    obtain ⟨k, j, hk, HJ, rfl, hown, hbw⟩ := hrel
    have hj : j = 2 * k := HJ.out
    have hbs := hbw.size
    by_cases hlt : k < P.length
    · obtain ⟨p, hp⟩ := get_of hlt
      obtain ⟨h0, h1⟩ := flatP_at hp
      rw [← hj] at h0 h1
      obtain ⟨b, o, rfl, hm, c0⟩ := rd_strH (hr.below hbw) h0
      obtain ⟨b', o', e, _, c1⟩ := rd_strH (hr.below hbw) h1
      injection e with e
      injection e with e1 e2
      subst e1 e2
      have HT := Lib.hid (take_snoc hp)
      have i1 : (0 : Int) ≤ (j : Int) := by omega
      have i2 : (j : Int) < (n : Int) := by omega
      have i3 : (j : Int) + 1 < (n : Int) := by omega
      have i4 : (0 : Int) ≤ (j : Int) + 1 := by omega
      have i5 : ((j : Int) + 1).toNat = j + 1 := by omega
      have i6 : IntKind.i64.wrap ((j : Int) + 1) = (j : Int) + 1 := IntWalk.i64_in _ (by omega)
      obtain ⟨A3, c3, rfl, hnc3⟩ := own_form hown
      have hown1 := hown.drew
      have hj2 : IntKind.i64.wrap ((j : Int) + 2) = (j : Int) + 2 := IntWalk.i64_in _ (by omega)
      clear h0 h1 hp hown hj
      go_wp2
      go_region_law (refine step_app (by rfl) (.tmp 12) (.tmp 23) 40 (by rfl) 68 (.agg #[.string ⟨#[]⟩, .string ⟨#[]⟩]) 2 32 Tryd.underlying40 Tryd.infoPair rfl (by omega) wr.drew [.string (B p.1), .string (B p.2)] rfl (by simp; exact ⟨rfl, rfl⟩) w.heap.size (.slice A3 k c3) k _ hown1 (by rfl) (by rfl) (by omega) (by omega) hbs ?_; intro g cap w3 ho3 hg3 hb3)
      all_goals
        rw [prs_snoc, HT.out] at ho3
        have hB3 := hbw.drew.trans hb3
        clear hown1 hg3 hb3
        go_wp2
        go_roundw
        case rel => exact ⟨k + 1, j + 2, by omega, (show j + 2 = 2 * (k + 1) from by have := HJ.out; omega), by go_num, ho3, hB3⟩
        case measure => simp [intOf]; omega
    · obtain rfl : k = P.length := by omega
      rw [List.take_length] at hown
      have d1 : decide ((j : Int) + 1 < (n : Int)) = false := decide_eq_false (by omega)
      have i6 : IntKind.i64.wrap ((j : Int) + 1) = (j : Int) + 1 := IntWalk.i64_in _ (by omega)
      clear hj
      go_wp2
      go_ret
      exact ⟨_, rfl, hown, hbw⟩
/-- the chapter's collation that is being made: c at block q, the result at block w0.heap.size -/
structure RC (w0 : World) (q n : Nat) (L : List (List UInt8)) (v : Value) (w : World) : Prop where
  c : Two w q nilS v 42
  o : w.ownsRow (q + 1) 9 1 v n (strs L)
  res : Two w w0.heap.size nilS nilS 42
  lt : w0.heap.size < q
  b : Below w0.heap.size w0 w
theorem RC.start {w0 w : World} (hb : Below w0.heap.size (w0.alloc (.cells #[nilS, nilS, .string ⟨#[]⟩] 42)) w) (hb2 : Below (w0.heap.size + 1) (w0.alloc (.cells #[nilS, nilS, .string ⟨#[]⟩] 42)) w) :
    RC w0 w.heap.size 0 [] nilS (w.alloc (.cells #[nilS, nilS, .string ⟨#[]⟩] 42)) := by
  have h1 : Two (w0.alloc (.cells #[nilS, nilS, .string ⟨#[]⟩] 42)) w0.heap.size nilS nilS 42 := heap_alloc_new w0 _
  have hs := hb2.size
  simp at hs
  have hB := (below_alloc w0 (.cells #[nilS, nilS, .string ⟨#[]⟩] 42)).trans hb
  exact ⟨heap_alloc_new w _, ⟨rfl, .inl ⟨rfl, rfl⟩⟩, (h1.below hb2 (by omega)).alloc _, by omega, hB.alloc hB.size _⟩
theorem RC.below {w0 w w' : World} {q n : Nat} {L : List (List UInt8)} {v : Value} (h : RC w0 q n L v w) (hb : Below w.heap.size w w') : RC w0 q n L v w' :=
  ⟨h.c.below hb h.c.lt, own_below h.o hb, h.res.below hb h.res.lt, h.lt, h.b.trans (hb.mono h.b.size)⟩
theorem RC.row {w0 w w' : World} {q n : Nat} {L : List (List UInt8)} {v : Value} (h : RC w0 q n L v w) (hg : w.grownBy w' v.ownBlock) : Two w' q nilS v 42 :=
  h.c.grown hg (fun e => by have := (h.o.lt _ e.symm).1; omega)
theorem RC.store {w0 w w' : World} {q n : Nat} {L : List (List UInt8)} {v : Value} {g cap : Nat} {x : List UInt8} (h : RC w0 q n L v w) (ho : w'.ownsRow (q + 1) 9 1 (.slice (some ⟨g, 0, none⟩) (n + 1) cap) (n + 1) (strs L ++ [.string (B x)])) (hg : w.grownBy w' v.ownBlock) :
    RC w0 q (n + 1) (L ++ [x]) (.slice (some ⟨g, 0, none⟩) (n + 1) cap) (w'.setCell ⟨q, 1, none⟩ (.slice (some ⟨g, 0, none⟩) (n + 1) cap)) := by
  obtain ⟨h1, h2, h3, hlt, h4⟩ := h
  have n2 : some w0.heap.size ≠ v.ownBlock := fun e => by have := (h2.lt _ e.symm).1; omega
  have n1 : some q ≠ v.ownBlock := fun e => by have := (h2.lt _ e.symm).1; omega
  have hgb : q + 1 ≤ g := (ho.lt g rfl).1
  refine ⟨(h1.grown hg n1).set1 _, ?_, (h3.grown hg n2).other (by omega) _, hlt, (h4.grown hg h4.size (fun k hk => by have := (h2.lt k hk).1; omega)).setCell (p := ⟨q, 1, none⟩) (by show _ ≤ q; omega) _⟩
  rw [strs_snoc] at ho
  exact ownsRow_setCell_other ho (by show some g ≠ some q; intro e; injection e; omega) _
theorem RC.finish {w0 w : World} {q n : Nat} {L : List (List UInt8)} {v : Value} (h : RC w0 q n L v w) : CollRet L [] (.returned (.agg #[nilS, v, .string ⟨#[]⟩])) (((w.setCell ⟨w0.heap.size, 0, none⟩ nilS).setCell ⟨w0.heap.size, 1, none⟩ v).setCell ⟨w0.heap.size, 2, none⟩ (.string ⟨#[]⟩)) := by
  obtain ⟨A, c, rfl, hc⟩ := own_form h.o
  have hlt := h.lt
  have n1 : ∀ k, (Value.slice A n c).ownBlock = some k → k ≠ w0.heap.size := fun k hk => by have := (h.o.lt k hk).1; omega
  have o1 := ownsRow_setCell_other (ownsRow_setCell_other (ownsRow_setCell_other h.o (a := ⟨w0.heap.size, 0, none⟩) (fun e => n1 _ e rfl) nilS) (a := ⟨w0.heap.size, 1, none⟩) (fun e => n1 _ e rfl) (.slice A n c)) (a := ⟨w0.heap.size, 2, none⟩) (fun e => n1 _ e rfl) (.string ⟨#[]⟩)
  exact ⟨A, n, c, none, 0, 0, rfl, Rd.of_own o1, Rd.nil⟩
/-- with its ranks, in a block made later -/
structure RR (w0 : World) (q n m : Nat) (L : List (List UInt8)) (P : List (List UInt8 × List UInt8)) (v vr : Value) (w : World) : Prop where
  c : Two w q vr v 42
  o : w.ownsRow (q + 1) 9 1 v n (strs L)
  r : w.ownsRow (q + 1) 68 2 vr m (prs P)
  res : Two w w0.heap.size nilS nilS 42
  lt : w0.heap.size < q
  b : Below w0.heap.size w0 w
theorem RC.ranks {w0 w w' : World} {q n m : Nat} {L : List (List UInt8)} {P : List (List UInt8 × List UInt8)} {v vr : Value} (h : RC w0 q n L v w) (ho : w'.ownsRow w.heap.size 68 2 vr m (prs P)) (hb : Below w.heap.size w w') :
    RR w0 q n m L P v vr (w'.setCell ⟨q, 0, none⟩ vr) := by
  have h' := h.below hb
  have hq := h.c.lt
  have hlt := h.lt
  refine ⟨h'.c.set0 _, ownsRow_setCell_other h'.o (fun e => by have := (h'.o.lt _ e).1; simp at this; omega) _, ownsRow_setCell_other (own_more ho hq) (fun e => by have := (ho.lt _ e).1; simp at this; omega) _, h'.res.other (by omega) _, hlt, h'.b.setCell (p := ⟨q, 0, none⟩) (by show _ ≤ q; omega) _⟩
theorem RR.finish {w0 w : World} {q n m : Nat} {L : List (List UInt8)} {P : List (List UInt8 × List UInt8)} {v vr : Value} (h : RR w0 q n m L P v vr w) : CollRet L P (.returned (.agg #[vr, v, .string ⟨#[]⟩])) (((w.setCell ⟨w0.heap.size, 0, none⟩ vr).setCell ⟨w0.heap.size, 1, none⟩ v).setCell ⟨w0.heap.size, 2, none⟩ (.string ⟨#[]⟩)) := by
  have hlt := h.lt
  obtain ⟨A, c, rfl, hc⟩ := own_form h.o
  obtain ⟨A2, c2, rfl, hc2⟩ := own_form h.r
  have n1 : ∀ k, (Value.slice A n c).ownBlock = some k → k ≠ w0.heap.size := fun k hk => by have := (h.o.lt k hk).1; omega
  have n2 : ∀ k, (Value.slice A2 m c2).ownBlock = some k → k ≠ w0.heap.size := fun k hk => by have := (h.r.lt k hk).1; omega
  have o1 := ownsRow_setCell_other (ownsRow_setCell_other (ownsRow_setCell_other h.o (a := ⟨w0.heap.size, 0, none⟩) (fun e => n1 _ e rfl) (.slice A2 m c2)) (a := ⟨w0.heap.size, 1, none⟩) (fun e => n1 _ e rfl) (.slice A n c)) (a := ⟨w0.heap.size, 2, none⟩) (fun e => n1 _ e rfl) (.string ⟨#[]⟩)
  have o2 := ownsRow_setCell_other (ownsRow_setCell_other (ownsRow_setCell_other h.r (a := ⟨w0.heap.size, 0, none⟩) (fun e => n2 _ e rfl) (.slice A2 m c2)) (a := ⟨w0.heap.size, 1, none⟩) (fun e => n2 _ e rfl) (.slice A n c)) (a := ⟨w0.heap.size, 2, none⟩) (fun e => n2 _ e rfl) (.string ⟨#[]⟩)
  exact ⟨A, n, c, A2, m, c2, rfl, Rd.of_own o1, Rd.of_own o2⟩
end Go.Proofs.YtkndgkiglaacnaaDoor
