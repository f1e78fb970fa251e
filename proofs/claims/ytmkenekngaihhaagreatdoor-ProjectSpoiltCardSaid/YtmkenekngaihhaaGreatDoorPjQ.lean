/-
  Layer 49 (project): targets that are read: the chapter's.
-/
import Derived.Test.YtmkenekngaihhaaGreatDoorPjO
import Derived.Deep.RegionHeld3
namespace Go.Proofs.YtmkenekngaihhaaGreatDoor
open Go.RowKit
set_option linter.unusedVariables false
set_option linter.unusedSimpArgs false
attribute [local go_sem] B_data B_size

theorem Bx4.set23 {w : World} {b : Nat} {x y : ByteArray} {p q p' q' : Int} (h : Bx4 w b x y p q) : Bx4 ((w.setCell ⟨b, 2, none⟩ (.int .i64 p')).setCell ⟨b, 3, none⟩ (.int .i64 q')) b x y p' q' := by
  unfold Bx4 at *
  simp [World.setCell, Array.getElem?_modify, h]
theorem Bx4.other {w : World} {b c : Nat} {x y : ByteArray} {p q : Int} {u v : Value} (h : Bx4 w b x y p q) (hne : c ≠ b) : Bx4 ((w.setCell ⟨c, 2, none⟩ u).setCell ⟨c, 3, none⟩ v) b x y p q := by
  unfold Bx4 at *
  simp [World.setCell, Array.getElem?_modify, h, hne]
theorem blk_cell4 {w : World} {b c i : Nat} {v0 v1 v2 v3 : Value} (h : b ≠ c) : ((((w.setCell ⟨b, 0, none⟩ v0).setCell ⟨b, 1, none⟩ v1).setCell ⟨b, 2, none⟩ v2).setCell ⟨b, 3, none⟩ v3).cell? ⟨c, i, none⟩ = w.cell? ⟨c, i, none⟩ := by
  have e : ((((w.setCell ⟨b, 0, none⟩ v0).setCell ⟨b, 1, none⟩ v1).setCell ⟨b, 2, none⟩ v2).setCell ⟨b, 3, none⟩ v3).heap[c]? = w.heap[c]? := by simp [World.setCell, Array.getElem?_modify, h]
  unfold World.cell?
  simp only [e]
theorem dret_cases (o : Option Nat) : 0 ≤ DRet o ∨ DRet o = -1 := by
  cases o with
  | none => exact .inr rfl
  | some n => exact .inl (Int.natCast_nonneg n)
theorem dret_pair (x0 : List UInt8) (a b : Option Nat) : (match a, b with
    | some x, some y => some (⟨x0, kPages, x, y⟩ : Tg)
    | _, _ => none) = if 0 ≤ DRet a ∧ 0 ≤ DRet b then some ⟨x0, kPages, DRet a, DRet b⟩ else none := by
  cases a with
  | none => rw [if_neg (fun h => absurd h.1 (by decide))]
  | some x =>
    cases b with
    | none => rw [if_neg (fun h => absurd h.2 (by decide))]
    | some y => rw [if_pos ⟨Int.natCast_nonneg x, Int.natCast_nonneg y⟩]; rfl
theorem decS_any (s : List UInt8) (w : World) (hs : s.length ≤ 1000000000) :
    Calls Tryz.prog 88 #[.string (B s)] w fun e w' => e = .returned (.int .i64 (DRet (numP s))) ∧ w = w' := by
  have := decimal_any (B s) w (by rw [B_size]; exact hs)
  rw [B_data] at this
  exact this
set_option maxHeartbeats 8000000 in
set_option maxRecDepth 100000 in
theorem output_any (s : ByteArray) (w : World) (hs : s.size ≤ 1000000000) :
    Calls Tryz.prog 68 #[.string s] w (TRet (targetP s.toList) w) := by
  have hbw := below_alloc w (.cells #[.string ⟨#[]⟩, .string ⟨#[]⟩, .int .i64 0, .int .i64 0] 38)
  have hbx : Bx4 (w.alloc (.cells #[.string ⟨#[]⟩, .string ⟨#[]⟩, .int .i64 0, .int .i64 0] 38)) w.heap.size ⟨#[]⟩ ⟨#[]⟩ 0 0 := heap_alloc_new w _
  have hwl := words_len s.toList
  rw [len_toList] at hwl
  have hwp := words_pos s.toList
  have TB := Lib.hid (@tP_bad s.toList)
  have TL := Lib.hid (@tP_len s.toList)
  have T2 := Lib.hid (@tP_two s.toList)
  have T4 := Lib.hid (@tP_four s.toList)
  have HWL := Lib.hid (fun j => (words_each s.toList j))
  rw [len_toList] at HWL
  have HC := Lib.hid (words_any s (w.alloc (.cells #[.string ⟨#[]⟩, .string ⟨#[]⟩, .int .i64 0, .int .i64 0] 38)) hs)
  unfold WPost at HC
  generalize wordsP s.toList = ws at *
  generalize hO : targetP s.toList = O at *
  clear hO
  obtain ⟨n, hn⟩ : ∃ n, n = ws.length := ⟨_, rfl⟩
  have HN := Lib.hid hn
  rw [← hn] at hwl hwp
  go_enter Tryz.func68, Tryz.ntmps68
  go_wp2_with fail
  refine HC.out.mono ?_
  rintro e w1 ⟨v, ok, rfl, hif, hbn⟩
  have hbx := hbx.step hbn
  have hbw := hbw.trans (hbn.mono hbw.size)
  have q0 := hbx.c0
  have q1 := hbx.c1
  have q2 := hbx.c2
  have q3 := hbx.c3
  have f0 := hbx.ff (i := 0)
  have f1 := hbx.ff (i := 1)
  have f2 := hbx.ff (i := 2)
  have f3 := hbx.ff (i := 3)
  have hne : w1.heap.size ≠ w.heap.size := by have := hbx.lt; omega
  have hne2 : w.heap.size ≠ w1.heap.size := fun e => hne e.symm
  by_cases hin : [] ∈ ws
  · rw [if_pos hin] at hif
    have HX := Lib.hid (TB.out hin)
    subst hif
    clear hn hbn HC hin
    go_wp2
    refine bodyPost_ret (v := .tuple #[.agg #[.string ⟨#[]⟩, .string ⟨#[]⟩, .int .i64 0, .int .i64 0], .bool false]) (by simp [results, Tryz.results68, go_sem, q0, q1, q2, q3, hne, hne2]) rfl ?_
    exact tret_none HX (below_set4 hbw (Nat.le_refl _))
  rw [if_neg hin] at hif
  obtain ⟨rfl, hown⟩ := hif
  have HNO := Lib.hid hin
  rw [← hn] at hown
  obtain ⟨g, c, rfl, hgb, hcell⟩ := own_cells hown hwp
  have hg1 : g < w1.heap.size := World.block_lt_of_cell? w1 _ (hcell 0 hwp)
  have HCE := Lib.hid hcell
  clear hn hcell hown hbn HC hgb hin
  by_cases h24 : n ≠ 2 ∧ n ≠ 4
  · have HX : Hid (O = none) := TL.out (by rw [← HN.out]; exact h24)
    have e2 : ((n : Int) != 2) = true := by simp; omega
    have e4 : ((n : Int) != 4) = true := by simp; omega
    clear h24
    go_wp2
    refine bodyPost_ret (v := .tuple #[.agg #[.string ⟨#[]⟩, .string ⟨#[]⟩, .int .i64 0, .int .i64 0], .bool false]) (by simp [results, Tryz.results68, go_sem, q0, q1, q2, q3, hne, hne2]) rfl ?_
    exact tret_none HX (below_set4 hbw (Nat.le_refl _))
  have c0 := HCE.out 0 (by omega)
  have c1 := HCE.out 1 (by omega)
  obtain ⟨x0, hx0⟩ : ∃ x, x = ws.getD 0 [] := ⟨_, rfl⟩
  obtain ⟨x1, hx1⟩ : ∃ x, x = ws.getD 1 [] := ⟨_, rfl⟩
  rw [← hx0] at c0
  rw [← hx1] at c1
  have HX0 := Lib.hid hx0
  have HX1 := Lib.hid hx1
  clear hx0 hx1
  by_cases h4 : n = 4
  · subst h4
    clear h24
    have c2 := HCE.out 2 (by omega)
    have c3 := HCE.out 3 (by omega)
    have hl2 : (ws.getD 2 []).length ≤ 1000000000 := Nat.le_trans (HWL.out 2) hs
    have hl3 : (ws.getD 3 []).length ≤ 1000000000 := Nat.le_trans (HWL.out 3) hs
    have HO4 := Lib.hid (T4.out HNO.out HN.out.symm)
    generalize ws.getD 2 [] = x2 at *
    generalize ws.getD 3 [] = x3 at *
    by_cases hk : x1 = kPages
    · have HO : Hid (O = if 0 ≤ DRet (numP x2) ∧ 0 ≤ DRet (numP x3) then some ⟨x0, kPages, DRet (numP x2), DRet (numP x3)⟩ else none) := by
        rw [HO4.out, ← HX1.out, if_pos hk, ← HX0.out, hk]
        exact dret_pair x0 (numP x2) (numP x3)
      subst hk
      have N2 := Lib.hid (fun V => decS_any x2 V hl2)
      have N3 := Lib.hid (fun V => decS_any x3 V hl3)
      have HPC := dret_cases (numP x2)
      generalize DRet (numP x2) = P at *
      generalize DRet (numP x3) = Q at *
      clear HO4 q0 q1 q2 q3 f0 f1 f2 f3
      have q0 := hbx.c0
      have q1 := hbx.c1
      have q2 := hbx.c2
      have q3 := hbx.c3
      go_wp2
      go_region
      have hby : Bx4 (w1.alloc (.cells #[.string (B x0), .string (B kPages), .int .i64 0, .int .i64 0] 38)).drew w1.heap.size (B x0) (B kPages) 0 0 := heap_alloc_new w1 _
      have hbx : Bx4 (w1.alloc (.cells #[.string (B x0), .string (B kPages), .int .i64 0, .int .i64 0] 38)).drew w.heap.size ⟨#[]⟩ ⟨#[]⟩ 0 0 := hbx.step (below_alloc w1 _).drew
      have hyw : w.heap.size ≤ w1.heap.size := hbw.size
      have hbw : Below w.heap.size w (w1.alloc (.cells #[.string (B x0), .string (B kPages), .int .i64 0, .int .i64 0] 38)).drew := (hbw.alloc hbw.size _).drew
      have hcl : ∀ j u, w1.cell? ⟨g, j, none⟩ = some u → (w1.alloc (.cells #[.string (B x0), .string (B kPages), .int .i64 0, .int .i64 0] 38)).drew.cell? ⟨g, j, none⟩ = some u := fun j u h => ((below_alloc w1 _).cell (p := ⟨g, j, none⟩) hg1).trans h
      generalize (w1.alloc (.cells #[.string (B x0), .string (B kPages), .int .i64 0, .int .i64 0] 38)).drew = w2 at *
      generalize w1.heap.size = y1 at *
      have q0 := hbx.c0
      have q1 := hbx.c1
      have q2 := hbx.c2
      have q3 := hbx.c3
      have g0 := hbx.ff (i := 0)
      have g1 := hbx.ff (i := 1)
      have g2 := hbx.ff (i := 2)
      have g3 := hbx.ff (i := 3)
      have y0 := hby.c0
      have y1' := hby.c1
      have y2 := hby.c2
      have y3 := hby.c3
      have z2 := hby.ff (i := 2)
      have z3 := hby.ff (i := 3)
      have c2 := hcl _ _ c2
      have c3 := hcl _ _ c3
      clear hcl HCE
      go_wp2_with fail
      refine (N2.out _).mono ?_
      rintro e w3 ⟨rfl, rfl⟩
      go_wp2_with fail
      refine (N3.out _).mono ?_
      rintro e w4 ⟨rfl, rfl⟩
      go_wp2
      have hby : Bx4 ((w2.setCell ⟨y1, 2, none⟩ (.int .i64 P)).setCell ⟨y1, 3, none⟩ (.int .i64 Q)) y1 (B x0) (B kPages) P Q := hby.set23
      have hbx : Bx4 ((w2.setCell ⟨y1, 2, none⟩ (.int .i64 P)).setCell ⟨y1, 3, none⟩ (.int .i64 Q)) w.heap.size ⟨#[]⟩ ⟨#[]⟩ 0 0 := hbx.other hne
      have hbw : Below w.heap.size w ((w2.setCell ⟨y1, 2, none⟩ (.int .i64 P)).setCell ⟨y1, 3, none⟩ (.int .i64 Q)) := (hbw.setCell (p := ⟨y1, 2, none⟩) hyw _).setCell (p := ⟨y1, 3, none⟩) hyw _
      clear q0 q1 q2 q3 g0 g1 g2 g3 y0 y1' y2 y3 z2 z3 c2 c3 N2 N3
      generalize ((w2.setCell ⟨y1, 2, none⟩ (.int .i64 P)).setCell ⟨y1, 3, none⟩ (.int .i64 Q)) = w5 at *
      have q0 := hbx.c0
      have q1 := hbx.c1
      have q2 := hbx.c2
      have q3 := hbx.c3
      have g0 := hbx.ff (i := 0)
      have g1 := hbx.ff (i := 1)
      have g2 := hbx.ff (i := 2)
      have g3 := hbx.ff (i := 3)
      have y0 := hby.c0
      have y1' := hby.c1
      have y2 := hby.c2
      have y3 := hby.c3
      rcases HPC with hP | rfl
      · have e2 : decide ((0 : Int) ≤ P) = true := by simpa using hP
        have HP := Lib.hid hP
        clear hP
        go_region
        go_wp2
        refine bodyPost_ret (v := .tuple #[.agg #[.string (B x0), .string (B kPages), .int .i64 P, .int .i64 Q], .bool (decide (0 ≤ Q))]) (by simp [results, Tryz.results68, go_sem, q0, q1, q2, q3, hne, hne2]) rfl ?_
        by_cases hQ : 0 ≤ Q
        · have HX : Hid (O = some ⟨x0, kPages, P, Q⟩) := by rw [HO.out, if_pos ⟨HP.out, hQ⟩]; rfl
          rw [decide_eq_true hQ]
          exact tret_some HX (below_set4 hbw.drew (Nat.le_refl _))
        · have HX : Hid (O = none) := by rw [HO.out, if_neg (fun h => hQ h.2)]; rfl
          rw [decide_eq_false hQ]
          exact tret_none HX (below_set4 hbw.drew (Nat.le_refl _))
      · have HX : Hid (O = none) := by rw [HO.out, if_neg (fun h => absurd h.1 (by decide))]; rfl
        go_region
        go_wp2
        refine bodyPost_ret (v := .tuple #[.agg #[.string (B x0), .string (B kPages), .int .i64 (-1), .int .i64 Q], .bool false]) (by simp [results, Tryz.results68, go_sem, q0, q1, q2, q3, hne, hne2]) rfl ?_
        exact tret_none HX (below_set4 hbw.drew (Nat.le_refl _))
    · have HX : Hid (O = none) := by rw [HO4.out, ← HX1.out, if_neg hk]; rfl
      have e1 : (x1 == [112, 97, 103, 101, 115]) = false := by simpa [kPages] using hk
      clear hk HO4
      go_wp2
      refine bodyPost_ret (v := .tuple #[.agg #[.string ⟨#[]⟩, .string ⟨#[]⟩, .int .i64 0, .int .i64 0], .bool false]) (by simp [results, Tryz.results68, go_sem, q0, q1, q2, q3, hne, hne2]) rfl ?_
      exact tret_none HX (below_set4 hbw (Nat.le_refl _))
  · obtain rfl : n = 2 := by omega
    clear h24 h4
    have HO2 := Lib.hid (T2.out HNO.out HN.out.symm)
    by_cases hk : x1 = kPages
    · have HX : Hid (O = none) := by rw [HO2.out, ← HX1.out, if_pos hk]; rfl
      subst hk
      go_wp2
      refine bodyPost_ret (v := .tuple #[.agg #[.string ⟨#[]⟩, .string ⟨#[]⟩, .int .i64 0, .int .i64 0], .bool false]) (by simp [results, Tryz.results68, go_sem, q0, q1, q2, q3, hne, hne2]) rfl ?_
      exact tret_none HX (below_set4 hbw (Nat.le_refl _))
    · have HX : Hid (O = some ⟨x0, x1, 0, 0⟩) := by rw [HO2.out, ← HX1.out, if_neg hk, ← HX0.out]; rfl
      have e1 : (x1 == [112, 97, 103, 101, 115]) = false := by simpa [kPages] using hk
      clear hk HO2
      go_wp2
      go_region
      have hby : Bx4 (w1.alloc (.cells #[.string (B x0), .string (B x1), .int .i64 0, .int .i64 0] 38)).drew w1.heap.size (B x0) (B x1) 0 0 := heap_alloc_new w1 _
      have hbx : Bx4 (w1.alloc (.cells #[.string (B x0), .string (B x1), .int .i64 0, .int .i64 0] 38)).drew w.heap.size ⟨#[]⟩ ⟨#[]⟩ 0 0 := hbx.step (below_alloc w1 _).drew
      have hyw : w.heap.size ≤ w1.heap.size := hbw.size
      have hbw : Below w.heap.size w (w1.alloc (.cells #[.string (B x0), .string (B x1), .int .i64 0, .int .i64 0] 38)).drew := (hbw.alloc hbw.size _).drew
      have hcl : ∀ j u, w1.cell? ⟨g, j, none⟩ = some u → (w1.alloc (.cells #[.string (B x0), .string (B x1), .int .i64 0, .int .i64 0] 38)).drew.cell? ⟨g, j, none⟩ = some u := fun j u h => ((below_alloc w1 _).cell (p := ⟨g, j, none⟩) hg1).trans h
      generalize (w1.alloc (.cells #[.string (B x0), .string (B x1), .int .i64 0, .int .i64 0] 38)).drew = w2 at *
      generalize w1.heap.size = y1 at *
      have q0 := hbx.c0
      have q1 := hbx.c1
      have q2 := hbx.c2
      have q3 := hbx.c3
      have g0 := hbx.ff (i := 0)
      have g1 := hbx.ff (i := 1)
      have g2 := hbx.ff (i := 2)
      have g3 := hbx.ff (i := 3)
      have y0 := hby.c0
      have y1' := hby.c1
      have y2 := hby.c2
      have y3 := hby.c3
      have z2 := hby.ff (i := 2)
      have z3 := hby.ff (i := 3)
      clear hcl HCE
      go_wp2
      go_region
      go_wp2
      refine bodyPost_ret (v := .tuple #[.agg #[.string (B x0), .string (B x1), .int .i64 0, .int .i64 0], .bool true]) (by simp [results, Tryz.results68, go_sem, q0, q1, q2, q3, hne, hne2]) rfl ?_
      exact tret_some HX (below_set4 hbw.drew (Nat.le_refl _))
end Go.Proofs.YtmkenekngaihhaaGreatDoor
