/-
  Layer 49 (project): targets that are read.
-/
import Derived.Test.YtmkenekngaihhaaGreatDoorPjN
import Derived.RegionTactic
import Derived.BigRegion
namespace Go.Proofs.YtmkenekngaihhaaGreatDoor
open Go.RowKit
set_option linter.unusedVariables false
set_option linter.unusedSimpArgs false
attribute [local go_sem] B_data B_size

/-- a box of a target at block b -/
def Bx4 (w : World) (b : Nat) (x y : ByteArray) (p q : Int) : Prop := w.heap[b]? = some (.cells #[.string x, .string y, .int .i64 p, .int .i64 q] 38 (0, 0))
section
variable {w w' : World} {b : Nat} {x y : ByteArray} {p q : Int}
theorem Bx4.lt (h : Bx4 w b x y p q) : b < w.heap.size := (Array.getElem?_eq_some_iff.1 h).1
theorem Bx4.below {M : Nat} (h : Bx4 w b x y p q) (hb : Below M w w') (hM : b < M) : Bx4 w' b x y p q := (hb.block b hM).trans h
theorem Bx4.step (h : Bx4 w b x y p q) (hb : Below w.heap.size w w') : Bx4 w' b x y p q := h.below hb h.lt
theorem Bx4.c0 (h : Bx4 w b x y p q) : w.cell? ⟨b, 0, none⟩ = some (.string x) := by unfold Bx4 at h; simp [World.cell?, h]
theorem Bx4.c1 (h : Bx4 w b x y p q) : w.cell? ⟨b, 1, none⟩ = some (.string y) := by unfold Bx4 at h; simp [World.cell?, h]
theorem Bx4.c2 (h : Bx4 w b x y p q) : w.cell? ⟨b, 2, none⟩ = some (.int .i64 p) := by unfold Bx4 at h; simp [World.cell?, h]
theorem Bx4.c3 (h : Bx4 w b x y p q) : w.cell? ⟨b, 3, none⟩ = some (.int .i64 q) := by unfold Bx4 at h; simp [World.cell?, h]
theorem Bx4.ff {i : Nat} (h : Bx4 w b x y p q) : w.frozen? ⟨b, i, none⟩ = false := by unfold Bx4 at h; simp [World.frozen?, h]
end
theorem below_set4 {a w : World} {b : Nat} {v0 v1 v2 v3 : Value} (h : Below a.heap.size a w) (hb : a.heap.size ≤ b) : Below a.heap.size a ((((w.setCell ⟨b, 0, none⟩ v0).setCell ⟨b, 1, none⟩ v1).setCell ⟨b, 2, none⟩ v2).setCell ⟨b, 3, none⟩ v3) :=
  ((((h.setCell (p := ⟨b, 0, none⟩) hb v0).setCell (p := ⟨b, 1, none⟩) hb v1).setCell (p := ⟨b, 2, none⟩) hb v2).setCell (p := ⟨b, 3, none⟩) hb v3)
theorem words_pos (s : List UInt8) : 0 < (wordsP s).length := by
  obtain ⟨h, t, e⟩ := wordsGo_head [] s
  unfold wordsP
  rw [e]; simp
theorem words_each (s : List UInt8) (j : Nat) : ((wordsP s).getD j []).length ≤ s.length := by
  induction s generalizing j with
  | nil => cases j <;> simp [wordsP, wordsGo]
  | cons c r ih =>
    by_cases e : c = 32
    · subst e
      rw [words_space]
      cases j with
      | zero => simp
      | succ j => have := ih j; simp only [List.getD_cons_succ, List.length_cons]; omega
    · obtain ⟨x, t, h1, h2⟩ := words_cons c r e
      rw [h1] at ih
      rw [h2]
      cases j with
      | zero => have := ih 0; simp only [List.getD_cons_zero, List.length_cons] at this ⊢; omega
      | succ j => have := ih (j + 1); simp only [List.getD_cons_succ, List.length_cons] at this ⊢; omega
theorem getD_some {ws : List (List UInt8)} {k : Nat} (h : k < ws.length) : ws.take (k + 1) = ws.take k ++ [ws.getD k []] := take_getD h
set_option maxHeartbeats 8000000 in
set_option maxRecDepth 100000 in
theorem target_any (s : ByteArray) (w : World) (hs : s.size ≤ 1000000000) (hG : Fil.Glob w) :
    Calls Tryz.prog 65 #[.string s] w (TRet (targetP s.toList) w) := by
  have hbw := below_alloc w (.cells #[.string ⟨#[]⟩, .string ⟨#[]⟩, .int .i64 0, .int .i64 0] 38)
  have hbx : Bx4 (w.alloc (.cells #[.string ⟨#[]⟩, .string ⟨#[]⟩, .int .i64 0, .int .i64 0] 38)) w.heap.size ⟨#[]⟩ ⟨#[]⟩ 0 0 := heap_alloc_new w _
  have HC := Lib.hid (wsplit_any s _ hs (hG.below hbw (Nat.le_refl _)))
  have hwl := words_len s.toList
  rw [len_toList] at hwl
  have hwp := words_pos s.toList
  have TB := Lib.hid (@tP_bad s.toList)
  have TL := Lib.hid (@tP_len s.toList)
  have T2 := Lib.hid (@tP_two s.toList)
  have T4 := Lib.hid (@tP_four s.toList)
  have HWL := Lib.hid (fun j => (words_each s.toList j))
  rw [len_toList] at HWL
  generalize wordsP s.toList = ws at *
  generalize hO : targetP s.toList = O at *
  clear hO
  obtain ⟨n, hn⟩ : ∃ n, n = ws.length := ⟨_, rfl⟩
  have HN := Lib.hid hn
  rw [← hn] at hwl hwp
  go_enter Tryz.func65, Tryz.ntmps65
  go_wp2_with fail
  refine HC.out.mono ?_
  rintro e w1 ⟨v, rfl, hown, hbn⟩
  rw [← hn] at hown
  obtain ⟨g, c, rfl, hgb, hcell⟩ := own_cells hown hwp
  have hbx := hbx.step hbn
  have hbw := hbw.trans (hbn.mono hbw.size)
  have hg1 : g < w1.heap.size := World.block_lt_of_cell? w1 _ (hcell 0 hwp)
  have hgb : w.heap.size + 1 ≤ g := by simpa using hgb
  have HCE := Lib.hid hcell
  clear hn hcell hown hbn HC
  have r0 := hbx.c0
  have r1 := hbx.c1
  have r2 := hbx.c2
  have r3 := hbx.c3
  have f0 := hbx.ff (i := 0)
  have f1 := hbx.ff (i := 1)
  have f2 := hbx.ff (i := 2)
  have f3 := hbx.ff (i := 3)
  go_wp2
  go_loop [16] (fun i => ∃ k : Nat, k ≤ n ∧ i = .int .i64 k ∧ Hid ([] ∉ ws.take k)) (fun i => n - (intOf i).toNat)
  case atStart => exact ⟨0, Nat.zero_le _, rfl, by simp [Hid]⟩
  case round =>
    obtain ⟨k, hk, rfl, hno⟩ := hrel
    by_cases hlt : k < n
    · have c0 := HCE.out k hlt
      have HT := Lib.hid (getD_some (ws := ws) (k := k) (by rw [← HN.out]; exact hlt))
      have HM := Lib.hid (mem_getD (l := ws) (t := k) (j := k + 1) (by omega) (by rw [← HN.out]; exact hlt))
      generalize ws.getD k [] = x at c0 HT HM
      by_cases hx : x = []
      · have HX : Hid (O = none) := TB.out (List.mem_of_mem_take (i := k + 1) (by rw [← hx]; exact HM.out))
        have e1 : (x == []) = true := by simp [hx]
        have e2 : x.isEmpty = true := by simp [hx]
        clear hx
        go_wp2
        refine bodyPost_ret (v := .tuple #[.agg #[.string ⟨#[]⟩, .string ⟨#[]⟩, .int .i64 0, .int .i64 0], .bool false]) (by simp [results, Tryz.results65, go_sem, r0, r1, r2, r3]) rfl ?_
        exact tret_none HX (below_set4 hbw (Nat.le_refl _))
      · have e1 : (x == []) = false := by simpa using hx
        have e2 : x.isEmpty = false := by cases x with
          | nil => exact absurd rfl hx
          | cons a b => rfl
        have HNO : Hid ([] ∉ ws.take (k + 1)) := by
          rw [HT.out]
          intro h
          rcases List.mem_append.1 h with h | h
          · exact hno.out h
          · exact hx (List.mem_singleton.1 h).symm
        clear hx
        go_wp2
        go_round
        case rel => exact ⟨k + 1, by omega, by go_num, HNO⟩
        case measure => simp [intOf]; omega
    · have HNO : Hid ([] ∉ ws) := by
        have := hno.out
        rw [List.take_of_length_le (by rw [← HN.out]; omega)] at this
        exact this
      clear hno
      by_cases h2 : n < 2
      · have HX : Hid (O = none) := TL.out ⟨by rw [← HN.out]; omega, by rw [← HN.out]; omega⟩
        go_wp2
        refine bodyPost_ret (v := .tuple #[.agg #[.string ⟨#[]⟩, .string ⟨#[]⟩, .int .i64 0, .int .i64 0], .bool false]) (by simp [results, Tryz.results65, go_sem, r0, r1, r2, r3]) rfl ?_
        exact tret_none HX (below_set4 hbw (Nat.le_refl _))
      have c0 := HCE.out 0 (by omega)
      have c1 := HCE.out 1 (by omega)
      obtain ⟨x0, hx0⟩ : ∃ x, x = ws.getD 0 [] := ⟨_, rfl⟩
      obtain ⟨x1, hx1⟩ : ∃ x, x = ws.getD 1 [] := ⟨_, rfl⟩
      rw [← hx0] at c0
      rw [← hx1] at c1
      have HX0 := Lib.hid hx0
      have HX1 := Lib.hid hx1
      clear hx0 hx1
      have i1 : (0 : Int) < (n : Int) := by omega
      have i2 : (1 : Int) < (n : Int) := by omega
      go_wp2
      go_region
      have hby : Bx4 (w1.alloc (.cells #[.string (B x0), .string (B x1), .int .i64 0, .int .i64 0] 38)).drew w1.heap.size (B x0) (B x1) 0 0 := heap_alloc_new w1 _
      have hbx : Bx4 (w1.alloc (.cells #[.string (B x0), .string (B x1), .int .i64 0, .int .i64 0] 38)).drew w.heap.size ⟨#[]⟩ ⟨#[]⟩ 0 0 := hbx.step (below_alloc w1 _).drew
      have hyw : w.heap.size ≤ w1.heap.size := hbw.size
      have hne : w1.heap.size ≠ w.heap.size := by have := hbw.size; have := World.block_lt_of_cell? w1 _ r0; simp at this; omega
      have hne2 : w.heap.size ≠ w1.heap.size := fun e => hne e.symm
      have hbw : Below w.heap.size w (w1.alloc (.cells #[.string (B x0), .string (B x1), .int .i64 0, .int .i64 0] 38)).drew := (hbw.alloc hbw.size _).drew
      have HC2 : Hid (∀ j, j < n → (w1.alloc (.cells #[.string (B x0), .string (B x1), .int .i64 0, .int .i64 0] 38)).drew.cell? ⟨g, j, none⟩ = some (.string (B (ws.getD j [])))) := fun j hj => ((below_alloc w1 _).cell (p := ⟨g, j, none⟩) hg1).trans (HCE.out j hj)
      have hg2 : g < (w1.alloc (.cells #[.string (B x0), .string (B x1), .int .i64 0, .int .i64 0] 38)).drew.heap.size := by show g < (w1.heap.push _).size; simp; omega
      clear r0 r1 r2 r3 f0 f1 f2 f3 c0 c1 HCE
      generalize (w1.alloc (.cells #[.string (B x0), .string (B x1), .int .i64 0, .int .i64 0] 38)).drew = w2 at *
      generalize w1.heap.size = y1 at *
      have q0 := hbx.c0
      have q1 := hbx.c1
      have q2 := hbx.c2
      have q3 := hbx.c3
      have g0 := hbx.ff (i := 0)
      have g1 := hbx.ff (i := 1)
      have g2 := hbx.ff (i := 2)
      have g3 := hbx.ff (i := 3)
      have y0 := hby.c0
      have y1' := hby.c1
      have y2 := hby.c2
      have y3 := hby.c3
      by_cases hk : x1 = kPages
      · subst hk
        by_cases h4 : n = 4
        · have HO : Hid (O = (match numP (ws.getD 2 []), numP (ws.getD 3 []) with
            | some x, some y => some ⟨x0, kPages, x, y⟩
            | _, _ => none)) := by
            rw [T4.out HNO.out (by rw [← HN.out]; exact h4), if_pos HX1.out.symm, ← HX0.out, ← HX1.out]; rfl
          have c2 := HC2.out 2 (by omega)
          have c3 := HC2.out 3 (by omega)
          have hl2 : (ws.getD 2 []).length ≤ 1000000000 := Nat.le_trans (HWL.out 2) hs
          have hl3 : (ws.getD 3 []).length ≤ 1000000000 := Nat.le_trans (HWL.out 3) hs
          generalize ws.getD 2 [] = x2 at *
          generalize ws.getD 3 [] = x3 at *
          subst h4
          clear HC2 q0 q1 q2 q3 g0 g1 g2 g3 y0 y2 y3
          cases h2 : numP x2 with
          | none =>
            cases h3 : numP x3 with
            | none =>
              have HX : Hid (O = none) := by rw [HO.out, h2, h3]; rfl
              have N2 := Lib.hid (fun V => number_none V hl2 h2)
              have N3 := Lib.hid (fun V => number_none V hl3 h3)
              clear h2 h3
              go_wp2_with fail
              refine (N2.out _).mono ?_
              rintro e w3 ⟨rfl, hn⟩
              have hbx := hbx.step hn
              have hby := hby.step hn
              have hbw := hbw.trans (hn.mono hbw.size)
              have c3 : w3.cell? ⟨g, 3, none⟩ = some (.string (B x3)) := (hn.cell (p := ⟨g, 3, none⟩) hg2).trans c3
              clear hn c2
              go_wp2_with fail
              refine (N3.out _).mono ?_
              rintro e w4 ⟨rfl, hn⟩
              have hbx := hbx.step hn
              have hby := hby.step hn
              have hbw := hbw.trans (hn.mono hbw.size)
              clear hn c3
              have q0 := hbx.c0
              have q1 := hbx.c1
              have q2 := hbx.c2
              have q3 := hbx.c3
              have g0 := hbx.ff (i := 0)
              have g1 := hbx.ff (i := 1)
              have g2 := hbx.ff (i := 2)
              have g3 := hbx.ff (i := 3)
              have y0 := hby.c0
              have y1' := hby.c1
              have y2 := hby.c2
              have y3 := hby.c3
              have z2 := hby.ff (i := 2)
              have z3 := hby.ff (i := 3)
              go_wp2
              refine bodyPost_ret (v := .tuple #[.agg #[.string (B x0), .string (B kPages), .int .i64 0, .int .i64 0], .bool false]) (by simp [results, Tryz.results65, go_sem, q0, q1, q2, q3, hne, hne2]) rfl ?_
              exact tret_none HX (below_set4 ((hbw.setCell (p := ⟨y1, 2, none⟩) hyw _).setCell (p := ⟨y1, 3, none⟩) hyw _) (Nat.le_refl _))
            | some b =>
              have HX : Hid (O = none) := by rw [HO.out, h2, h3]; rfl
              have N2 := Lib.hid (fun V => number_none V hl2 h2)
              have N3 := Lib.hid (fun V => number_some V hl3 h3)
              clear h2 h3
              go_wp2_with fail
              refine (N2.out _).mono ?_
              rintro e w3 ⟨rfl, hn⟩
              have hbx := hbx.step hn
              have hby := hby.step hn
              have hbw := hbw.trans (hn.mono hbw.size)
              have c3 : w3.cell? ⟨g, 3, none⟩ = some (.string (B x3)) := (hn.cell (p := ⟨g, 3, none⟩) hg2).trans c3
              clear hn c2
              go_wp2_with fail
              refine (N3.out _).mono ?_
              rintro e w4 ⟨rfl, hn⟩
              have hbx := hbx.step hn
              have hby := hby.step hn
              have hbw := hbw.trans (hn.mono hbw.size)
              clear hn c3
              have q0 := hbx.c0
              have q1 := hbx.c1
              have q2 := hbx.c2
              have q3 := hbx.c3
              have g0 := hbx.ff (i := 0)
              have g1 := hbx.ff (i := 1)
              have g2 := hbx.ff (i := 2)
              have g3 := hbx.ff (i := 3)
              have y0 := hby.c0
              have y1' := hby.c1
              have y2 := hby.c2
              have y3 := hby.c3
              have z2 := hby.ff (i := 2)
              have z3 := hby.ff (i := 3)
              go_wp2
              refine bodyPost_ret (v := .tuple #[.agg #[.string (B x0), .string (B kPages), .int .i64 0, .int .i64 (b : Int)], .bool false]) (by simp [results, Tryz.results65, go_sem, q0, q1, q2, q3, hne, hne2]) rfl ?_
              exact tret_none HX (below_set4 ((hbw.setCell (p := ⟨y1, 2, none⟩) hyw _).setCell (p := ⟨y1, 3, none⟩) hyw _) (Nat.le_refl _))
          | some a =>
            cases h3 : numP x3 with
            | none =>
              have HX : Hid (O = none) := by rw [HO.out, h2, h3]; rfl
              have N2 := Lib.hid (fun V => number_some V hl2 h2)
              have N3 := Lib.hid (fun V => number_none V hl3 h3)
              clear h2 h3
              go_wp2_with fail
              refine (N2.out _).mono ?_
              rintro e w3 ⟨rfl, hn⟩
              have hbx := hbx.step hn
              have hby := hby.step hn
              have hbw := hbw.trans (hn.mono hbw.size)
              have c3 : w3.cell? ⟨g, 3, none⟩ = some (.string (B x3)) := (hn.cell (p := ⟨g, 3, none⟩) hg2).trans c3
              clear hn c2
              go_wp2_with fail
              refine (N3.out _).mono ?_
              rintro e w4 ⟨rfl, hn⟩
              have hbx := hbx.step hn
              have hby := hby.step hn
              have hbw := hbw.trans (hn.mono hbw.size)
              clear hn c3
              have q0 := hbx.c0
              have q1 := hbx.c1
              have q2 := hbx.c2
              have q3 := hbx.c3
              have g0 := hbx.ff (i := 0)
              have g1 := hbx.ff (i := 1)
              have g2 := hbx.ff (i := 2)
              have g3 := hbx.ff (i := 3)
              have y0 := hby.c0
              have y1' := hby.c1
              have y2 := hby.c2
              have y3 := hby.c3
              have z2 := hby.ff (i := 2)
              have z3 := hby.ff (i := 3)
              go_wp2
              refine bodyPost_ret (v := .tuple #[.agg #[.string (B x0), .string (B kPages), .int .i64 (a : Int), .int .i64 0], .bool false]) (by simp [results, Tryz.results65, go_sem, q0, q1, q2, q3, hne, hne2]) rfl ?_
              exact tret_none HX (below_set4 ((hbw.setCell (p := ⟨y1, 2, none⟩) hyw _).setCell (p := ⟨y1, 3, none⟩) hyw _) (Nat.le_refl _))
            | some b =>
              have HX : Hid (O = some ⟨x0, kPages, (a : Int), (b : Int)⟩) := by rw [HO.out, h2, h3]; rfl
              have N2 := Lib.hid (fun V => number_some V hl2 h2)
              have N3 := Lib.hid (fun V => number_some V hl3 h3)
              clear h2 h3
              go_wp2_with fail
              refine (N2.out _).mono ?_
              rintro e w3 ⟨rfl, hn⟩
              have hbx := hbx.step hn
              have hby := hby.step hn
              have hbw := hbw.trans (hn.mono hbw.size)
              have c3 : w3.cell? ⟨g, 3, none⟩ = some (.string (B x3)) := (hn.cell (p := ⟨g, 3, none⟩) hg2).trans c3
              clear hn c2
              go_wp2_with fail
              refine (N3.out _).mono ?_
              rintro e w4 ⟨rfl, hn⟩
              have hbx := hbx.step hn
              have hby := hby.step hn
              have hbw := hbw.trans (hn.mono hbw.size)
              clear hn c3
              have q0 := hbx.c0
              have q1 := hbx.c1
              have q2 := hbx.c2
              have q3 := hbx.c3
              have g0 := hbx.ff (i := 0)
              have g1 := hbx.ff (i := 1)
              have g2 := hbx.ff (i := 2)
              have g3 := hbx.ff (i := 3)
              have y0 := hby.c0
              have y1' := hby.c1
              have y2 := hby.c2
              have y3 := hby.c3
              have z2 := hby.ff (i := 2)
              have z3 := hby.ff (i := 3)
              go_wp2
              refine bodyPost_ret (v := .tuple #[.agg #[.string (B x0), .string (B kPages), .int .i64 (a : Int), .int .i64 (b : Int)], .bool true]) (by simp [results, Tryz.results65, go_sem, q0, q1, q2, q3, hne, hne2]) rfl ?_
              exact tret_some HX (below_set4 ((hbw.setCell (p := ⟨y1, 2, none⟩) hyw _).setCell (p := ⟨y1, 3, none⟩) hyw _) (Nat.le_refl _))
        · have HX : Hid (O = none) := by
            by_cases h22 : n = 2
            · rw [T2.out HNO.out (by rw [← HN.out]; exact h22), if_pos HX1.out.symm]; rfl
            · exact TL.out ⟨by rw [← HN.out]; exact h22, by rw [← HN.out]; exact h4⟩
          have e4 : ((n : Int) == 4) = false := by simp; omega
          have e4n : ((n : Int) != 4) = true := by simp; omega
          clear h4
          go_wp2
          refine bodyPost_ret (v := .tuple #[.agg #[.string (B x0), .string (B kPages), .int .i64 0, .int .i64 0], .bool false]) (by simp [results, Tryz.results65, go_sem, q0, q1, q2, q3, hne, hne2]) rfl ?_
          exact tret_none HX (below_set4 hbw (Nat.le_refl _))
      · have e1 : (x1 == [112, 97, 103, 101, 115]) = false := by simpa [kPages] using hk
        have hk' : ¬ ws.getD 1 [] = kPages := by rw [← HX1.out]; exact hk
        by_cases h22 : n = 2
        · have HX : Hid (O = some ⟨x0, x1, 0, 0⟩) := by
            rw [T2.out HNO.out (by rw [← HN.out]; exact h22), if_neg hk', ← HX0.out, ← HX1.out]; rfl
          have e4 : ((n : Int) == 2) = true := by simp; omega
          clear h22 hk hk'
          go_wp2
          refine bodyPost_ret (v := .tuple #[.agg #[.string (B x0), .string (B x1), .int .i64 0, .int .i64 0], .bool true]) (by simp [results, Tryz.results65, go_sem, q0, q1, q2, q3, hne, hne2]) rfl ?_
          exact tret_some HX (below_set4 hbw (Nat.le_refl _))
        · have HX : Hid (O = none) := by
            by_cases h4 : n = 4
            · rw [T4.out HNO.out (by rw [← HN.out]; exact h4), if_neg hk']; rfl
            · exact TL.out ⟨by rw [← HN.out]; exact h22, by rw [← HN.out]; exact h4⟩
          have e4 : ((n : Int) == 2) = false := by simp; omega
          clear h22 hk hk'
          go_wp2
          refine bodyPost_ret (v := .tuple #[.agg #[.string (B x0), .string (B x1), .int .i64 0, .int .i64 0], .bool false]) (by simp [results, Tryz.results65, go_sem, q0, q1, q2, q3, hne, hne2]) rfl ?_
          exact tret_none HX (below_set4 hbw (Nat.le_refl _))
end Go.Proofs.YtmkenekngaihhaaGreatDoor
