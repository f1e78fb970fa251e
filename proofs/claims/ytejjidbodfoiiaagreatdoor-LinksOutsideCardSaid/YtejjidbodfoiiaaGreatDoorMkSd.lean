/-
  Layer 33 (markup): the reader of the chapter: text.
-/
import Derived.Test.YtejjidbodfoiiaaGreatDoorMkSc
import Derived.Deep.DeepCutAuto
import Derived.Deep.RegionHeld3
namespace Go.Proofs.YtejjidbodfoiiaaGreatDoor
open Go.RowKit
set_option linter.unusedVariables false
set_option linter.unusedSimpArgs false
attribute [local go_sem] B_data B_size
attribute [local go_sem ↓] Go.wp_at_zero Go.wp_at_succ

def NzPost (rb : Nat) (s : ByteArray) (r : Except Int (Nd × List UInt8)) (w : World) (e : Ending) (w' : World) : Prop := ∃ c : NC, e = .returned (.agg #[.string (B c.nm), .string (B c.tx), .slice c.A c.na c.ca, .slice c.K c.nk c.ck]) ∧ w.grownBy w' (some rb) ∧ ∃ (k : Nat) (x : Int), k ≤ s.size ∧ Ry w' rb s k x ∧ match r with
  | .error y => x = y
  | .ok (n, l) => x = 0 ∧ NdAt w' (fun b => w.heap.size ≤ b ∧ b < w'.heap.size) n c ∧ s.toList.drop k = l
/-- what is known while a text is read -/
structure TI (w : World) (rb : Nat) (s : ByteArray) (k : Nat) (x : Int) (W : World) : Prop where
  r : Ry W rb s k x
  p : Bx W w.heap.size nc0
  g : w.grownBy W (some rb)
theorem TI.grow {w W w' : World} {rb k k' : Nat} {s : ByteArray} {x x' : Int} (h : TI w rb s k x W) (hg : W.grownBy w' (some rb)) (hr : Ry w' rb s k' x') (hne : rb ≠ w.heap.size) : TI w rb s k' x' w' :=
  ⟨hr, h.p.grown hg (fun e => hne e.symm), grown_trans h.g hg⟩
theorem TI.below {w W w' : World} {rb k : Nat} {s : ByteArray} {x : Int} (h : TI w rb s k x W) (hb : Below W.heap.size W w') (hne : rb ≠ w.heap.size) : TI w rb s k x w' :=
  h.grow (grown_of_below hb _) (h.r.below hb h.r.lt) hne
/-- the text is clean, or there is an error -/
def TxQ (w : World) (rb : Nat) (s : ByteArray) (k t : Nat) (tx : List UInt8) (R : Except Int (Nd × List UInt8)) (W : World) : Prop :=
  ∃ x : Int, TI w rb s k x W ∧ ((x ≠ 0 ∧ R = .error x) ∨ (x = 0 ∧ R = match unesc tx with | none => .error 5 | some u => .ok (.mk [] u [] [], s.toList.drop t)))
set_option maxHeartbeats 8000000 in
set_option maxRecDepth 100000 in
theorem rtextN_any (rb : Nat) (s : ByteArray) (k : Nat) (kid : Bool) (w : World) (h : Ry w rb s k 0) (hk : k ≤ s.size) (hs : s.size ≤ 1000000000) :
    Calls Tryz.prog 113 #[.pointer (some ⟨rb, 0, none⟩), .bool kid] w (NzPost rb s (pData kid (s.toList.drop k)) w) := by
  have hlt := h.lt
  have hne : rb ≠ w.heap.size := by omega
  have hT : TI w rb s k 0 (w.alloc (.cells #[.string ⟨#[]⟩, .string ⟨#[]⟩, .slice none 0 0, .slice none 0 0] 65)) := ⟨h.alloc _, heap_alloc_new w _, grown_alloc (grown_refl _ _) _⟩
  have hdl := drop_len s k
  have htw := tw_len notL (s.toList.drop k)
  have CU := Lib.hid (until_any rb s k 0 60 _ hT.r hk hs)
  have hq : idxK (fun b => b != 60) k (s.toList.drop k) = idxK notL k (s.toList.drop k) := rfl
  rw [hq] at CU
  have HPD : Hid (pData kid (s.toList.drop k) = if (s.toList.drop k).dropWhile notL = [] ∧ kid = true then .error 4 else match pText ((s.toList.drop k).takeWhile notL) with | .error e => .error e | .ok u => .ok (.mk [] u [] [], (s.toList.drop k).dropWhile notL)) := rfl
  have HTW := Lib.hid (tw_take notL (s.toList.drop k))
  clear hq h
  go_enter Tryz.func113, Tryz.ntmps113
  by_cases hdw : (s.toList.drop k).dropWhile notL = []
  · have hi : idxK notL k (s.toList.drop k) = -1 := by unfold idxK; rw [if_pos hdw]
    rw [hi] at CU
    have htl : (s.toList.drop k).takeWhile notL = s.toList.drop k := by
      have := @List.takeWhile_append_dropWhile _ notL (s.toList.drop k)
      rw [hdw, List.append_nil] at this
      exact this
    have htk : (s.toList.take s.size).drop k = s.toList.drop k := by rw [List.take_of_length_le (by rw [len_toList]; omega)]
    have hdn : (s.toList.drop k).dropWhile notL = s.toList.drop s.size := by rw [hdw, List.drop_of_length_le (by rw [len_toList]; omega)]
    cases kid
    · have HX : Hid (pData false (s.toList.drop k) = if (0 : Int) = 0 then (match pText ((s.toList.take s.size).drop k) with | .error e => .error e | .ok u => .ok (.mk [] u [] [], s.toList.drop s.size)) else .error 0) := by
        rw [HPD.out, if_neg (by simp), if_pos rfl, htk, htl, hdn]; rfl
      clear HPD HTW hdw hi htl htk hdn
      go_wp2_with fail
      refine CU.out.mono ?_
      rintro e w2 ⟨rfl, rfl⟩
      have c0 := hT.r.c0
      clear CU hdl htw
      obtain ⟨x, hx⟩ : ∃ x : Int, x = 0 := ⟨_, rfl⟩
      have HP : Hid (pData false (s.toList.drop k) = if x = 0 then (match pText ((s.toList.take s.size).drop k) with | .error e => .error e | .ok u => .ok (.mk [] u [] [], s.toList.drop s.size)) else .error x) := by rw [hx]; exact HX.out
      have hT0 := hT
      rw [← hx] at hT0
      have hT := hT0
      clear hT0 HX hx
      have t1 : k ≤ s.size := hk
      have t2 : s.size ≤ s.size := Nat.le_refl _
      have ex : s.extract k s.size = B ((s.toList.take s.size).drop k) := B_extract s k s.size
      have i1 : (0 : Int) ≤ (k : Int) := by omega
      have i2 : (k : Int) ≤ (s.size : Int) := by omega
      have i3 : (s.size : Int) ≤ (s.size : Int) := by omega
      have hxl : ((s.toList.take s.size).drop k).length ≤ 1000000000 := by rw [List.length_drop, List.length_take, len_toList]; omega
      generalize (s.toList.take s.size).drop k = tx at *
      have CV := Lib.hid (fun V => rvalid_any (B tx) V (by rw [B_size]; omega))
      rw [B_data] at CV
      have hT1 := hT.below (below_of_drewN _ _ 1) hne
      go_wp2
      have hT := hT1
      clear hT1
      go_region_held3 (fun w' => w'.cell? ⟨rb, 0, none⟩ = some (.string s) ∧ w'.cell? ⟨rb, 1, none⟩ = some (.int .i64 (k : Int)))
        (first | exact ⟨hT.r.c0, hT.r.c1⟩)
        (first
          | (go_at_call 138; refine (CV.out _).mono ?_; rintro e w' ⟨rfl, hb⟩; have hT' := hT.below hb hne; clear hT hb; have hT := hT'; clear hT'))
      go_upto_if 34 with fail
      go_cut [] (fun wx => TxQ w rb s k s.size tx (pData false (s.toList.drop k)) wx)
      case first =>
        cases hv : validB tx
        · have HX : Hid (ferr x 17 ≠ 0 ∧ pData false (s.toList.drop k) = .error (ferr x 17)) := by
            by_cases hx : x = 0
            · subst hx
              rw [ferr_zero]
              refine ⟨by omega, ?_⟩
              rw [HP.out, if_pos rfl, pText, if_pos hv]
            · rw [ferr_ne 17 hx]
              exact ⟨hx, by rw [HP.out, if_neg hx]⟩
          have CF := Lib.hid (fail_any rb s k x 17 _ hT.r)
          clear HP hv
          go_wp2_with fail
          refine CF.out.mono ?_
          rintro e w6 ⟨rfl, hg6, hR6⟩
          have hT6 := hT.grow hg6 hR6 hne
          clear CF hg6 hR6 hT
          go_wp2
          go_meet
          exact ⟨_, hT6, .inl HX.out⟩
        · have HX : Hid ((x ≠ 0 ∧ pData false (s.toList.drop k) = .error x) ∨ (x = 0 ∧ pData false (s.toList.drop k) = match unesc tx with | none => .error 5 | some u => .ok (.mk [] u [] [], s.toList.drop s.size))) := by
            by_cases hx : x = 0
            · refine .inr ⟨hx, ?_⟩
              rw [HP.out, if_pos hx, pText, if_neg (by simp [hv])]
              cases unesc tx <;> rfl
            · exact .inl ⟨hx, by rw [HP.out, if_neg hx]⟩
          clear HP hv
          go_wp2
          go_meet
          exact ⟨_, hT, HX.out⟩
      case rest =>
        obtain ⟨x2, hT2, hx2⟩ := hcut
        have HX2 := Lib.hid hx2
        clear hx2 HP hT
        have hbA := below_alloc wc (.cells #[.string ⟨#[]⟩, .string ⟨#[]⟩, .slice none 0 0, .slice none 0 0] 65)
        have hB0 : Bx ((wc.alloc (.cells #[.string ⟨#[]⟩, .string ⟨#[]⟩, .slice none 0 0, .slice none 0 0] 65)).drewN 1) wc.heap.size nc0 := heap_alloc_new wc _
        have hT0 := (hT2.below hbA hne).below (below_of_drewN _ _ 1) hne
        have CR1 : Hid (Calls Tryz.prog 139 #[.pointer (some ⟨rb, 0, none⟩), .string (B tx)] (wc.alloc (.cells #[.string ⟨#[]⟩, .string ⟨#[]⟩, .slice none 0 0, .slice none 0 0] 65)).drew (RwPost rb s k x2 tx (wc.alloc (.cells #[.string ⟨#[]⟩, .string ⟨#[]⟩, .slice none 0 0, .slice none 0 0] 65)).drew)) := raw_any rb s k x2 tx _ hT0.r hxl
        have CR2 : Hid (Calls Tryz.prog 139 #[.pointer (some ⟨rb, 0, none⟩), .string (B tx)] wc.drew (RwPost rb s k x2 tx wc.drew)) := raw_any rb s k x2 tx _ hT2.r hxl
        have hnq : wc.heap.size ≠ rb := by have := hT2.r.lt; omega
        have hnw : wc.heap.size ≠ w.heap.size := by have := hT2.p.lt; omega
        have hlq : w.heap.size ≤ wc.heap.size := hT2.g.size
        have hT3 : TI w rb s k x2 wc.drew := hT2.below (below_of_drewN _ _ 1) hne
        have kA : wc.cell? ⟨rb, 0, none⟩ = some (.string s) ∧ wc.cell? ⟨rb, 1, none⟩ = some (.int .i64 (k : Int)) := ⟨hT2.r.c0, hT2.r.c1⟩
        have kB : (wc.alloc (.cells #[.string ⟨#[]⟩, .string ⟨#[]⟩, .slice none 0 0, .slice none 0 0] 65)).cell? ⟨rb, 0, none⟩ = some (.string s) ∧ (wc.alloc (.cells #[.string ⟨#[]⟩, .string ⟨#[]⟩, .slice none 0 0, .slice none 0 0] 65)).cell? ⟨rb, 1, none⟩ = some (.int .i64 (k : Int)) := ⟨(hT2.r.alloc _).c0, (hT2.r.alloc _).c1⟩
        clear hbA
        go_wp2
        go_region_held3 (fun w' => w'.cell? ⟨rb, 0, none⟩ = some (.string s) ∧ w'.cell? ⟨rb, 1, none⟩ = some (.int .i64 (k : Int)))
          (first | exact kA | exact kB | exact kC | exact kD | exact kE)
          (first
            | (go_at_call 139; (with_reducible refine CR1.out.mono ?_); rintro e w5 ⟨u, x', rfl, hg, hR, h1, h2⟩; have HU1 := Lib.hid h1; have HU2 := Lib.hid h2; clear h1 h2 kA kB; have hB := hB0.grown hg hnq; have hT := hT0.grow hg hR hne; have p0 := hB.c0; have p1 := hB.c1; have p2 := hB.c2; have p3 := hB.c3; have pf0 := hB.ff (i := 0); have pf1 := hB.ff (i := 1); have pf2 := hB.ff (i := 2); have pf3 := hB.ff (i := 3); have kC : w5.cell? ⟨rb, 0, none⟩ = some (.string s) ∧ w5.cell? ⟨rb, 1, none⟩ = some (.int .i64 (k : Int)) := ⟨hT.r.c0, hT.r.c1⟩; have kD : ((((w5.setCell ⟨wc.heap.size, 0, none⟩ (.string ⟨#[]⟩)).setCell ⟨wc.heap.size, 1, none⟩ (.string (B u))).setCell ⟨wc.heap.size, 2, none⟩ (.slice none 0 0)).setCell ⟨wc.heap.size, 3, none⟩ (.slice none 0 0)).cell? ⟨rb, 0, none⟩ = some (.string s) ∧ ((((w5.setCell ⟨wc.heap.size, 0, none⟩ (.string ⟨#[]⟩)).setCell ⟨wc.heap.size, 1, none⟩ (.string (B u))).setCell ⟨wc.heap.size, 2, none⟩ (.slice none 0 0)).setCell ⟨wc.heap.size, 3, none⟩ (.slice none 0 0)).cell? ⟨rb, 1, none⟩ = some (.int .i64 (k : Int)) := ⟨(cell_block (blk_set4 hnq)).trans hT.r.c0, (cell_block (blk_set4 hnq)).trans hT.r.c1⟩)
            | (go_at_call 139; (with_reducible refine CR2.out.mono ?_); rintro e w5 ⟨u, x', rfl, hg, hR, h1, h2⟩; have HU1 := Lib.hid h1; have HU2 := Lib.hid h2; clear h1 h2 kA kB; have hT := hT3.grow hg hR hne; have kC : w5.cell? ⟨rb, 0, none⟩ = some (.string s) ∧ w5.cell? ⟨rb, 1, none⟩ = some (.int .i64 (k : Int)) := ⟨hT.r.c0, hT.r.c1⟩; have kD : (w5.alloc (.cells #[.string ⟨#[]⟩, .string (B u), .slice none 0 0, .slice none 0 0] 65)).cell? ⟨rb, 0, none⟩ = some (.string s) ∧ (w5.alloc (.cells #[.string ⟨#[]⟩, .string (B u), .slice none 0 0, .slice none 0 0] 65)).cell? ⟨rb, 1, none⟩ = some (.int .i64 (k : Int)) := ⟨(hT.r.alloc _).c0, (hT.r.alloc _).c1⟩; have kE : (w5.alloc (.cells #[.string ⟨#[]⟩, .string ⟨#[]⟩, .slice none 0 0, .slice none 0 0] 65)).cell? ⟨rb, 0, none⟩ = some (.string s) ∧ (w5.alloc (.cells #[.string ⟨#[]⟩, .string ⟨#[]⟩, .slice none 0 0, .slice none 0 0] 65)).cell? ⟨rb, 1, none⟩ = some (.int .i64 (k : Int)) := ⟨(hT.r.alloc _).c0, (hT.r.alloc _).c1⟩))
        · have hB6 : Bx (w5.alloc (.cells #[.string ⟨#[]⟩, .string (B u), .slice none 0 0, .slice none 0 0] 65)) w5.heap.size ⟨[], u, none, 0, 0, none, 0, 0⟩ := Bx.new w5 ⟨[], u, none, 0, 0, none, 0, 0⟩
          have hT6 := hT.below (below_alloc w5 (.cells #[.string ⟨#[]⟩, .string (B u), .slice none 0 0, .slice none 0 0] 65)) hne
          have hq1 : w5.heap.size ≠ rb := by have := hT.r.lt; omega
          have hq2 : w5.heap.size ≠ w.heap.size := by have := hT.p.lt; omega
          clear kE
          generalize w5.alloc (.cells #[.string ⟨#[]⟩, .string (B u), .slice none 0 0, .slice none 0 0] 65) = W6 at *
          generalize w5.heap.size = q at *
          have hfin : Hid ((x' ≠ 0 ∧ pData false (s.toList.drop k) = .error x') ∨ (x' = 0 ∧ pData false (s.toList.drop k) = .ok (.mk [] u [] [], s.toList.drop s.size))) := by
            rcases HX2.out with ⟨h0, he⟩ | ⟨h0, he⟩
            · rw [HU1.out h0]; exact .inl ⟨h0, he⟩
            · have hu := HU2.out h0
              cases hun : unesc tx with
              | none =>
                rw [hun] at hu he
                exact .inl ⟨by have hu : x' = 5 := hu
                               omega, by rw [he]; have hu : x' = 5 := hu
                                         rw [hu]⟩
              | some v =>
                rw [hun] at hu he
                obtain ⟨h5, rfl⟩ := hu
                exact .inr ⟨h5, he⟩
          clear HX2 HU1 HU2 CR1 CR2 hT hT0 hT2 hT3 kC kD hB0
          have hR7 := hT6.r.setK (m := s.size)
          have g7 := grown_trans hT6.g (grown_setC W6 rb 1 (.int .i64 ((s.size : Nat) : Int)))
          have hP7 : Bx _ w.heap.size nc0 := (blk_set (w := W6) (c := rb) (i := 1) (u := .int .i64 ((s.size : Nat) : Int)) hne).trans hT6.p
          have hB7 : Bx _ q ⟨[], u, none, 0, 0, none, 0, 0⟩ := (blk_set (w := W6) (c := rb) (i := 1) (u := .int .i64 ((s.size : Nat) : Int)) (Ne.symm hq1)).trans hB6
          have c1 := hT6.r.c1
          have cf := hT6.r.ff (i := 1)
          have b0 := hB7.c0
          have b1 := hB7.c1
          have b2 := hB7.c2
          have b3 := hB7.c3
          have p0 := hP7.c0
          have p1 := hP7.c1
          have p2 := hP7.c2
          have p3 := hP7.c3
          have pf0 := hP7.ff (i := 0)
          have pf1 := hP7.ff (i := 1)
          have pf2 := hP7.ff (i := 2)
          have pf3 := hP7.ff (i := 3)
          clear hT6 hB6
          have hne2 : w.heap.size ≠ rb := hne.symm
          go_wp2
          refine bodyPost_ret (v := .agg #[.string (B []), .string (B u), .slice none 0 0, .slice none 0 0]) (by simp [results, Tryz.results113, go_sem, p0, p1, p2, p3]) rfl ?_
          refine ⟨⟨[], u, none, 0, 0, none, 0, 0⟩, rfl, grown_set4 g7 (Nat.le_refl _), s.size, x', t2, (blk_set4 hne.symm).trans hR7, ?_⟩
          rcases hfin.out with ⟨_, he⟩ | ⟨h0, he⟩
          · rw [he]
          · rw [he]; exact ⟨h0, nd_text _ _ u, rfl⟩
        · have hB6 : Bx ((((w5.setCell ⟨wc.heap.size, 0, none⟩ (.string ⟨#[]⟩)).setCell ⟨wc.heap.size, 1, none⟩ (.string (B u))).setCell ⟨wc.heap.size, 2, none⟩ (.slice none 0 0)).setCell ⟨wc.heap.size, 3, none⟩ (.slice none 0 0)) wc.heap.size ⟨[], u, none, 0, 0, none, 0, 0⟩ := hB.set4 (c' := ⟨[], u, none, 0, 0, none, 0, 0⟩)
          have hT6 : TI w rb s k x' ((((w5.setCell ⟨wc.heap.size, 0, none⟩ (.string ⟨#[]⟩)).setCell ⟨wc.heap.size, 1, none⟩ (.string (B u))).setCell ⟨wc.heap.size, 2, none⟩ (.slice none 0 0)).setCell ⟨wc.heap.size, 3, none⟩ (.slice none 0 0)) :=
            ⟨(blk_set4 hnq).trans hT.r, (blk_set4 hnw).trans hT.p, grown_set4 hT.g hlq⟩
          have hq1 := hnq
          have hq2 := hnw
          clear p0 p1 p2 p3 pf0 pf1 pf2 pf3 hB
          generalize ((((w5.setCell ⟨wc.heap.size, 0, none⟩ (.string ⟨#[]⟩)).setCell ⟨wc.heap.size, 1, none⟩ (.string (B u))).setCell ⟨wc.heap.size, 2, none⟩ (.slice none 0 0)).setCell ⟨wc.heap.size, 3, none⟩ (.slice none 0 0)) = W6 at *
          generalize wc.heap.size = q at *
          have hfin : Hid ((x' ≠ 0 ∧ pData false (s.toList.drop k) = .error x') ∨ (x' = 0 ∧ pData false (s.toList.drop k) = .ok (.mk [] u [] [], s.toList.drop s.size))) := by
            rcases HX2.out with ⟨h0, he⟩ | ⟨h0, he⟩
            · rw [HU1.out h0]; exact .inl ⟨h0, he⟩
            · have hu := HU2.out h0
              cases hun : unesc tx with
              | none =>
                rw [hun] at hu he
                exact .inl ⟨by have hu : x' = 5 := hu
                               omega, by rw [he]; have hu : x' = 5 := hu
                                         rw [hu]⟩
              | some v =>
                rw [hun] at hu he
                obtain ⟨h5, rfl⟩ := hu
                exact .inr ⟨h5, he⟩
          clear HX2 HU1 HU2 CR1 CR2 hT hT0 hT2 hT3 kC kD hB0
          have hR7 := hT6.r.setK (m := s.size)
          have g7 := grown_trans hT6.g (grown_setC W6 rb 1 (.int .i64 ((s.size : Nat) : Int)))
          have hP7 : Bx _ w.heap.size nc0 := (blk_set (w := W6) (c := rb) (i := 1) (u := .int .i64 ((s.size : Nat) : Int)) hne).trans hT6.p
          have hB7 : Bx _ q ⟨[], u, none, 0, 0, none, 0, 0⟩ := (blk_set (w := W6) (c := rb) (i := 1) (u := .int .i64 ((s.size : Nat) : Int)) (Ne.symm hq1)).trans hB6
          have c1 := hT6.r.c1
          have cf := hT6.r.ff (i := 1)
          have b0 := hB7.c0
          have b1 := hB7.c1
          have b2 := hB7.c2
          have b3 := hB7.c3
          have p0 := hP7.c0
          have p1 := hP7.c1
          have p2 := hP7.c2
          have p3 := hP7.c3
          have pf0 := hP7.ff (i := 0)
          have pf1 := hP7.ff (i := 1)
          have pf2 := hP7.ff (i := 2)
          have pf3 := hP7.ff (i := 3)
          clear hT6 hB6
          have hne2 : w.heap.size ≠ rb := hne.symm
          go_wp2
          refine bodyPost_ret (v := .agg #[.string (B []), .string (B u), .slice none 0 0, .slice none 0 0]) (by simp [results, Tryz.results113, go_sem, p0, p1, p2, p3]) rfl ?_
          refine ⟨⟨[], u, none, 0, 0, none, 0, 0⟩, rfl, grown_set4 g7 (Nat.le_refl _), s.size, x', t2, (blk_set4 hne.symm).trans hR7, ?_⟩
          rcases hfin.out with ⟨_, he⟩ | ⟨h0, he⟩
          · rw [he]
          · rw [he]; exact ⟨h0, nd_text _ _ u, rfl⟩

    · have HX : Hid (pData true (s.toList.drop k) = if (4 : Int) = 0 then (match pText ((s.toList.take s.size).drop k) with | .error e => .error e | .ok u => .ok (.mk [] u [] [], s.toList.drop s.size)) else .error 4) := by
        rw [HPD.out, if_pos ⟨hdw, rfl⟩, if_neg (by omega)]; rfl
      have CF := Lib.hid (fail_any rb s k 0 4 _ hT.r)
      clear HPD HTW hdw hi htl htk hdn
      go_wp2_with fail
      refine CU.out.mono ?_
      rintro e w2 ⟨rfl, rfl⟩
      go_wp2_with fail
      refine CF.out.mono ?_
      rw [ferr_zero]
      rintro e w3 ⟨rfl, hg3, hR3⟩
      have hT3 := hT.grow hg3 hR3 hne
      have c0 := hR3.c0
      clear hg3 hR3 hT CF CU hdl htw
      have hT := hT3
      clear hT3
      obtain ⟨x, hx⟩ : ∃ x : Int, x = 4 := ⟨_, rfl⟩
      have HP : Hid (pData true (s.toList.drop k) = if x = 0 then (match pText ((s.toList.take s.size).drop k) with | .error e => .error e | .ok u => .ok (.mk [] u [] [], s.toList.drop s.size)) else .error x) := by rw [hx]; exact HX.out
      have hT0 := hT
      rw [← hx] at hT0
      have hT := hT0
      clear hT0 HX hx
      have t1 : k ≤ s.size := hk
      have t2 : s.size ≤ s.size := Nat.le_refl _
      have ex : s.extract k s.size = B ((s.toList.take s.size).drop k) := B_extract s k s.size
      have i1 : (0 : Int) ≤ (k : Int) := by omega
      have i2 : (k : Int) ≤ (s.size : Int) := by omega
      have i3 : (s.size : Int) ≤ (s.size : Int) := by omega
      have hxl : ((s.toList.take s.size).drop k).length ≤ 1000000000 := by rw [List.length_drop, List.length_take, len_toList]; omega
      generalize (s.toList.take s.size).drop k = tx at *
      have CV := Lib.hid (fun V => rvalid_any (B tx) V (by rw [B_size]; omega))
      rw [B_data] at CV
      have hT1 := hT.below (below_of_drewN _ _ 1) hne
      go_wp2
      have hT := hT1
      clear hT1
      go_region_held3 (fun w' => w'.cell? ⟨rb, 0, none⟩ = some (.string s) ∧ w'.cell? ⟨rb, 1, none⟩ = some (.int .i64 (k : Int)))
        (first | exact ⟨hT.r.c0, hT.r.c1⟩)
        (first
          | (go_at_call 138; refine (CV.out _).mono ?_; rintro e w' ⟨rfl, hb⟩; have hT' := hT.below hb hne; clear hT hb; have hT := hT'; clear hT'))
      go_upto_if 34 with fail
      go_cut [] (fun wx => TxQ w rb s k s.size tx (pData true (s.toList.drop k)) wx)
      case first =>
        cases hv : validB tx
        · have HX : Hid (ferr x 17 ≠ 0 ∧ pData true (s.toList.drop k) = .error (ferr x 17)) := by
            by_cases hx : x = 0
            · subst hx
              rw [ferr_zero]
              refine ⟨by omega, ?_⟩
              rw [HP.out, if_pos rfl, pText, if_pos hv]
            · rw [ferr_ne 17 hx]
              exact ⟨hx, by rw [HP.out, if_neg hx]⟩
          have CF := Lib.hid (fail_any rb s k x 17 _ hT.r)
          clear HP hv
          go_wp2_with fail
          refine CF.out.mono ?_
          rintro e w6 ⟨rfl, hg6, hR6⟩
          have hT6 := hT.grow hg6 hR6 hne
          clear CF hg6 hR6 hT
          go_wp2
          go_meet
          exact ⟨_, hT6, .inl HX.out⟩
        · have HX : Hid ((x ≠ 0 ∧ pData true (s.toList.drop k) = .error x) ∨ (x = 0 ∧ pData true (s.toList.drop k) = match unesc tx with | none => .error 5 | some u => .ok (.mk [] u [] [], s.toList.drop s.size))) := by
            by_cases hx : x = 0
            · refine .inr ⟨hx, ?_⟩
              rw [HP.out, if_pos hx, pText, if_neg (by simp [hv])]
              cases unesc tx <;> rfl
            · exact .inl ⟨hx, by rw [HP.out, if_neg hx]⟩
          clear HP hv
          go_wp2
          go_meet
          exact ⟨_, hT, HX.out⟩
      case rest =>
        obtain ⟨x2, hT2, hx2⟩ := hcut
        have HX2 := Lib.hid hx2
        clear hx2 HP hT
        have hbA := below_alloc wc (.cells #[.string ⟨#[]⟩, .string ⟨#[]⟩, .slice none 0 0, .slice none 0 0] 65)
        have hB0 : Bx ((wc.alloc (.cells #[.string ⟨#[]⟩, .string ⟨#[]⟩, .slice none 0 0, .slice none 0 0] 65)).drewN 1) wc.heap.size nc0 := heap_alloc_new wc _
        have hT0 := (hT2.below hbA hne).below (below_of_drewN _ _ 1) hne
        have CR1 : Hid (Calls Tryz.prog 139 #[.pointer (some ⟨rb, 0, none⟩), .string (B tx)] (wc.alloc (.cells #[.string ⟨#[]⟩, .string ⟨#[]⟩, .slice none 0 0, .slice none 0 0] 65)).drew (RwPost rb s k x2 tx (wc.alloc (.cells #[.string ⟨#[]⟩, .string ⟨#[]⟩, .slice none 0 0, .slice none 0 0] 65)).drew)) := raw_any rb s k x2 tx _ hT0.r hxl
        have CR2 : Hid (Calls Tryz.prog 139 #[.pointer (some ⟨rb, 0, none⟩), .string (B tx)] wc.drew (RwPost rb s k x2 tx wc.drew)) := raw_any rb s k x2 tx _ hT2.r hxl
        have hnq : wc.heap.size ≠ rb := by have := hT2.r.lt; omega
        have hnw : wc.heap.size ≠ w.heap.size := by have := hT2.p.lt; omega
        have hlq : w.heap.size ≤ wc.heap.size := hT2.g.size
        have hT3 : TI w rb s k x2 wc.drew := hT2.below (below_of_drewN _ _ 1) hne
        have kA : wc.cell? ⟨rb, 0, none⟩ = some (.string s) ∧ wc.cell? ⟨rb, 1, none⟩ = some (.int .i64 (k : Int)) := ⟨hT2.r.c0, hT2.r.c1⟩
        have kB : (wc.alloc (.cells #[.string ⟨#[]⟩, .string ⟨#[]⟩, .slice none 0 0, .slice none 0 0] 65)).cell? ⟨rb, 0, none⟩ = some (.string s) ∧ (wc.alloc (.cells #[.string ⟨#[]⟩, .string ⟨#[]⟩, .slice none 0 0, .slice none 0 0] 65)).cell? ⟨rb, 1, none⟩ = some (.int .i64 (k : Int)) := ⟨(hT2.r.alloc _).c0, (hT2.r.alloc _).c1⟩
        clear hbA
        go_wp2
        go_region_held3 (fun w' => w'.cell? ⟨rb, 0, none⟩ = some (.string s) ∧ w'.cell? ⟨rb, 1, none⟩ = some (.int .i64 (k : Int)))
          (first | exact kA | exact kB | exact kC | exact kD | exact kE)
          (first
            | (go_at_call 139; (with_reducible refine CR1.out.mono ?_); rintro e w5 ⟨u, x', rfl, hg, hR, h1, h2⟩; have HU1 := Lib.hid h1; have HU2 := Lib.hid h2; clear h1 h2 kA kB; have hB := hB0.grown hg hnq; have hT := hT0.grow hg hR hne; have p0 := hB.c0; have p1 := hB.c1; have p2 := hB.c2; have p3 := hB.c3; have pf0 := hB.ff (i := 0); have pf1 := hB.ff (i := 1); have pf2 := hB.ff (i := 2); have pf3 := hB.ff (i := 3); have kC : w5.cell? ⟨rb, 0, none⟩ = some (.string s) ∧ w5.cell? ⟨rb, 1, none⟩ = some (.int .i64 (k : Int)) := ⟨hT.r.c0, hT.r.c1⟩; have kD : ((((w5.setCell ⟨wc.heap.size, 0, none⟩ (.string ⟨#[]⟩)).setCell ⟨wc.heap.size, 1, none⟩ (.string (B u))).setCell ⟨wc.heap.size, 2, none⟩ (.slice none 0 0)).setCell ⟨wc.heap.size, 3, none⟩ (.slice none 0 0)).cell? ⟨rb, 0, none⟩ = some (.string s) ∧ ((((w5.setCell ⟨wc.heap.size, 0, none⟩ (.string ⟨#[]⟩)).setCell ⟨wc.heap.size, 1, none⟩ (.string (B u))).setCell ⟨wc.heap.size, 2, none⟩ (.slice none 0 0)).setCell ⟨wc.heap.size, 3, none⟩ (.slice none 0 0)).cell? ⟨rb, 1, none⟩ = some (.int .i64 (k : Int)) := ⟨(cell_block (blk_set4 hnq)).trans hT.r.c0, (cell_block (blk_set4 hnq)).trans hT.r.c1⟩)
            | (go_at_call 139; (with_reducible refine CR2.out.mono ?_); rintro e w5 ⟨u, x', rfl, hg, hR, h1, h2⟩; have HU1 := Lib.hid h1; have HU2 := Lib.hid h2; clear h1 h2 kA kB; have hT := hT3.grow hg hR hne; have kC : w5.cell? ⟨rb, 0, none⟩ = some (.string s) ∧ w5.cell? ⟨rb, 1, none⟩ = some (.int .i64 (k : Int)) := ⟨hT.r.c0, hT.r.c1⟩; have kD : (w5.alloc (.cells #[.string ⟨#[]⟩, .string (B u), .slice none 0 0, .slice none 0 0] 65)).cell? ⟨rb, 0, none⟩ = some (.string s) ∧ (w5.alloc (.cells #[.string ⟨#[]⟩, .string (B u), .slice none 0 0, .slice none 0 0] 65)).cell? ⟨rb, 1, none⟩ = some (.int .i64 (k : Int)) := ⟨(hT.r.alloc _).c0, (hT.r.alloc _).c1⟩; have kE : (w5.alloc (.cells #[.string ⟨#[]⟩, .string ⟨#[]⟩, .slice none 0 0, .slice none 0 0] 65)).cell? ⟨rb, 0, none⟩ = some (.string s) ∧ (w5.alloc (.cells #[.string ⟨#[]⟩, .string ⟨#[]⟩, .slice none 0 0, .slice none 0 0] 65)).cell? ⟨rb, 1, none⟩ = some (.int .i64 (k : Int)) := ⟨(hT.r.alloc _).c0, (hT.r.alloc _).c1⟩))
        · have hB6 : Bx (w5.alloc (.cells #[.string ⟨#[]⟩, .string (B u), .slice none 0 0, .slice none 0 0] 65)) w5.heap.size ⟨[], u, none, 0, 0, none, 0, 0⟩ := Bx.new w5 ⟨[], u, none, 0, 0, none, 0, 0⟩
          have hT6 := hT.below (below_alloc w5 (.cells #[.string ⟨#[]⟩, .string (B u), .slice none 0 0, .slice none 0 0] 65)) hne
          have hq1 : w5.heap.size ≠ rb := by have := hT.r.lt; omega
          have hq2 : w5.heap.size ≠ w.heap.size := by have := hT.p.lt; omega
          clear kE
          generalize w5.alloc (.cells #[.string ⟨#[]⟩, .string (B u), .slice none 0 0, .slice none 0 0] 65) = W6 at *
          generalize w5.heap.size = q at *
          have hfin : Hid ((x' ≠ 0 ∧ pData true (s.toList.drop k) = .error x') ∨ (x' = 0 ∧ pData true (s.toList.drop k) = .ok (.mk [] u [] [], s.toList.drop s.size))) := by
            rcases HX2.out with ⟨h0, he⟩ | ⟨h0, he⟩
            · rw [HU1.out h0]; exact .inl ⟨h0, he⟩
            · have hu := HU2.out h0
              cases hun : unesc tx with
              | none =>
                rw [hun] at hu he
                exact .inl ⟨by have hu : x' = 5 := hu
                               omega, by rw [he]; have hu : x' = 5 := hu
                                         rw [hu]⟩
              | some v =>
                rw [hun] at hu he
                obtain ⟨h5, rfl⟩ := hu
                exact .inr ⟨h5, he⟩
          clear HX2 HU1 HU2 CR1 CR2 hT hT0 hT2 hT3 kC kD hB0
          have hR7 := hT6.r.setK (m := s.size)
          have g7 := grown_trans hT6.g (grown_setC W6 rb 1 (.int .i64 ((s.size : Nat) : Int)))
          have hP7 : Bx _ w.heap.size nc0 := (blk_set (w := W6) (c := rb) (i := 1) (u := .int .i64 ((s.size : Nat) : Int)) hne).trans hT6.p
          have hB7 : Bx _ q ⟨[], u, none, 0, 0, none, 0, 0⟩ := (blk_set (w := W6) (c := rb) (i := 1) (u := .int .i64 ((s.size : Nat) : Int)) (Ne.symm hq1)).trans hB6
          have c1 := hT6.r.c1
          have cf := hT6.r.ff (i := 1)
          have b0 := hB7.c0
          have b1 := hB7.c1
          have b2 := hB7.c2
          have b3 := hB7.c3
          have p0 := hP7.c0
          have p1 := hP7.c1
          have p2 := hP7.c2
          have p3 := hP7.c3
          have pf0 := hP7.ff (i := 0)
          have pf1 := hP7.ff (i := 1)
          have pf2 := hP7.ff (i := 2)
          have pf3 := hP7.ff (i := 3)
          clear hT6 hB6
          have hne2 : w.heap.size ≠ rb := hne.symm
          go_wp2
          refine bodyPost_ret (v := .agg #[.string (B []), .string (B u), .slice none 0 0, .slice none 0 0]) (by simp [results, Tryz.results113, go_sem, p0, p1, p2, p3]) rfl ?_
          refine ⟨⟨[], u, none, 0, 0, none, 0, 0⟩, rfl, grown_set4 g7 (Nat.le_refl _), s.size, x', t2, (blk_set4 hne.symm).trans hR7, ?_⟩
          rcases hfin.out with ⟨_, he⟩ | ⟨h0, he⟩
          · rw [he]
          · rw [he]; exact ⟨h0, nd_text _ _ u, rfl⟩
        · have hB6 : Bx ((((w5.setCell ⟨wc.heap.size, 0, none⟩ (.string ⟨#[]⟩)).setCell ⟨wc.heap.size, 1, none⟩ (.string (B u))).setCell ⟨wc.heap.size, 2, none⟩ (.slice none 0 0)).setCell ⟨wc.heap.size, 3, none⟩ (.slice none 0 0)) wc.heap.size ⟨[], u, none, 0, 0, none, 0, 0⟩ := hB.set4 (c' := ⟨[], u, none, 0, 0, none, 0, 0⟩)
          have hT6 : TI w rb s k x' ((((w5.setCell ⟨wc.heap.size, 0, none⟩ (.string ⟨#[]⟩)).setCell ⟨wc.heap.size, 1, none⟩ (.string (B u))).setCell ⟨wc.heap.size, 2, none⟩ (.slice none 0 0)).setCell ⟨wc.heap.size, 3, none⟩ (.slice none 0 0)) :=
            ⟨(blk_set4 hnq).trans hT.r, (blk_set4 hnw).trans hT.p, grown_set4 hT.g hlq⟩
          have hq1 := hnq
          have hq2 := hnw
          clear p0 p1 p2 p3 pf0 pf1 pf2 pf3 hB
          generalize ((((w5.setCell ⟨wc.heap.size, 0, none⟩ (.string ⟨#[]⟩)).setCell ⟨wc.heap.size, 1, none⟩ (.string (B u))).setCell ⟨wc.heap.size, 2, none⟩ (.slice none 0 0)).setCell ⟨wc.heap.size, 3, none⟩ (.slice none 0 0)) = W6 at *
          generalize wc.heap.size = q at *
          have hfin : Hid ((x' ≠ 0 ∧ pData true (s.toList.drop k) = .error x') ∨ (x' = 0 ∧ pData true (s.toList.drop k) = .ok (.mk [] u [] [], s.toList.drop s.size))) := by
            rcases HX2.out with ⟨h0, he⟩ | ⟨h0, he⟩
            · rw [HU1.out h0]; exact .inl ⟨h0, he⟩
            · have hu := HU2.out h0
              cases hun : unesc tx with
              | none =>
                rw [hun] at hu he
                exact .inl ⟨by have hu : x' = 5 := hu
                               omega, by rw [he]; have hu : x' = 5 := hu
                                         rw [hu]⟩
              | some v =>
                rw [hun] at hu he
                obtain ⟨h5, rfl⟩ := hu
                exact .inr ⟨h5, he⟩
          clear HX2 HU1 HU2 CR1 CR2 hT hT0 hT2 hT3 kC kD hB0
          have hR7 := hT6.r.setK (m := s.size)
          have g7 := grown_trans hT6.g (grown_setC W6 rb 1 (.int .i64 ((s.size : Nat) : Int)))
          have hP7 : Bx _ w.heap.size nc0 := (blk_set (w := W6) (c := rb) (i := 1) (u := .int .i64 ((s.size : Nat) : Int)) hne).trans hT6.p
          have hB7 : Bx _ q ⟨[], u, none, 0, 0, none, 0, 0⟩ := (blk_set (w := W6) (c := rb) (i := 1) (u := .int .i64 ((s.size : Nat) : Int)) (Ne.symm hq1)).trans hB6
          have c1 := hT6.r.c1
          have cf := hT6.r.ff (i := 1)
          have b0 := hB7.c0
          have b1 := hB7.c1
          have b2 := hB7.c2
          have b3 := hB7.c3
          have p0 := hP7.c0
          have p1 := hP7.c1
          have p2 := hP7.c2
          have p3 := hP7.c3
          have pf0 := hP7.ff (i := 0)
          have pf1 := hP7.ff (i := 1)
          have pf2 := hP7.ff (i := 2)
          have pf3 := hP7.ff (i := 3)
          clear hT6 hB6
          have hne2 : w.heap.size ≠ rb := hne.symm
          go_wp2
          refine bodyPost_ret (v := .agg #[.string (B []), .string (B u), .slice none 0 0, .slice none 0 0]) (by simp [results, Tryz.results113, go_sem, p0, p1, p2, p3]) rfl ?_
          refine ⟨⟨[], u, none, 0, 0, none, 0, 0⟩, rfl, grown_set4 g7 (Nat.le_refl _), s.size, x', t2, (blk_set4 hne.symm).trans hR7, ?_⟩
          rcases hfin.out with ⟨_, he⟩ | ⟨h0, he⟩
          · rw [he]
          · rw [he]; exact ⟨h0, nd_text _ _ u, rfl⟩

  · have hi : idxK notL k (s.toList.drop k) = ((k + ((s.toList.drop k).takeWhile notL).length : Nat) : Int) := by unfold idxK; rw [if_neg hdw]
    rw [hi] at CU
    have HX : Hid (pData kid (s.toList.drop k) = if (0 : Int) = 0 then (match pText ((s.toList.take (k + ((s.toList.drop k).takeWhile notL).length)).drop k) with | .error e => .error e | .ok u => .ok (.mk [] u [] [], s.toList.drop (k + ((s.toList.drop k).takeWhile notL).length))) else .error 0) := by
      rw [HPD.out, if_neg (fun h => hdw h.1), if_pos rfl, List.drop_take, Nat.add_sub_cancel_left, HTW.out.1, ← List.drop_drop, HTW.out.2]; rfl
    obtain ⟨t, ht⟩ : ∃ t, t = k + ((s.toList.drop k).takeWhile notL).length := ⟨_, rfl⟩
    rw [← ht] at CU HX
    have ht1 : k ≤ t := by omega
    have ht2 : t ≤ s.size := by omega
    have d1 : decide ((t : Int) < 0) = false := by simp
    have d2 : ((t : Int) < 0) ↔ False := by simp
    clear ht HPD HTW hdw hi htw d2
    go_wp2_with fail
    refine CU.out.mono ?_
    rintro e w2 ⟨rfl, rfl⟩
    clear CU hdl
    obtain ⟨x, hx⟩ : ∃ x : Int, x = 0 := ⟨_, rfl⟩
    have HP : Hid (pData kid (s.toList.drop k) = if x = 0 then (match pText ((s.toList.take t).drop k) with | .error e => .error e | .ok u => .ok (.mk [] u [] [], s.toList.drop t)) else .error x) := by rw [hx]; exact HX.out
    have hT0 := hT
    rw [← hx] at hT0
    have hT := hT0
    clear hT0 HX hx
    have t1 : k ≤ t := ht1
    have t2 : t ≤ s.size := ht2
    have ex : s.extract k t = B ((s.toList.take t).drop k) := B_extract s k t
    have i1 : (0 : Int) ≤ (k : Int) := by omega
    have i2 : (k : Int) ≤ (t : Int) := by omega
    have i3 : (t : Int) ≤ (s.size : Int) := by omega
    have hxl : ((s.toList.take t).drop k).length ≤ 1000000000 := by rw [List.length_drop, List.length_take, len_toList]; omega
    generalize (s.toList.take t).drop k = tx at *
    have CV := Lib.hid (fun V => rvalid_any (B tx) V (by rw [B_size]; omega))
    rw [B_data] at CV
    have hT1 := hT.below (below_of_drewN _ _ 1) hne
    go_wp2
    have hT := hT1
    clear hT1
    go_region_held3 (fun w' => w'.cell? ⟨rb, 0, none⟩ = some (.string s) ∧ w'.cell? ⟨rb, 1, none⟩ = some (.int .i64 (k : Int)))
      (first | exact ⟨hT.r.c0, hT.r.c1⟩)
      (first
        | (go_at_call 138; refine (CV.out _).mono ?_; rintro e w' ⟨rfl, hb⟩; have hT' := hT.below hb hne; clear hT hb; have hT := hT'; clear hT'))
    go_upto_if 34 with fail
    go_cut [] (fun wx => TxQ w rb s k t tx (pData kid (s.toList.drop k)) wx)
    case first =>
      cases hv : validB tx
      · have HX : Hid (ferr x 17 ≠ 0 ∧ pData kid (s.toList.drop k) = .error (ferr x 17)) := by
          by_cases hx : x = 0
          · subst hx
            rw [ferr_zero]
            refine ⟨by omega, ?_⟩
            rw [HP.out, if_pos rfl, pText, if_pos hv]
          · rw [ferr_ne 17 hx]
            exact ⟨hx, by rw [HP.out, if_neg hx]⟩
        have CF := Lib.hid (fail_any rb s k x 17 _ hT.r)
        clear HP hv
        go_wp2_with fail
        refine CF.out.mono ?_
        rintro e w6 ⟨rfl, hg6, hR6⟩
        have hT6 := hT.grow hg6 hR6 hne
        clear CF hg6 hR6 hT
        go_wp2
        go_meet
        exact ⟨_, hT6, .inl HX.out⟩
      · have HX : Hid ((x ≠ 0 ∧ pData kid (s.toList.drop k) = .error x) ∨ (x = 0 ∧ pData kid (s.toList.drop k) = match unesc tx with | none => .error 5 | some u => .ok (.mk [] u [] [], s.toList.drop t))) := by
          by_cases hx : x = 0
          · refine .inr ⟨hx, ?_⟩
            rw [HP.out, if_pos hx, pText, if_neg (by simp [hv])]
            cases unesc tx <;> rfl
          · exact .inl ⟨hx, by rw [HP.out, if_neg hx]⟩
        clear HP hv
        go_wp2
        go_meet
        exact ⟨_, hT, HX.out⟩
    case rest =>
      obtain ⟨x2, hT2, hx2⟩ := hcut
      have HX2 := Lib.hid hx2
      clear hx2 HP hT
      have hbA := below_alloc wc (.cells #[.string ⟨#[]⟩, .string ⟨#[]⟩, .slice none 0 0, .slice none 0 0] 65)
      have hB0 : Bx ((wc.alloc (.cells #[.string ⟨#[]⟩, .string ⟨#[]⟩, .slice none 0 0, .slice none 0 0] 65)).drewN 1) wc.heap.size nc0 := heap_alloc_new wc _
      have hT0 := (hT2.below hbA hne).below (below_of_drewN _ _ 1) hne
      have CR1 : Hid (Calls Tryz.prog 139 #[.pointer (some ⟨rb, 0, none⟩), .string (B tx)] (wc.alloc (.cells #[.string ⟨#[]⟩, .string ⟨#[]⟩, .slice none 0 0, .slice none 0 0] 65)).drew (RwPost rb s k x2 tx (wc.alloc (.cells #[.string ⟨#[]⟩, .string ⟨#[]⟩, .slice none 0 0, .slice none 0 0] 65)).drew)) := raw_any rb s k x2 tx _ hT0.r hxl
      have CR2 : Hid (Calls Tryz.prog 139 #[.pointer (some ⟨rb, 0, none⟩), .string (B tx)] wc.drew (RwPost rb s k x2 tx wc.drew)) := raw_any rb s k x2 tx _ hT2.r hxl
      have hnq : wc.heap.size ≠ rb := by have := hT2.r.lt; omega
      have hnw : wc.heap.size ≠ w.heap.size := by have := hT2.p.lt; omega
      have hlq : w.heap.size ≤ wc.heap.size := hT2.g.size
      have hT3 : TI w rb s k x2 wc.drew := hT2.below (below_of_drewN _ _ 1) hne
      have kA : wc.cell? ⟨rb, 0, none⟩ = some (.string s) ∧ wc.cell? ⟨rb, 1, none⟩ = some (.int .i64 (k : Int)) := ⟨hT2.r.c0, hT2.r.c1⟩
      have kB : (wc.alloc (.cells #[.string ⟨#[]⟩, .string ⟨#[]⟩, .slice none 0 0, .slice none 0 0] 65)).cell? ⟨rb, 0, none⟩ = some (.string s) ∧ (wc.alloc (.cells #[.string ⟨#[]⟩, .string ⟨#[]⟩, .slice none 0 0, .slice none 0 0] 65)).cell? ⟨rb, 1, none⟩ = some (.int .i64 (k : Int)) := ⟨(hT2.r.alloc _).c0, (hT2.r.alloc _).c1⟩
      clear hbA
      go_wp2
      go_region_held3 (fun w' => w'.cell? ⟨rb, 0, none⟩ = some (.string s) ∧ w'.cell? ⟨rb, 1, none⟩ = some (.int .i64 (k : Int)))
        (first | exact kA | exact kB | exact kC | exact kD | exact kE)
        (first
          | (go_at_call 139; (with_reducible refine CR1.out.mono ?_); rintro e w5 ⟨u, x', rfl, hg, hR, h1, h2⟩; have HU1 := Lib.hid h1; have HU2 := Lib.hid h2; clear h1 h2 kA kB; have hB := hB0.grown hg hnq; have hT := hT0.grow hg hR hne; have p0 := hB.c0; have p1 := hB.c1; have p2 := hB.c2; have p3 := hB.c3; have pf0 := hB.ff (i := 0); have pf1 := hB.ff (i := 1); have pf2 := hB.ff (i := 2); have pf3 := hB.ff (i := 3); have kC : w5.cell? ⟨rb, 0, none⟩ = some (.string s) ∧ w5.cell? ⟨rb, 1, none⟩ = some (.int .i64 (k : Int)) := ⟨hT.r.c0, hT.r.c1⟩; have kD : ((((w5.setCell ⟨wc.heap.size, 0, none⟩ (.string ⟨#[]⟩)).setCell ⟨wc.heap.size, 1, none⟩ (.string (B u))).setCell ⟨wc.heap.size, 2, none⟩ (.slice none 0 0)).setCell ⟨wc.heap.size, 3, none⟩ (.slice none 0 0)).cell? ⟨rb, 0, none⟩ = some (.string s) ∧ ((((w5.setCell ⟨wc.heap.size, 0, none⟩ (.string ⟨#[]⟩)).setCell ⟨wc.heap.size, 1, none⟩ (.string (B u))).setCell ⟨wc.heap.size, 2, none⟩ (.slice none 0 0)).setCell ⟨wc.heap.size, 3, none⟩ (.slice none 0 0)).cell? ⟨rb, 1, none⟩ = some (.int .i64 (k : Int)) := ⟨(cell_block (blk_set4 hnq)).trans hT.r.c0, (cell_block (blk_set4 hnq)).trans hT.r.c1⟩)
          | (go_at_call 139; (with_reducible refine CR2.out.mono ?_); rintro e w5 ⟨u, x', rfl, hg, hR, h1, h2⟩; have HU1 := Lib.hid h1; have HU2 := Lib.hid h2; clear h1 h2 kA kB; have hT := hT3.grow hg hR hne; have kC : w5.cell? ⟨rb, 0, none⟩ = some (.string s) ∧ w5.cell? ⟨rb, 1, none⟩ = some (.int .i64 (k : Int)) := ⟨hT.r.c0, hT.r.c1⟩; have kD : (w5.alloc (.cells #[.string ⟨#[]⟩, .string (B u), .slice none 0 0, .slice none 0 0] 65)).cell? ⟨rb, 0, none⟩ = some (.string s) ∧ (w5.alloc (.cells #[.string ⟨#[]⟩, .string (B u), .slice none 0 0, .slice none 0 0] 65)).cell? ⟨rb, 1, none⟩ = some (.int .i64 (k : Int)) := ⟨(hT.r.alloc _).c0, (hT.r.alloc _).c1⟩; have kE : (w5.alloc (.cells #[.string ⟨#[]⟩, .string ⟨#[]⟩, .slice none 0 0, .slice none 0 0] 65)).cell? ⟨rb, 0, none⟩ = some (.string s) ∧ (w5.alloc (.cells #[.string ⟨#[]⟩, .string ⟨#[]⟩, .slice none 0 0, .slice none 0 0] 65)).cell? ⟨rb, 1, none⟩ = some (.int .i64 (k : Int)) := ⟨(hT.r.alloc _).c0, (hT.r.alloc _).c1⟩))
      · have hB6 : Bx (w5.alloc (.cells #[.string ⟨#[]⟩, .string (B u), .slice none 0 0, .slice none 0 0] 65)) w5.heap.size ⟨[], u, none, 0, 0, none, 0, 0⟩ := Bx.new w5 ⟨[], u, none, 0, 0, none, 0, 0⟩
        have hT6 := hT.below (below_alloc w5 (.cells #[.string ⟨#[]⟩, .string (B u), .slice none 0 0, .slice none 0 0] 65)) hne
        have hq1 : w5.heap.size ≠ rb := by have := hT.r.lt; omega
        have hq2 : w5.heap.size ≠ w.heap.size := by have := hT.p.lt; omega
        clear kE
        generalize w5.alloc (.cells #[.string ⟨#[]⟩, .string (B u), .slice none 0 0, .slice none 0 0] 65) = W6 at *
        generalize w5.heap.size = q at *
        have hfin : Hid ((x' ≠ 0 ∧ pData kid (s.toList.drop k) = .error x') ∨ (x' = 0 ∧ pData kid (s.toList.drop k) = .ok (.mk [] u [] [], s.toList.drop t))) := by
          rcases HX2.out with ⟨h0, he⟩ | ⟨h0, he⟩
          · rw [HU1.out h0]; exact .inl ⟨h0, he⟩
          · have hu := HU2.out h0
            cases hun : unesc tx with
            | none =>
              rw [hun] at hu he
              exact .inl ⟨by have hu : x' = 5 := hu
                             omega, by rw [he]; have hu : x' = 5 := hu
                                       rw [hu]⟩
            | some v =>
              rw [hun] at hu he
              obtain ⟨h5, rfl⟩ := hu
              exact .inr ⟨h5, he⟩
        clear HX2 HU1 HU2 CR1 CR2 hT hT0 hT2 hT3 kC kD hB0
        have hR7 := hT6.r.setK (m := t)
        have g7 := grown_trans hT6.g (grown_setC W6 rb 1 (.int .i64 ((t : Nat) : Int)))
        have hP7 : Bx _ w.heap.size nc0 := (blk_set (w := W6) (c := rb) (i := 1) (u := .int .i64 ((t : Nat) : Int)) hne).trans hT6.p
        have hB7 : Bx _ q ⟨[], u, none, 0, 0, none, 0, 0⟩ := (blk_set (w := W6) (c := rb) (i := 1) (u := .int .i64 ((t : Nat) : Int)) (Ne.symm hq1)).trans hB6
        have c1 := hT6.r.c1
        have cf := hT6.r.ff (i := 1)
        have b0 := hB7.c0
        have b1 := hB7.c1
        have b2 := hB7.c2
        have b3 := hB7.c3
        have p0 := hP7.c0
        have p1 := hP7.c1
        have p2 := hP7.c2
        have p3 := hP7.c3
        have pf0 := hP7.ff (i := 0)
        have pf1 := hP7.ff (i := 1)
        have pf2 := hP7.ff (i := 2)
        have pf3 := hP7.ff (i := 3)
        clear hT6 hB6
        have hne2 : w.heap.size ≠ rb := hne.symm
        go_wp2
        refine bodyPost_ret (v := .agg #[.string (B []), .string (B u), .slice none 0 0, .slice none 0 0]) (by simp [results, Tryz.results113, go_sem, p0, p1, p2, p3]) rfl ?_
        refine ⟨⟨[], u, none, 0, 0, none, 0, 0⟩, rfl, grown_set4 g7 (Nat.le_refl _), t, x', t2, (blk_set4 hne.symm).trans hR7, ?_⟩
        rcases hfin.out with ⟨_, he⟩ | ⟨h0, he⟩
        · rw [he]
        · rw [he]; exact ⟨h0, nd_text _ _ u, rfl⟩
      · have hB6 : Bx ((((w5.setCell ⟨wc.heap.size, 0, none⟩ (.string ⟨#[]⟩)).setCell ⟨wc.heap.size, 1, none⟩ (.string (B u))).setCell ⟨wc.heap.size, 2, none⟩ (.slice none 0 0)).setCell ⟨wc.heap.size, 3, none⟩ (.slice none 0 0)) wc.heap.size ⟨[], u, none, 0, 0, none, 0, 0⟩ := hB.set4 (c' := ⟨[], u, none, 0, 0, none, 0, 0⟩)
        have hT6 : TI w rb s k x' ((((w5.setCell ⟨wc.heap.size, 0, none⟩ (.string ⟨#[]⟩)).setCell ⟨wc.heap.size, 1, none⟩ (.string (B u))).setCell ⟨wc.heap.size, 2, none⟩ (.slice none 0 0)).setCell ⟨wc.heap.size, 3, none⟩ (.slice none 0 0)) :=
          ⟨(blk_set4 hnq).trans hT.r, (blk_set4 hnw).trans hT.p, grown_set4 hT.g hlq⟩
        have hq1 := hnq
        have hq2 := hnw
        clear p0 p1 p2 p3 pf0 pf1 pf2 pf3 hB
        generalize ((((w5.setCell ⟨wc.heap.size, 0, none⟩ (.string ⟨#[]⟩)).setCell ⟨wc.heap.size, 1, none⟩ (.string (B u))).setCell ⟨wc.heap.size, 2, none⟩ (.slice none 0 0)).setCell ⟨wc.heap.size, 3, none⟩ (.slice none 0 0)) = W6 at *
        generalize wc.heap.size = q at *
        have hfin : Hid ((x' ≠ 0 ∧ pData kid (s.toList.drop k) = .error x') ∨ (x' = 0 ∧ pData kid (s.toList.drop k) = .ok (.mk [] u [] [], s.toList.drop t))) := by
          rcases HX2.out with ⟨h0, he⟩ | ⟨h0, he⟩
          · rw [HU1.out h0]; exact .inl ⟨h0, he⟩
          · have hu := HU2.out h0
            cases hun : unesc tx with
            | none =>
              rw [hun] at hu he
              exact .inl ⟨by have hu : x' = 5 := hu
                             omega, by rw [he]; have hu : x' = 5 := hu
                                       rw [hu]⟩
            | some v =>
              rw [hun] at hu he
              obtain ⟨h5, rfl⟩ := hu
              exact .inr ⟨h5, he⟩
        clear HX2 HU1 HU2 CR1 CR2 hT hT0 hT2 hT3 kC kD hB0
        have hR7 := hT6.r.setK (m := t)
        have g7 := grown_trans hT6.g (grown_setC W6 rb 1 (.int .i64 ((t : Nat) : Int)))
        have hP7 : Bx _ w.heap.size nc0 := (blk_set (w := W6) (c := rb) (i := 1) (u := .int .i64 ((t : Nat) : Int)) hne).trans hT6.p
        have hB7 : Bx _ q ⟨[], u, none, 0, 0, none, 0, 0⟩ := (blk_set (w := W6) (c := rb) (i := 1) (u := .int .i64 ((t : Nat) : Int)) (Ne.symm hq1)).trans hB6
        have c1 := hT6.r.c1
        have cf := hT6.r.ff (i := 1)
        have b0 := hB7.c0
        have b1 := hB7.c1
        have b2 := hB7.c2
        have b3 := hB7.c3
        have p0 := hP7.c0
        have p1 := hP7.c1
        have p2 := hP7.c2
        have p3 := hP7.c3
        have pf0 := hP7.ff (i := 0)
        have pf1 := hP7.ff (i := 1)
        have pf2 := hP7.ff (i := 2)
        have pf3 := hP7.ff (i := 3)
        clear hT6 hB6
        have hne2 : w.heap.size ≠ rb := hne.symm
        go_wp2
        refine bodyPost_ret (v := .agg #[.string (B []), .string (B u), .slice none 0 0, .slice none 0 0]) (by simp [results, Tryz.results113, go_sem, p0, p1, p2, p3]) rfl ?_
        refine ⟨⟨[], u, none, 0, 0, none, 0, 0⟩, rfl, grown_set4 g7 (Nat.le_refl _), t, x', t2, (blk_set4 hne.symm).trans hR7, ?_⟩
        rcases hfin.out with ⟨_, he⟩ | ⟨h0, he⟩
        · rw [he]
        · rw [he]; exact ⟨h0, nd_text _ _ u, rfl⟩

end Go.Proofs.YtejjidbodfoiiaaGreatDoor
