/-
  Layer 33 (markup): the reader of the chapter: Parse.
-/
import Derived.Test.YtejjidbodfoiiaaGreatDoorMkSh
namespace Go.Proofs.YtejjidbodfoiiaaGreatDoor
open Go.RowKit
set_option linter.unusedVariables false
set_option linter.unusedSimpArgs false
attribute [local go_sem] B_data B_size
attribute [local go_sem ↓] Go.wp_at_zero Go.wp_at_succ

theorem nodeY_any : ∀ f, NdY f := by
  intro f
  induction f using Nat.strongRecOn with
  | ind f ih =>
    cases f with
    | zero => intro rb s k kid w h hk hs hf; omega
    | succ f => exact nodeY_step f (fun g hg => ih g (by omega))
set_option maxHeartbeats 8000000 in
set_option maxRecDepth 100000 in
theorem rparse_any (l : List UInt8) (w : World) (hl : l.length ≤ 1000000000) :
    Calls Tryz.prog 48 #[.string (B l)] w (PPost l (pTop l) w) := by
  have hbl : (B l).toList = l := by simp [B]
  have hW : Bx (w.alloc (.cells #[.string ⟨#[]⟩, .string ⟨#[]⟩, .slice none 0 0, .slice none 0 0] 65)) w.heap.size nc0 := heap_alloc_new w _
  obtain ⟨W1, hW1⟩ : ∃ W1, W1 = w.alloc (.cells #[.string ⟨#[]⟩, .string ⟨#[]⟩, .slice none 0 0, .slice none 0 0] 65) := ⟨_, rfl⟩
  have hs1 : W1.heap.size = w.heap.size + 1 := by rw [hW1]; simp
  have hb1 : Below w.heap.size w W1 := by rw [hW1]; exact below_alloc w _
  rw [← hW1] at hW
  have hR2 : Ry (W1.alloc (.cells #[.string (B l), .int .i64 0, .int .i64 0] 134)) (w.heap.size + 1) (B l) 0 0 := by rw [← hs1]; exact heap_alloc_new W1 _
  have hB2 := hW.alloc (.cells #[.string (B l), .int .i64 0, .int .i64 0] 134)
  have hb2 : Below w.heap.size w (W1.alloc (.cells #[.string (B l), .int .i64 0, .int .i64 0] 134)) := hb1.trans ((below_alloc W1 _).mono (by omega))
  have hs2 : (W1.alloc (.cells #[.string (B l), .int .i64 0, .int .i64 0] 134)).heap.size = w.heap.size + 2 := by simp [hs1]
  have HSZ := Lib.hid hs1
  subst hW1
  clear hs1 hb1 hW
  have HT : (if (B l).toList.drop 0 = [] then (.error 4 : Except Int (Nd × List UInt8)) else pN (2 * l.length + 1) false ((B l).toList.drop 0)) = pTop l := by
    rw [hbl, List.drop_zero]; rfl
  have C := Lib.hid (nodeY_any (2 * l.length + 1) (w.heap.size + 1) (B l) 0 false _ hR2 (Nat.zero_le _) (by rw [B_size]; exact hl) (by rw [B_size]; omega))
  rw [HT] at C
  clear HT
  go_enter Tryz.func48, Tryz.ntmps48
  go_wp2_with fail
  refine C.out.mono ?_
  rintro e w3 ⟨c, rfl, hg3, k, x, hk, hR3, hm⟩
  have hB3 := hB2.grown hg3 (by omega)
  have hb3 : Below w.heap.size w w3 := hb2.trans (below_of_grown hg3 (by omega) (fun k hk => by injection hk with hk; omega))
  have HM := Lib.hid hm
  have hq := Bx.new w3 c
  have hR4 := hR3.alloc (.cells #[.string (B c.nm), .string (B c.tx), .slice c.A c.na c.ca, .slice c.K c.nk c.ck] 65)
  have hB4 := hB3.alloc (.cells #[.string (B c.nm), .string (B c.tx), .slice c.A c.na c.ca, .slice c.K c.nk c.ck] 65)
  have pl := hB3.lt
  have hb4 := hb3.alloc (by omega) (.cells #[.string (B c.nm), .string (B c.tx), .slice c.A c.na c.ca, .slice c.K c.nk c.ck] 65)
  have hbW := below_alloc w3 (.cells #[.string (B c.nm), .string (B c.tx), .slice c.A c.na c.ca, .slice c.K c.nk c.ck] 65)
  have hsW : (w3.alloc (.cells #[.string (B c.nm), .string (B c.tx), .slice c.A c.na c.ca, .slice c.K c.nk c.ck] 65)).heap.size = w3.heap.size + 1 := by simp
  have c1 := hR4.c1
  have c2 := hR4.c2
  have p0 := hB4.c0
  have p1 := hB4.c1
  have p2 := hB4.c2
  have p3 := hB4.c3
  have pf0 := hB4.ff (i := 0)
  have pf1 := hB4.ff (i := 1)
  have pf2 := hB4.ff (i := 2)
  have pf3 := hB4.ff (i := 3)
  rw [hbl] at hm
  rw [B_size] at hk
  clear C HM hR2 hB2 hb2 HSZ hbl hB3 hb3
  cases ht : pTop l with
  | error y =>
    have hx0 : y ≠ 0 := by
      unfold pTop at ht
      split at ht
      · injection ht with ht; omega
      · exact pN_err ht
    rw [ht] at hm
    have hm : x = y := hm
    subst hm
    have z1 : (x != 0) = true := by simpa using hx0
    have z2 : (x == 0) = false := by simpa using hx0
    have HT := Lib.hid ht
    clear ht hx0 hg3 hsW hs2
    go_wp2
    generalize w3.alloc (.cells #[.string (B c.nm), .string (B c.tx), .slice c.A c.na c.ca, .slice c.K c.nk c.ck] 65) = W at *
    have hne2 : w.heap.size ≠ w.heap.size + 1 := by omega
    go_region_held3 (fun w' => w'.cell? ⟨w.heap.size + 1, 2, none⟩ = some (.int .i64 x))
      (first | exact hR4.c2 | exact (cell_block (blk_set4 hne2)).trans hR4.c2)
      (first | fail)
    have hb5 := (((hb4.setCell (p := ⟨w.heap.size, 0, none⟩) (Nat.le_refl _) (.string ⟨#[]⟩)).setCell (p := ⟨w.heap.size, 1, none⟩) (Nat.le_refl _) (.string ⟨#[]⟩)).setCell (p := ⟨w.heap.size, 2, none⟩) (Nat.le_refl _) (.slice none 0 0)).setCell (p := ⟨w.heap.size, 3, none⟩) (Nat.le_refl _) (.slice none 0 0)
    go_wp2
    refine bodyPost_ret (v := .tuple #[.agg #[.string ⟨#[]⟩, .string ⟨#[]⟩, .slice none 0 0, .slice none 0 0], .int .i64 0, .int .i64 x]) (by simp [results, Tryz.results48, go_sem, p0, p1, p2, p3]) rfl ?_
    unfold PPost
    rw [HT.out]
    exact ⟨below_drewN hb5 1, rfl⟩
  | ok y =>
    obtain ⟨n, l2⟩ := y
    rw [ht] at hm
    obtain ⟨hx, hn, hd⟩ := hm
    subst hx
    have hn4 : NdAt (w3.alloc (.cells #[.string (B c.nm), .string (B c.tx), .slice c.A c.na c.ca, .slice c.K c.nk c.ck] 65)) (fun b => w.heap.size + 2 ≤ b ∧ b < (w3.alloc (.cells #[.string (B c.nm), .string (B c.tx), .slice c.A c.na c.ca, .slice c.K c.nk c.ck] 65)).heap.size) n c :=
      NdAt.keep (fun b hb => ⟨by omega, by simp; omega⟩) (fun b hb => (below_alloc w3 _).block b hb.2) n c hn
    have HHD := Lib.hid hd
    have HT := Lib.hid ht
    clear hn hd hg3 hsW hs2 ht
    go_wp2
    generalize w3.heap.size = q at *
    generalize w3.alloc (.cells #[.string (B c.nm), .string (B c.tx), .slice c.A c.na c.ca, .slice c.K c.nk c.ck] 65) = W at *
    have hne1 : w.heap.size ≠ q := by omega
    have hne2 : w.heap.size ≠ w.heap.size + 1 := by omega
    go_region_held3 (fun w' => w'.cell? ⟨q, 0, none⟩ = some (.string (B c.nm)) ∧ w'.cell? ⟨q, 1, none⟩ = some (.string (B c.tx)) ∧ w'.cell? ⟨q, 2, none⟩ = some (.slice c.A c.na c.ca) ∧ w'.cell? ⟨q, 3, none⟩ = some (.slice c.K c.nk c.ck) ∧ w'.cell? ⟨w.heap.size + 1, 1, none⟩ = some (.int .i64 (k : Int)))
      (first | exact ⟨hq.c0, hq.c1, hq.c2, hq.c3, hR4.c1⟩ | exact ⟨(cell_block (blk_set4 hne1)).trans hq.c0, (cell_block (blk_set4 hne1)).trans hq.c1, (cell_block (blk_set4 hne1)).trans hq.c2, (cell_block (blk_set4 hne1)).trans hq.c3, (cell_block (blk_set4 hne2)).trans hR4.c1⟩)
      (first | fail)
    have hb5 := (((hb4.setCell (p := ⟨w.heap.size, 0, none⟩) (Nat.le_refl _) (.string (B c.nm))).setCell (p := ⟨w.heap.size, 1, none⟩) (Nat.le_refl _) (.string (B c.tx))).setCell (p := ⟨w.heap.size, 2, none⟩) (Nat.le_refl _) (.slice c.A c.na c.ca)).setCell (p := ⟨w.heap.size, 3, none⟩) (Nat.le_refl _) (.slice c.K c.nk c.ck)
    have hn5 := NdAt.keep (S' := fun b => w.heap.size ≤ b ∧ b < ((((W.setCell ⟨w.heap.size, 0, none⟩ (.string (B c.nm))).setCell ⟨w.heap.size, 1, none⟩ (.string (B c.tx))).setCell ⟨w.heap.size, 2, none⟩ (.slice c.A c.na c.ca)).setCell ⟨w.heap.size, 3, none⟩ (.slice c.K c.nk c.ck)).heap.size) (fun b hb => ⟨by omega, by simp; omega⟩) (fun b hb => blk_set4 (w := W) (b := w.heap.size) (v0 := .string (B c.nm)) (v1 := .string (B c.tx)) (v2 := .slice c.A c.na c.ca) (v3 := .slice c.K c.nk c.ck) (by omega)) n c hn4
    clear hb4 hn4 hR4 hq
    go_wp2
    refine bodyPost_ret (v := .tuple #[.agg #[.string (B c.nm), .string (B c.tx), .slice c.A c.na c.ca, .slice c.K c.nk c.ck], .int .i64 (k : Int), .int .i64 0]) (by simp [results, Tryz.results48, go_sem, p0, p1, p2, p3]) rfl ?_
    unfold PPost
    rw [HT.out]
    exact ⟨below_drewN hb5 1, c, k, rfl, NdAt.drewS hn5, HHD.out, hk⟩
end Go.Proofs.YtejjidbodfoiiaaGreatDoor
