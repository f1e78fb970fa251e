/-
  Layer 33 (markup): the reader of the program: node and Parse.
-/
import Derived.Test.YtejjidbodfoiiaaGreatDoorMkRe
namespace Go.Proofs.YtejjidbodfoiiaaGreatDoor
open Go.RowKit
set_option linter.unusedVariables false
set_option linter.unusedSimpArgs false
attribute [local go_sem] B_data B_size
attribute [local go_sem ↓] Go.wp_at_zero Go.wp_at_succ

theorem Rx.drewN {w : World} {rb k : Nat} {s : ByteArray} (h : Rx w rb s k) (n : Nat) : Rx (w.drewN n) rb s k := h
theorem NdAt.drewS {w : World} {S : Nat → Prop} {n : Nd} {c : NC} (h : NdAt w S n c) : NdAt w.drew S n c := NdAt.keep (w := w) (w' := w.drew) (fun _ h => h) (fun _ _ => rfl) n c h
theorem pN_data (f : Nat) (kid : Bool) (l : List UInt8) (h : l.head? ≠ some 60) : pN (f + 1) kid l = pData kid l := by rw [pN, if_neg h]
set_option maxHeartbeats 8000000 in
set_option maxRecDepth 100000 in
theorem node_step (f : Nat) (IH : ∀ g, g ≤ f → NodeC g) : NodeC (f + 1) := by
  intro rb s k kid w h hk hs hf
  have hW : Bx (w.alloc (.cells #[.string ⟨#[]⟩, .string ⟨#[]⟩, .slice none 0 0, .slice none 0 0] 65)) w.heap.size nc0 := heap_alloc_new w _
  have hRW := h.alloc (.cells #[.string ⟨#[]⟩, .string ⟨#[]⟩, .slice none 0 0, .slice none 0 0] 65)
  have hgW := grown_alloc (grown_refl w (some rb)) (.cells #[.string ⟨#[]⟩, .string ⟨#[]⟩, .slice none 0 0, .slice none 0 0] 65)
  have hlt := h.lt
  have i1 : (0 : Int) ≤ (k : Int) := by omega
  have i2 : (k : Int) < (s.size : Int) := by omega
  have b0 := hRW.c0
  have b1 := hRW.c1
  have HE : Hid (∀ V, Rx V rb s k → s[k] = 60 → Calls Tryz.prog 103 #[.pointer (some ⟨rb, 0, none⟩)] V (NPost rb s (pN (f + 1) kid (s.toList.drop k)) V)) := fun V hV h60 => element_any f IH rb s k kid V hV hk h60 hs hf
  have HD : Hid (∀ V, Rx V rb s k → s[k] ≠ 60 → Calls Tryz.prog 104 #[.pointer (some ⟨rb, 0, none⟩), .bool kid] V (NPost rb s (pN (f + 1) kid (s.toList.drop k)) V)) := fun V hV h60 => by
    rw [pN_data f kid _ (by rw [drop_head s k hk]; exact fun e => h60 (Option.some.inj e))]
    exact data_any rb s k kid V hV (Nat.le_of_lt hk) hs
  clear IH hf
  generalize pN (f + 1) kid (s.toList.drop k) = r at *
  have HFIN : Hid (∀ (m : Nat) (V : World) (e : Ending) (w1 : World), V = (w.alloc (.cells #[.string ⟨#[]⟩, .string ⟨#[]⟩, .slice none 0 0, .slice none 0 0] 65)).drewN m → NPost rb s r V e w1 → ∃ c : NC, ∃ x : Int, e = .returned (.tuple #[.agg #[.string (B c.nm), .string (B c.tx), .slice c.A c.na c.ca, .slice c.K c.nk c.ck], .int .i64 x]) ∧ Bx w1 w.heap.size nc0 ∧
      NPost rb s r w (.returned (.tuple #[.agg #[.string (B c.nm), .string (B c.tx), .slice c.A c.na c.ca, .slice c.K c.nk c.ck], .int .i64 x])) ((((w1.setCell ⟨w.heap.size, 0, none⟩ (.string (B c.nm))).setCell ⟨w.heap.size, 1, none⟩ (.string (B c.tx))).setCell ⟨w.heap.size, 2, none⟩ (.slice c.A c.na c.ca)).setCell ⟨w.heap.size, 3, none⟩ (.slice c.K c.nk c.ck))) := by
    intro m V e w1 hV hN
    subst hV
    have hWm : Bx ((w.alloc (.cells #[.string ⟨#[]⟩, .string ⟨#[]⟩, .slice none 0 0, .slice none 0 0] 65)).drewN m) w.heap.size nc0 := hW
    obtain ⟨hg, hN⟩ := hN
    have hB := hWm.grown hg (by omega)
    have hg2 := grown_trans (grown_drewN hgW m) hg
    cases r with
    | error x =>
      obtain ⟨c, rfl⟩ := hN
      exact ⟨c, x, rfl, hB, grown_set4 hg2 (Nat.le_refl _), c, rfl⟩
    | ok y =>
      obtain ⟨n, l⟩ := y
      obtain ⟨c, rfl, hn, k2, hR, hd, hk2⟩ := hN
      refine ⟨c, 0, rfl, hB, grown_set4 hg2 (Nat.le_refl _), c, rfl, ?_, k2, (blk_set4 (by omega)).trans hR, hd, hk2⟩
      refine NdAt.keep (fun b hb => ?_) (fun b hb => blk_set4 ?_) n c hn
      · have h1 := hb.1
        rw [drewN_size] at h1
        simp at h1 ⊢
        omega
      · have h1 := hb.1
        rw [drewN_size] at h1
        simp at h1
        omega
  clear hgW hRW hW
  by_cases h60 : s[k] = 60
  · have d1 : ((s[k].toNat : Int) == 60) = true := by rw [h60]; rfl
    go_enter Tryz.func70, Tryz.ntmps70
    go_wp2
    go_quiet (fail)
    go_wp2_with fail
    refine (HE.out _ (Rx.drewN (h.alloc _) _) h60).mono ?_
    intro e w1 hN
    obtain ⟨c, x, rfl, hB, hN⟩ := HFIN.out _ _ e w1 rfl hN
    have p0 := hB.c0
    have p1 := hB.c1
    have p2 := hB.c2
    have p3 := hB.c3
    have pf0 := hB.ff (i := 0)
    have pf1 := hB.ff (i := 1)
    have pf2 := hB.ff (i := 2)
    have pf3 := hB.ff (i := 3)
    clear b0 b1
    go_wp2
    refine bodyPost_ret (v := .tuple #[.agg #[.string (B c.nm), .string (B c.tx), .slice c.A c.na c.ca, .slice c.K c.nk c.ck], .int .i64 x]) (by simp [results, Tryz.results70, go_sem, p0, p1, p2, p3]) rfl hN
  · have d1 : ((s[k].toNat : Int) == 60) = false := by
      rw [beq_eq_false_iff_ne]
      intro e
      exact h60 (UInt8.toNat_inj.1 (by have : s[k].toNat = 60 := by omega
                                       rw [this]; rfl))
    go_enter Tryz.func70, Tryz.ntmps70
    go_wp2
    go_quiet (fail)
    go_wp2_with fail
    refine (HD.out _ (Rx.drewN (h.alloc _) _) h60).mono ?_
    intro e w1 hN
    obtain ⟨c, x, rfl, hB, hN⟩ := HFIN.out _ _ e w1 rfl hN
    have p0 := hB.c0
    have p1 := hB.c1
    have p2 := hB.c2
    have p3 := hB.c3
    have pf0 := hB.ff (i := 0)
    have pf1 := hB.ff (i := 1)
    have pf2 := hB.ff (i := 2)
    have pf3 := hB.ff (i := 3)
    clear b0 b1
    go_wp2
    refine bodyPost_ret (v := .tuple #[.agg #[.string (B c.nm), .string (B c.tx), .slice c.A c.na c.ca, .slice c.K c.nk c.ck], .int .i64 x]) (by simp [results, Tryz.results70, go_sem, p0, p1, p2, p3]) rfl hN
theorem node_any : ∀ f, NodeC f := by
  intro f
  induction f using Nat.strongRecOn with
  | ind f ih =>
    cases f with
    | zero => intro rb s k kid w h hk hs hf; omega
    | succ f => exact node_step f (fun g hg => ih g (by omega))
/-- Parse -/
def PPost (s : List UInt8) (r : Except Int (Nd × List UInt8)) (w : World) (e : Ending) (w' : World) : Prop := Below w.heap.size w w' ∧ match r with
  | .error x => e = .returned (.tuple #[.agg #[.string (B []), .string (B []), .slice none 0 0, .slice none 0 0], .int .i64 0, .int .i64 x])
  | .ok (n, l) => ∃ (c : NC) (k : Nat), e = .returned (.tuple #[.agg #[.string (B c.nm), .string (B c.tx), .slice c.A c.na c.ca, .slice c.K c.nk c.ck], .int .i64 (k : Int), .int .i64 0]) ∧ NdAt w' (fun b => w.heap.size ≤ b ∧ b < w'.heap.size) n c ∧ s.drop k = l ∧ k ≤ s.length
set_option maxHeartbeats 8000000 in
set_option maxRecDepth 100000 in
theorem parse_any (l : List UInt8) (w : World) (hl : l.length ≤ 1000000000) :
    Calls Tryz.prog 42 #[.string (B l)] w (PPost l (pTop l) w) := by
  have hbl : (B l).toList = l := by simp [B]
  have hW : Bx (w.alloc (.cells #[.string ⟨#[]⟩, .string ⟨#[]⟩, .slice none 0 0, .slice none 0 0] 65)) w.heap.size nc0 := heap_alloc_new w _
  obtain ⟨W1, hW1⟩ : ∃ W1, W1 = w.alloc (.cells #[.string ⟨#[]⟩, .string ⟨#[]⟩, .slice none 0 0, .slice none 0 0] 65) := ⟨_, rfl⟩
  have hs1 : W1.heap.size = w.heap.size + 1 := by rw [hW1]; simp
  have hb1 : Below w.heap.size w W1 := by rw [hW1]; exact below_alloc w _
  rw [← hW1] at hW
  have hR2 : Rx (W1.alloc (.cells #[.string (B l), .int .i64 0] 117)) (w.heap.size + 1) (B l) 0 := by rw [← hs1]; exact heap_alloc_new W1 _
  have hB2 := hW.alloc (.cells #[.string (B l), .int .i64 0] 117)
  have hb2 : Below w.heap.size w (W1.alloc (.cells #[.string (B l), .int .i64 0] 117)) := hb1.trans ((below_alloc W1 _).mono (by omega))
  have HS := Lib.hid hs1
  have hs2 : (W1.alloc (.cells #[.string (B l), .int .i64 0] 117)).heap.size = w.heap.size + 2 := by simp [hs1]
  subst hW1
  clear hs1 hb1 hW
  by_cases h0 : l = []
  · subst h0
    have hX : Hid (pTop [] = .error 4) := rfl
    have p0 : _ = some (Value.string ⟨#[]⟩) := hB2.c0
    have p1 : _ = some (Value.string ⟨#[]⟩) := hB2.c1
    have p2 : _ = some (Value.slice none 0 0) := hB2.c2
    have p3 : _ = some (Value.slice none 0 0) := hB2.c3
    have pf0 := hB2.ff (i := 0)
    have pf1 := hB2.ff (i := 1)
    have pf2 := hB2.ff (i := 2)
    have pf3 := hB2.ff (i := 3)
    clear hs2 hbl
    go_enter Tryz.func42, Tryz.ntmps42
    go_wp2
    refine bodyPost_ret (v := .tuple #[.agg #[.string ⟨#[]⟩, .string ⟨#[]⟩, .slice none 0 0, .slice none 0 0], .int .i64 0, .int .i64 4]) (by simp [results, Tryz.results42, go_sem, p0, p1, p2, p3]) rfl ?_
    unfold PPost
    rw [hX.out]
    exact ⟨hb2, rfl⟩
  · have n1 : (l == []) = false := by simpa using h0
    have n2 : l.isEmpty = false := by simpa using h0
    have HT : Hid (pTop l = pN (2 * l.length + 1) false l) := by unfold pTop; rw [if_neg h0]; rfl
    have hlp : 0 < l.length := List.length_pos_iff.2 h0
    have C := Lib.hid (node_any (2 * l.length + 1) (w.heap.size + 1) (B l) 0 false _ hR2 (by rw [B_size]; exact hlp) (by rw [B_size]; exact hl) (by rw [B_size]; omega))
    rw [hbl, List.drop_zero, ← HT.out] at C
    clear HT hbl h0
    cases ht : pTop l with
    | error x =>
      have HX := Lib.hid ht
      have hx0 : x ≠ 0 := by
        unfold pTop at ht
        split at ht
        · injection ht with ht; omega
        · exact pN_err ht
      have z1 : (x != 0) = true := by simpa using hx0
      have z2 : (x == 0) = false := by simpa using hx0
      rw [ht] at C
      clear ht hx0
      go_enter Tryz.func42, Tryz.ntmps42
      go_wp2_with fail
      refine C.out.mono ?_
      rintro e w3 ⟨hg3, c, rfl⟩
      have hB3 := hB2.grown hg3 (by omega)
      have hb3 : Below w.heap.size w w3 := hb2.trans (below_of_grown hg3 (by omega) (fun k hk => by injection hk with hk; omega))
      have p0 := hB3.c0
      have p1 := hB3.c1
      have p2 := hB3.c2
      have p3 := hB3.c3
      have pf0 := hB3.ff (i := 0)
      have pf1 := hB3.ff (i := 1)
      have pf2 := hB3.ff (i := 2)
      have pf3 := hB3.ff (i := 3)
      have pl := hB3.lt
      clear hg3 hB2 hR2 C hs2
      go_wp2
      refine bodyPost_ret (v := .tuple #[.agg #[.string ⟨#[]⟩, .string ⟨#[]⟩, .slice none 0 0, .slice none 0 0], .int .i64 0, .int .i64 x]) (by simp [results, Tryz.results42, go_sem, p0, p1, p2, p3, pl, Nat.ne_of_lt pl]) rfl ?_
      exact ⟨((((hb3.setCell (p := ⟨w.heap.size, 0, none⟩) (Nat.le_refl _) _).setCell (p := ⟨w.heap.size, 1, none⟩) (Nat.le_refl _) _).setCell (p := ⟨w.heap.size, 2, none⟩) (Nat.le_refl _) _).setCell (p := ⟨w.heap.size, 3, none⟩) (Nat.le_refl _) _).alloc (by simp; omega) _, rfl⟩
    | ok y =>
      obtain ⟨n, l2⟩ := y
      have HX := Lib.hid ht
      rw [ht] at C
      clear ht
      go_enter Tryz.func42, Tryz.ntmps42
      go_wp2_with fail
      refine C.out.mono ?_
      rintro e w3 ⟨hg3, c, rfl, hn, k, hR3, hd3, hk3⟩
      have hB3 := hB2.grown hg3 (by omega)
      have hb3 : Below w.heap.size w w3 := hb2.trans (below_of_grown hg3 (by omega) (fun k hk => by injection hk with hk; omega))
      have pl := hB3.lt
      have hq := Bx.new w3 c
      have hR4 := hR3.alloc (.cells #[.string (B c.nm), .string (B c.tx), .slice c.A c.na c.ca, .slice c.K c.nk c.ck] 65)
      have hB4 := hB3.alloc (.cells #[.string (B c.nm), .string (B c.tx), .slice c.A c.na c.ca, .slice c.K c.nk c.ck] 65)
      have hb4 := hb3.alloc (by omega) (.cells #[.string (B c.nm), .string (B c.tx), .slice c.A c.na c.ca, .slice c.K c.nk c.ck] 65)
      have hn4 : NdAt (w3.alloc (.cells #[.string (B c.nm), .string (B c.tx), .slice c.A c.na c.ca, .slice c.K c.nk c.ck] 65)) (fun b => w.heap.size + 2 ≤ b ∧ b < (w3.alloc (.cells #[.string (B c.nm), .string (B c.tx), .slice c.A c.na c.ca, .slice c.K c.nk c.ck] 65)).heap.size) n c :=
        NdAt.keep (fun b hb => ⟨by omega, by simp; omega⟩) (fun b hb => (below_alloc w3 _).block b hb.2) n c hn
      have hbl : (B l).toList = l := by simp [B]
      rw [hbl] at hd3
      rw [B_size] at hk3
      have HHD := Lib.hid hd3
      clear hg3 hB2 hR2 C hB3 hb3 hR3 hn hd3 hbl hs2
      go_wp2
      generalize w3.heap.size = q at *
      generalize w3.alloc (.cells #[.string (B c.nm), .string (B c.tx), .slice c.A c.na c.ca, .slice c.K c.nk c.ck] 65) = W at *
      have p0 := hB4.c0
      have p1 := hB4.c1
      have p2 := hB4.c2
      have p3 := hB4.c3
      have pf0 := hB4.ff (i := 0)
      have pf1 := hB4.ff (i := 1)
      have pf2 := hB4.ff (i := 2)
      have pf3 := hB4.ff (i := 3)
      have hne1 : w.heap.size ≠ q := by omega
      have hne2 : w.heap.size ≠ w.heap.size + 1 := by omega
      go_region_held3 (fun w' => w'.cell? ⟨q, 0, none⟩ = some (.string (B c.nm)) ∧ w'.cell? ⟨q, 1, none⟩ = some (.string (B c.tx)) ∧ w'.cell? ⟨q, 2, none⟩ = some (.slice c.A c.na c.ca) ∧ w'.cell? ⟨q, 3, none⟩ = some (.slice c.K c.nk c.ck) ∧ w'.cell? ⟨w.heap.size + 1, 1, none⟩ = some (.int .i64 (k : Int)))
        (first | exact ⟨hq.c0, hq.c1, hq.c2, hq.c3, hR4.c1⟩ | exact ⟨(cell_block (blk_set4 hne1)).trans hq.c0, (cell_block (blk_set4 hne1)).trans hq.c1, (cell_block (blk_set4 hne1)).trans hq.c2, (cell_block (blk_set4 hne1)).trans hq.c3, (cell_block (blk_set4 hne2)).trans hR4.c1⟩)
        (first | fail)
      have hb5 := (((hb4.setCell (p := ⟨w.heap.size, 0, none⟩) (Nat.le_refl _) (.string (B c.nm))).setCell (p := ⟨w.heap.size, 1, none⟩) (Nat.le_refl _) (.string (B c.tx))).setCell (p := ⟨w.heap.size, 2, none⟩) (Nat.le_refl _) (.slice c.A c.na c.ca)).setCell (p := ⟨w.heap.size, 3, none⟩) (Nat.le_refl _) (.slice c.K c.nk c.ck)
      have hn5 := NdAt.keep (S' := fun b => w.heap.size ≤ b ∧ b < ((((W.setCell ⟨w.heap.size, 0, none⟩ (.string (B c.nm))).setCell ⟨w.heap.size, 1, none⟩ (.string (B c.tx))).setCell ⟨w.heap.size, 2, none⟩ (.slice c.A c.na c.ca)).setCell ⟨w.heap.size, 3, none⟩ (.slice c.K c.nk c.ck)).heap.size) (fun b hb => ⟨by omega, by simp; omega⟩) (fun b hb => blk_set4 (w := W) (b := w.heap.size) (v0 := .string (B c.nm)) (v1 := .string (B c.tx)) (v2 := .slice c.A c.na c.ca) (v3 := .slice c.K c.nk c.ck) (by omega)) n c hn4
      clear hb4 hn4 hR4 hq
      go_wp2
      refine bodyPost_ret (v := .tuple #[.agg #[.string (B c.nm), .string (B c.tx), .slice c.A c.na c.ca, .slice c.K c.nk c.ck], .int .i64 (k : Int), .int .i64 0]) (by simp [results, Tryz.results42, go_sem, p0, p1, p2, p3]) rfl ?_
      exact ⟨below_drewN hb5 1, c, k, rfl, NdAt.drewS hn5, HHD.out, hk3⟩
end Go.Proofs.YtejjidbodfoiiaaGreatDoor
