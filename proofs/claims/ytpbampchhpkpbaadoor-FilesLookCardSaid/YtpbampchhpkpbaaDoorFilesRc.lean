/-
  Layer 16 (files): the chapter's Set. Printed by gen_frset.py.
-/
import Derived.Test.YtpbampchhpkpbaaDoorFilesRb
namespace Go.Proofs.YtpbampchhpkpbaaDoor
open Go.RowKit
set_option linter.unusedVariables false
set_option linter.unusedSimpArgs false
attribute [local go_sem] B_data B_size

theorem ownA (w : World) : (w.drew.alloc (.cells #[] 36)).ownsRow w.heap.size 36 2 (.slice (some ⟨w.heap.size, 0, none⟩) 0 0) 0 (fls []) := lit_own w.drew w.heap.size (Nat.le_refl _)
theorem ownB (w : World) (T0 : Obj) : ((w.drew.alloc (.cells #[] 36)).alloc T0).ownsRow w.heap.size 36 2 (.slice (some ⟨w.heap.size, 0, none⟩) 0 0) 0 (fls []) := (ownA w).alloc _
theorem atB (w : World) (T0 : Obj) : ((w.drew.alloc (.cells #[] 36)).alloc T0).heap[w.heap.size + 1]? = some T0 := by
  have h := heap_alloc_new (w.drew.alloc (.cells #[] 36)) T0
  have e : (w.drew.alloc (.cells #[] 36)).heap.size = w.heap.size + 1 := by simp
  rwa [e] at h
theorem ownC (w : World) (T0 : Obj) : ((w.drew.alloc T0).alloc (.cells #[] 36)).ownsRow w.heap.size 36 2 (.slice (some ⟨w.heap.size + 1, 0, none⟩) 0 0) 0 (fls []) := by
  have e : (w.drew.alloc T0).heap.size = w.heap.size + 1 := by simp
  have h := lit_own (w.drew.alloc T0) w.heap.size (by rw [e]; omega)
  rw [e] at h
  exact h
theorem atC (w : World) (T0 : Obj) : ((w.drew.alloc T0).alloc (.cells #[] 36)).heap[w.heap.size]? = some T0 := by
  rw [Below.heap_alloc _ _ _ (by simp)]; exact heap_alloc_new w.drew T0
theorem bl_al {w W : World} (h : Below w.heap.size w W) (o : Obj) : Below w.heap.size w (W.alloc o) := h.alloc h.size o
theorem rdOne {w : World} {g : Nat} {f : List UInt8 × List UInt8} (h : w.heap[g]? = some (.cells #[.string (B f.1), .string (B f.2)] 36 (0, 0))) : Rd w w.heap.size 2 (some ⟨g, 0, none⟩) 1 (fls [f]) :=
  rd_of_row (m := 0) (xs := [f]) (ys := [f]) h rfl rfl
/-- the row behind an element stored -/
theorem own_put {w : World} {base g cap n k : Nat} {fs : List (List UInt8 × List UInt8)} {f : List UInt8 × List UInt8} (h : w.ownsRow base 36 2 (.slice (some ⟨g, 0, none⟩) n cap) n (fls fs)) (hk : k < fs.length) :
    ((w.setCell ⟨g, k * 2, none⟩ (.string (B f.1))).setCell ⟨g, k * 2 + 1, none⟩ (.string (B f.2))).ownsRow base 36 2 (.slice (some ⟨g, 0, none⟩) n cap) n (fls (fs.set k f)) := by
  have h2 := (((h.stored (k * 2) (.string (B f.1))).1).stored (k * 2 + 1) (.string (B f.2))).1
  rwa [fls_set fs k f hk] at h2

set_option maxHeartbeats 8000000 in
set_option maxRecDepth 100000 in
theorem rset_any (A : Option Addr) (n c : Nat) (fs : List (List UInt8 × List UInt8)) (f : List UInt8 × List UInt8) (w : World) (hx : Rd w w.heap.size 2 A n (fls fs)) (hn : n ≤ 900000) (hnc : n ≤ c) :
    Calls Tryd.prog 27 #[.slice A n c, .agg #[.string (B f.1), .string (B f.2)]] w fun e w' => ∃ v, e = .returned v ∧ w'.ownsRow w.heap.size 36 2 v (setL fs f).length (fls (setL fs f)) ∧ Below w.heap.size w w' := by
  have HL := Lib.hid hx.fls_length
  have hx1 : Rd (w.alloc (.cells #[.string (B f.1), .string (B f.2)] 36)) (w.alloc (.cells #[.string (B f.1), .string (B f.2)] 36)).heap.size 2 A n (fls fs) :=
    (hx.below ((Below.refl _ _).alloc (Nat.le_refl _) _)).more (by simp)
  have C := rfind_any A n c fs (B f.1) _ hx1 (by omega)
  rw [B_data] at C
  have HC := Lib.hid C
  clear C hx1
  rcases findL_cases f.1 fs 0 with h | ⟨k, hk, h, hnm⟩
  · have HS : Hid (setL fs f = fs.take (atGo f.1 fs) ++ f :: fs.drop (atGo f.1 fs)) := by unfold setL; rw [if_pos (by omega)]; rfl
    rw [h] at HC
    clear h
    go_enter Tryd.func27, Tryd.ntmps27
    go_wp2_with fail
    refine HC.out.mono ?_
    rintro e w1 ⟨rfl, hb1⟩
    have hB1 : Below w.heap.size w w1 := ((Below.refl _ _).alloc (Nat.le_refl _) _).trans (hb1.mono (by simp))
    have hs1 := hb1.size
    simp at hs1
    have q0 : w1.cell? ⟨w.heap.size, 0, none⟩ = some (.string (B f.1)) := by rw [hb1.cell (p := ⟨w.heap.size, 0, none⟩) (by simp)]; simp
    have q1 : w1.cell? ⟨w.heap.size, 1, none⟩ = some (.string (B f.2)) := by rw [hb1.cell (p := ⟨w.heap.size, 1, none⟩) (by simp)]; simp
    clear HC hb1
    go_wp2
    go_loopw [7] (fun i wr => ∃ k q : Nat, k ≤ n ∧ i = .int .i64 k ∧ wr = w1.drewN q ∧ Hid (atGo f.1 fs = k + atGo f.1 (fs.drop k))) (fun i _ => n - (intOf i).toNat)
    case atStart => exact ⟨0, 0, Nat.zero_le _, rfl, rfl, by simp [Hid]⟩
    case round =>
      obtain ⟨k, q, hk, rfl, rfl, hr⟩ := hrel
      have hcase : (k < n ∧ leB (fs[k]?.getD ([], [])).1 f.1 = true) ∨ (atGo f.1 fs = k ∧ ((k < n ∧ leB (fs[k]?.getD ([], [])).1 f.1 = false) ∨ ¬ k < n)) := by
        by_cases hlt : k < n
        · have hd := fdrop fs k (by rw [HL.out]; exact hlt)
          by_cases hle : leB (fs[k]?.getD ([], [])).1 f.1 = true
          · exact .inl ⟨hlt, hle⟩
          · refine .inr ⟨?_, .inl ⟨hlt, by simpa using hle⟩⟩
            rw [hr.out, hd, atGo, if_neg hle]; rfl
        · refine .inr ⟨?_, .inr hlt⟩
          rw [hr.out, List.drop_of_length_le (by rw [HL.out]; omega)]; rfl
      rcases hcase with ⟨hlt, hle⟩ | ⟨hat, hcase⟩
      · obtain ⟨b, o, rfl, hm, h0, h1⟩ := (hx.below hB1).file hlt
        have HN : Hid (atGo f.1 fs = (k + 1) + atGo f.1 (fs.drop (k + 1))) := by
          rw [hr.out, fdrop fs k (by rw [HL.out]; exact hlt), atGo, if_pos hle]; simp [Hid]; omega
        unfold leB at hle
        have hd : decide (k < n) = true := by simpa using hlt
        generalize fs[k]?.getD ([], []) = g at *
        go_wp2
        go_quiet (fail)
        go_wp2
        go_roundw
        case rel => exact ⟨k + 1, _, by omega, by go_num, rfl, HN.out⟩
        case measure => simp [intOf]; omega
      · have HAT := Lib.hid hat
        clear hat hr
        rcases hcase with ⟨hlt, hle⟩ | hlt
        · obtain ⟨b, o, rfl, hm, h0, h1⟩ := (hx.below hB1).file hlt
          have hck : ¬ c = k := by omega
          have HXT := Lib.hid (fun (W : World) (hb : Below w.heap.size w W) => (by have := (hx.below hb).take (k := k) (by omega); rwa [fls_take] at this : Rd W w.heap.size 2 (some ⟨b, o, none⟩) k (fls (fs.take k))))
          have HXD := Lib.hid (fun (W : World) (hb : Below w.heap.size w W) => (by have := (hx.below hb).cut (k := k) (by omega) hnc; rw [fls_drop] at this; rw [if_neg hck] at this; simpa only [Option.map_some, addr_lit] using this : Rd W w.heap.size 2 (some ⟨b, o + k * 2, none⟩) (n - k) (fls (fs.drop k))))
          unfold leB at hle
          have hd : decide (k < n) = true := by simpa using hlt
          generalize fs[k]?.getD ([], []) = g at *
          clear hx
          go_wp2
          go_quiet (fail)
          go_upto_region 9 with fail
          generalize hw4 : (w1.drewN _).drewN _ = w4
          have hB4 : Below w.heap.size w w4 := by rw [← hw4]; exact below_drewN (below_drewN hB1 _) _
          have q0' : w4.cell? ⟨w.heap.size, 0, none⟩ = some (.string (B f.1)) := by rw [← hw4]; exact q0
          have q1' : w4.cell? ⟨w.heap.size, 1, none⟩ = some (.string (B f.2)) := by rw [← hw4]; exact q1
          have hs4 : w.heap.size < w4.heap.size := by rw [← hw4]; show _ < w1.heap.size; omega
          clear hw4 hB1 q0 q1 hs1
          have HQ0 := Lib.hid (fun (W : World) (hb : Below w4.heap.size w4 W) => ((hb.cell (p := ⟨w.heap.size, 0, none⟩) (by show w.heap.size < _; omega)).trans q0' : W.cell? ⟨w.heap.size, 0, none⟩ = some (.string (B f.1))))
          have HQ1 := Lib.hid (fun (W : World) (hb : Below w4.heap.size w4 W) => ((hb.cell (p := ⟨w.heap.size, 1, none⟩) (by show w.heap.size < _; omega)).trans q1' : W.cell? ⟨w.heap.size, 1, none⟩ = some (.string (B f.2))))
          have HBB := Lib.hid (fun (W : World) (hb : Below w4.heap.size w4 W) => (hB4.trans (hb.mono (Nat.le_of_lt hs4)) : Below w.heap.size w W))
          have hkc : k ≤ c := by omega
          have hkn : (k : Int) ≤ (n : Int) := by omega
          have hk0 : (0 : Int) ≤ (k : Int) := by omega
          go_region_law
            (first
              | (refine step_appF (by rfl) (.tmp 39) (.tmp 42) (by rfl) (w4.drew.alloc (.cells #[] 36)) w4.heap.size w.heap.size _ 0 [] (ownA w4) _ k _ (fs.take k) (HXT.out _ (HBB.out _ (bl_al (Below.refl _ w4).drew _))) (by omega) (by omega) (by first | (simp; done) | (simp; omega)) (by rfl) (by rfl) ?_; intro A5 c5 w5 ho5 hb5 hg5; simp only [Nat.zero_add, List.nil_append] at ho5; have hB5 := Lib.hid ((bl_al (Below.refl _ w4).drew _).trans (hb5.mono (Nat.le_refl _))); have hs5 := hB5.out.size; have k0 := HQ0.out w5 hB5.out; have k1 := HQ1.out w5 hB5.out)
              | (refine step_appF (by rfl) (.tmp 39) (.tmp 42) (by rfl) ((w4.drew.alloc (.cells #[] 36)).alloc (.cells #[.string (B f.1), .string (B f.2)] 36)) w4.heap.size w.heap.size _ 0 [] (ownB w4 (.cells #[.string (B f.1), .string (B f.2)] 36)) _ k _ (fs.take k) (HXT.out _ (HBB.out _ (bl_al (bl_al (Below.refl _ w4).drew _) _))) (by omega) (by omega) (by first | (simp; done) | (simp; omega)) (by rfl) (by rfl) ?_; intro A5 c5 w5 ho5 hb5 hg5; simp only [Nat.zero_add, List.nil_append] at ho5; have hB5 := Lib.hid ((bl_al (bl_al (Below.refl _ w4).drew _) _).trans (hb5.mono (Nat.le_refl _))); have hs5 := hB5.out.size; have k0 := HQ0.out w5 hB5.out; have k1 := HQ1.out w5 hB5.out; have hT0 := Lib.hid ((hg5.block (w4.heap.size + 1) (by simp) (by simp [Value.ownBlock])).trans (atB w4 (.cells #[.string (B f.1), .string (B f.2)] 36))))
              | (refine step_appF (by rfl) (.tmp 39) (.tmp 42) (by rfl) ((w4.drew.alloc (.cells #[.string (B f.1), .string (B f.2)] 36)).alloc (.cells #[] 36)) w4.heap.size w.heap.size _ 0 [] (ownC w4 (.cells #[.string (B f.1), .string (B f.2)] 36)) _ k _ (fs.take k) (HXT.out _ (HBB.out _ (bl_al (bl_al (Below.refl _ w4).drew _) _))) (by omega) (by omega) (by first | (simp; done) | (simp; omega)) (by rfl) (by rfl) ?_; intro A5 c5 w5 ho5 hb5 hg5; simp only [Nat.zero_add, List.nil_append] at ho5; have hB5 := Lib.hid ((bl_al (bl_al (Below.refl _ w4).drew _) _).trans (hb5.mono (Nat.le_refl _))); have hs5 := hB5.out.size; have k0 := HQ0.out w5 hB5.out; have k1 := HQ1.out w5 hB5.out; have hT0 := Lib.hid ((hg5.block w4.heap.size (by simp; omega) (by simp [Value.ownBlock])).trans (atC w4 (.cells #[.string (B f.1), .string (B f.2)] 36))))
              | (refine step_appF (by rfl) (.tmp 43) (.tmp 45) (by rfl) (w5.alloc (.cells #[.string (B f.1), .string (B f.2)] 36)) w4.heap.size (w5.alloc (.cells #[.string (B f.1), .string (B f.2)] 36)).heap.size (.slice A5 k c5) k (fs.take k) (ho5.alloc _) (some ⟨w5.heap.size, 0, none⟩) 1 1 [f] (rdOne (heap_alloc_new w5 _)) (by omega) (by omega) (by simp; omega) (by rfl) (by rfl) ?_; intro A6 c6 w6 ho6 hb6 _; have hB6 := Lib.hid ((bl_al hB5.out (.cells #[.string (B f.1), .string (B f.2)] 36)).trans hb6))
              | (refine step_appF (by rfl) (.tmp 43) (.tmp 45) (by rfl) w5 w4.heap.size w5.heap.size (.slice A5 k c5) k (fs.take k) ho5 _ 1 1 [f] (rdOne hT0.out) (by omega) (by omega) (by omega) (by rfl) (by rfl) ?_; intro A6 c6 w6 ho6 hb6 _; have hB6 := Lib.hid (hB5.out.trans hb6)))
          all_goals
            have HR10 := HXD.out _ (HBB.out w6 hB6.out)
            clear hB4 q0' q1' HQ0 HQ1
            go_wp2_with (at_builtin; refine wpList_appF rfl _ _ rfl w6 w4.heap.size w.heap.size _ (k + 1) (fs.take k ++ [f]) ho6 _ (n - k) (c - k) (fs.drop k) HR10 (by omega) (by omega) (by have := hB6.out.size; omega) rfl rfl ?_; intro A7 c7 w7 ho7 hb7 _)
          all_goals
            go_ret
          all_goals
            have hl : k + 1 + (n - k) = (setL fs f).length := by rw [HS.out, HAT.out]; simp [HL.out]; omega
            refine ⟨_, rfl, ?_, (HBB.out w6 hB6.out).trans (hb7.mono (Nat.le_of_lt hs4))⟩
            rw [← hl, HS.out, HAT.out]
            simpa using ho7.mono (Nat.le_of_lt hs4)

        · have HXT := Lib.hid (fun (W : World) (hb : Below w.heap.size w W) => (by have := (hx.below hb).take (k := k) (by omega); rwa [fls_take] at this : Rd W w.heap.size 2 A k (fls (fs.take k))))
          have HXD := Lib.hid (fun (W : World) (hb : Below w.heap.size w W) => (by have := (hx.below hb).cut (k := k) (by omega) hnc; rw [fls_drop] at this; exact this : Rd W w.heap.size 2 (if c = k then A else A.map (·.add (k * 2))) (n - k) (fls (fs.drop k))))
          have hd : decide (k < n) = false := by simpa using hlt
          clear hx
          go_wp2
          go_quiet (fail)
          go_upto_region 9 with fail
          generalize hw4 : (w1.drewN _).drewN _ = w4
          have hB4 : Below w.heap.size w w4 := by rw [← hw4]; exact below_drewN (below_drewN hB1 _) _
          have q0' : w4.cell? ⟨w.heap.size, 0, none⟩ = some (.string (B f.1)) := by rw [← hw4]; exact q0
          have q1' : w4.cell? ⟨w.heap.size, 1, none⟩ = some (.string (B f.2)) := by rw [← hw4]; exact q1
          have hs4 : w.heap.size < w4.heap.size := by rw [← hw4]; show _ < w1.heap.size; omega
          clear hw4 hB1 q0 q1 hs1
          have HQ0 := Lib.hid (fun (W : World) (hb : Below w4.heap.size w4 W) => ((hb.cell (p := ⟨w.heap.size, 0, none⟩) (by show w.heap.size < _; omega)).trans q0' : W.cell? ⟨w.heap.size, 0, none⟩ = some (.string (B f.1))))
          have HQ1 := Lib.hid (fun (W : World) (hb : Below w4.heap.size w4 W) => ((hb.cell (p := ⟨w.heap.size, 1, none⟩) (by show w.heap.size < _; omega)).trans q1' : W.cell? ⟨w.heap.size, 1, none⟩ = some (.string (B f.2))))
          have HBB := Lib.hid (fun (W : World) (hb : Below w4.heap.size w4 W) => (hB4.trans (hb.mono (Nat.le_of_lt hs4)) : Below w.heap.size w W))
          have hkc : k ≤ c := by omega
          have hkn : (k : Int) ≤ (n : Int) := by omega
          have hk0 : (0 : Int) ≤ (k : Int) := by omega
          go_region_law
            (first
              | (refine step_appF (by rfl) (.tmp 39) (.tmp 42) (by rfl) (w4.drew.alloc (.cells #[] 36)) w4.heap.size w.heap.size _ 0 [] (ownA w4) _ k _ (fs.take k) (HXT.out _ (HBB.out _ (bl_al (Below.refl _ w4).drew _))) (by omega) (by omega) (by first | (simp; done) | (simp; omega)) (by rfl) (by rfl) ?_; intro A5 c5 w5 ho5 hb5 hg5; simp only [Nat.zero_add, List.nil_append] at ho5; have hB5 := Lib.hid ((bl_al (Below.refl _ w4).drew _).trans (hb5.mono (Nat.le_refl _))); have hs5 := hB5.out.size; have k0 := HQ0.out w5 hB5.out; have k1 := HQ1.out w5 hB5.out)
              | (refine step_appF (by rfl) (.tmp 39) (.tmp 42) (by rfl) ((w4.drew.alloc (.cells #[] 36)).alloc (.cells #[.string (B f.1), .string (B f.2)] 36)) w4.heap.size w.heap.size _ 0 [] (ownB w4 (.cells #[.string (B f.1), .string (B f.2)] 36)) _ k _ (fs.take k) (HXT.out _ (HBB.out _ (bl_al (bl_al (Below.refl _ w4).drew _) _))) (by omega) (by omega) (by first | (simp; done) | (simp; omega)) (by rfl) (by rfl) ?_; intro A5 c5 w5 ho5 hb5 hg5; simp only [Nat.zero_add, List.nil_append] at ho5; have hB5 := Lib.hid ((bl_al (bl_al (Below.refl _ w4).drew _) _).trans (hb5.mono (Nat.le_refl _))); have hs5 := hB5.out.size; have k0 := HQ0.out w5 hB5.out; have k1 := HQ1.out w5 hB5.out; have hT0 := Lib.hid ((hg5.block (w4.heap.size + 1) (by simp) (by simp [Value.ownBlock])).trans (atB w4 (.cells #[.string (B f.1), .string (B f.2)] 36))))
              | (refine step_appF (by rfl) (.tmp 39) (.tmp 42) (by rfl) ((w4.drew.alloc (.cells #[.string (B f.1), .string (B f.2)] 36)).alloc (.cells #[] 36)) w4.heap.size w.heap.size _ 0 [] (ownC w4 (.cells #[.string (B f.1), .string (B f.2)] 36)) _ k _ (fs.take k) (HXT.out _ (HBB.out _ (bl_al (bl_al (Below.refl _ w4).drew _) _))) (by omega) (by omega) (by first | (simp; done) | (simp; omega)) (by rfl) (by rfl) ?_; intro A5 c5 w5 ho5 hb5 hg5; simp only [Nat.zero_add, List.nil_append] at ho5; have hB5 := Lib.hid ((bl_al (bl_al (Below.refl _ w4).drew _) _).trans (hb5.mono (Nat.le_refl _))); have hs5 := hB5.out.size; have k0 := HQ0.out w5 hB5.out; have k1 := HQ1.out w5 hB5.out; have hT0 := Lib.hid ((hg5.block w4.heap.size (by simp; omega) (by simp [Value.ownBlock])).trans (atC w4 (.cells #[.string (B f.1), .string (B f.2)] 36))))
              | (refine step_appF (by rfl) (.tmp 43) (.tmp 45) (by rfl) (w5.alloc (.cells #[.string (B f.1), .string (B f.2)] 36)) w4.heap.size (w5.alloc (.cells #[.string (B f.1), .string (B f.2)] 36)).heap.size (.slice A5 k c5) k (fs.take k) (ho5.alloc _) (some ⟨w5.heap.size, 0, none⟩) 1 1 [f] (rdOne (heap_alloc_new w5 _)) (by omega) (by omega) (by simp; omega) (by rfl) (by rfl) ?_; intro A6 c6 w6 ho6 hb6 _; have hB6 := Lib.hid ((bl_al hB5.out (.cells #[.string (B f.1), .string (B f.2)] 36)).trans hb6))
              | (refine step_appF (by rfl) (.tmp 43) (.tmp 45) (by rfl) w5 w4.heap.size w5.heap.size (.slice A5 k c5) k (fs.take k) ho5 _ 1 1 [f] (rdOne hT0.out) (by omega) (by omega) (by omega) (by rfl) (by rfl) ?_; intro A6 c6 w6 ho6 hb6 _; have hB6 := Lib.hid (hB5.out.trans hb6)))
          all_goals
            have HR10 := HXD.out _ (HBB.out w6 hB6.out)
            clear hB4 q0' q1' HQ0 HQ1
            go_wp2_with (at_builtin; refine wpList_appF rfl _ _ rfl w6 w4.heap.size w.heap.size _ (k + 1) (fs.take k ++ [f]) ho6 _ (n - k) (c - k) (fs.drop k) HR10 (by omega) (by omega) (by have := hB6.out.size; omega) rfl rfl ?_; intro A7 c7 w7 ho7 hb7 _)
          all_goals
            go_ret
          all_goals
            have hl : k + 1 + (n - k) = (setL fs f).length := by rw [HS.out, HAT.out]; simp [HL.out]; omega
            refine ⟨_, rfl, ?_, (HBB.out w6 hB6.out).trans (hb7.mono (Nat.le_of_lt hs4))⟩
            rw [← hl, HS.out, HAT.out]
            simpa using ho7.mono (Nat.le_of_lt hs4)

  · have hkn : k < n := by rw [← HL.out]; exact hk
    have HS : Hid (setL fs f = fs.set k f) := by unfold setL; rw [h, if_neg (by omega)]; simp [Hid]
    rw [h] at HC
    have e0 : ((0 : Nat) : Int) + (k : Int) = (k : Int) := by omega
    simp only [Int.natCast_add, e0] at HC
    clear h hnm e0 hk
    go_enter Tryd.func27, Tryd.ntmps27
    go_wp2_with fail
    refine HC.out.mono ?_
    rintro e w1 ⟨rfl, hb1⟩
    have hB1 : Below w.heap.size w w1 := ((Below.refl _ _).alloc (Nat.le_refl _) _).trans (hb1.mono (by simp))
    have hs1 := hb1.size
    simp at hs1
    have q0 : w1.cell? ⟨w.heap.size, 0, none⟩ = some (.string (B f.1)) := by rw [hb1.cell (p := ⟨w.heap.size, 0, none⟩) (by simp)]; simp
    have q1 : w1.cell? ⟨w.heap.size, 1, none⟩ = some (.string (B f.2)) := by rw [hb1.cell (p := ⟨w.heap.size, 1, none⟩) (by simp)]; simp
    have i1 : (0 : Int) ≤ (k : Int) := by omega
    have i2 : (k : Int) < (n : Int) := by omega
    have hb2 : Below w1.heap.size w1 (w1.alloc (.cells #[] 36)) := (Below.refl _ _).alloc (Nat.le_refl _) _
    have HR := Lib.hid (hx.below (hB1.trans (hb2.mono hB1.size)))
    have HO := Lib.hid (lit_own w1 w1.heap.size (Nat.le_refl _))
    have HB := Lib.hid hb2
    have HH := Lib.hid hB1
    clear HC hb1 hx hB1 hb2
    go_wp2_with (at_builtin; refine wpList_appF rfl _ _ rfl (w1.alloc (.cells #[] 36)) w1.heap.size w.heap.size _ 0 [] HO.out _ _ _ _ HR.out (by omega) (by omega) (by simp) rfl rfl ?_)
    intro A3 c3 w3 ho3 hb3 _
    try simp only [Nat.zero_add, List.nil_append] at ho3
    try simp only [Nat.zero_add]
    obtain ⟨g, cap, e3, hg3, _⟩ := ho3.form (by omega)
    injection e3 with e31 e32 e33
    subst e31 e33
    have hb4 := HB.out.trans hb3
    have k0 : w3.cell? ⟨w.heap.size, 0, none⟩ = some (.string (B f.1)) := (hb4.cell (p := ⟨w.heap.size, 0, none⟩) (by show w.heap.size < _; omega)).trans q0
    have k1 : w3.cell? ⟨w.heap.size, 1, none⟩ = some (.string (B f.2)) := (hb4.cell (p := ⟨w.heap.size, 1, none⟩) (by show w.heap.size < _; omega)).trans q1
    obtain ⟨l1, l2⟩ := fls_at fs k (by rw [HL.out]; exact hkn)
    have c0 := (ho3.cellAt (k * 2) (by omega)).trans l1
    have c1 := (ho3.cellAt (k * 2 + 1) (by omega)).trans l2
    have z0 := ho3.frozenAt (k * 2)
    have z1 := ho3.frozenAt (k * 2 + 1)
    have HO3 := Lib.hid (own_put (f := f) ho3 (by rw [HL.out]; exact hkn))
    have HB4 := Lib.hid hb4
    generalize fs[k]?.getD ([], []) = old at *
    clear q0 q1 hb3 hb4 l1 l2 HO HR HB ho3
    go_wp2
    go_ret
    refine ⟨_, rfl, ?_, ?_⟩
    · rw [HS.out]
      have : (fs.set k f).length = n := by rw [List.length_set, HL.out]
      rw [this]
      exact HO3.out.mono (by omega)
    · exact ((HH.out.trans (HB4.out.mono HH.out.size)).setCell (p := ⟨g, k * 2, none⟩) (by show _ ≤ g; omega) _).setCell (p := ⟨g, k * 2 + 1, none⟩) (by show _ ≤ g; omega) _
end Go.Proofs.YtpbampchhpkpbaaDoor
