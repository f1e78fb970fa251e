/-
  Layer 33 (markup): the reader of the chapter: node, its walk.
-/
import Derived.Test.YtejjidbodfoiiaaGreatDoorMkSeg
import Derived.Deep.DeepCutAuto
namespace Go.Proofs.YtejjidbodfoiiaaGreatDoor
open Go.RowKit
set_option linter.unusedVariables false
set_option linter.unusedSimpArgs false
attribute [local go_sem] B_data B_size
attribute [local go_sem ↓] Go.wp_at_zero Go.wp_at_succ

theorem lefty_lt2 {s : ByteArray} {w w' : World} {rb k k' : Nat} {x' : Int} (h : Ry w rb s k 0) (h' : Ry w' rb s k' x') (hk' : k' ≤ s.size) (hm : x' = 0 → k < k') : lefty s w' rb < lefty s w rb := by
  rw [lefty_at h, lefty_at h', if_pos rfl]
  by_cases hx : x' = 0
  · have := hm hx
    rw [if_pos hx]; omega
  · rw [if_neg hx]; omega
/-- the element, whatever has been read of it -/
structure EW (w : World) (rb : Nat) (s : ByteArray) (ob k : Nat) (x : Int) (c : NC) (W : World) : Prop where
  r : Ry W rb s k x
  z : Bx W w.heap.size nc0
  b : Bx W ob c
  g : w.grownBy W (some rb)
  o : rb < w.heap.size ∧ w.heap.size < ob ∧ ob < W.heap.size
theorem EW.grow {w : World} {rb : Nat} {s : ByteArray} {ob k k' : Nat} {x x' : Int} {c : NC} {W W' : World} (h : EW w rb s ob k x c W) (hg : W.grownBy W' (some rb)) (hr : Ry W' rb s k' x') : EW w rb s ob k' x' c W' := by
  have o := h.o
  have hs := hg.size
  exact ⟨hr, h.z.grown hg (by omega), h.b.grown hg (by omega), grown_trans h.g hg, by omega⟩
theorem EW.drewN {w : World} {rb : Nat} {s : ByteArray} {ob k : Nat} {x : Int} {c : NC} {W : World} (h : EW w rb s ob k x c W) (n : Nat) : EW w rb s ob k x c (W.drewN n) := h.grow (grown_drewN (grown_refl _ _) n) (h.r.drewN n)
theorem KZ.ew {w : World} {rb : Nat} {s : ByteArray} {nm : List UInt8} {base0 base ob k : Nat} {x : Int} {ats : List (List UInt8 × List UInt8)} {A : Option Addr} {ca : Nat} {ks : List Nd} {cs : List NC} {K : Option Addr} {ck : Nat} {W : World}
    (h : KZ w rb s nm base0 base ob k x ats A ca ks cs K ck W) : EW w rb s ob k x ⟨nm, [], A, ats.length, ca, K, ks.length, ck⟩ W := by
  have o := h.o
  exact ⟨h.r, h.z, h.b, h.g, by omega⟩
/-- the kids so far, in memory and in what that says of the whole -/
def KSt (w : World) (rb : Nat) (s : ByteArray) (f : Nat) (u : List UInt8) (ats : List (List UInt8 × List UInt8)) (A : Option Addr) (ca base ob : Nat) (R : Except Int (Nd × List UInt8)) (j : Nat) (x : Int) (W : World) : Prop :=
  ∃ c : NC, EW w rb s ob j x c W ∧ c.nm = u ∧ ((x ≠ 0 ∧ R = .error x) ∨ (x = 0 ∧ u.length ≤ 60 ∧ ∃ (ks : List Nd) (cs : List NC) (K : Option Addr) (ck : Nat), c = ⟨u, [], A, ats.length, ca, K, ks.length, ck⟩ ∧ KZ w rb s u (ob + 1) base ob j x ats A ca ks cs K ck W ∧ StK s f u ats R j x ks))
/-- all kids have been read -/
def KEnd (w : World) (rb : Nat) (s : ByteArray) (u : List UInt8) (ats : List (List UInt8 × List UInt8)) (A : Option Addr) (ca base ob : Nat) (R : Except Int (Nd × List UInt8)) (W : World) : Prop :=
  ∃ (j : Nat) (x : Int) (c : NC), j ≤ s.size ∧ EW w rb s ob j x c W ∧ c.nm = u ∧ ((x ≠ 0 ∧ R = .error x) ∨ (x = 0 ∧ u.length ≤ 60 ∧ ∃ (ks : List Nd) (cs : List NC) (K : Option Addr) (ck : Nat), c = ⟨u, [], A, ats.length, ca, K, ks.length, ck⟩ ∧ KZ w rb s u (ob + 1) base ob j x ats A ca ks cs K ck W ∧ R = pTail u ats ks (s.toList.drop j)))
set_option maxHeartbeats 16000000 in
set_option maxRecDepth 100000 in
theorem nodeY_step (f : Nat) (IH : ∀ g, g ≤ f → NdY g) : NdY (f + 1) := by
  intro rb s k kid w h hk hs hf
  have hlt := h.lt
  have hW : Bx (w.alloc (.cells #[.string ⟨#[]⟩, .string ⟨#[]⟩, .slice none 0 0, .slice none 0 0] 65)) w.heap.size nc0 := heap_alloc_new w _
  have hRW := h.alloc (.cells #[.string ⟨#[]⟩, .string ⟨#[]⟩, .slice none 0 0, .slice none 0 0] 65)
  have hgW := grown_alloc (grown_refl w (some rb)) (.cells #[.string ⟨#[]⟩, .string ⟨#[]⟩, .slice none 0 0, .slice none 0 0] 65)
  have hsW : (w.alloc (.cells #[.string ⟨#[]⟩, .string ⟨#[]⟩, .slice none 0 0, .slice none 0 0] 65)).heap.size = w.heap.size + 1 := by simp
  have c0 := hRW.c0
  have c1 := hRW.c1
  by_cases hend : k = s.size
  · have HX : Hid ((if s.toList.drop k = [] then (.error 4 : Except Int (Nd × List UInt8)) else pN (f + 1) kid (s.toList.drop k)) = .error 4) := by
      rw [if_pos (by rw [List.drop_eq_nil_iff, len_toList]; omega)]; rfl
    have CF := Lib.hid (fun m => fail_any rb s k 0 4 _ (hRW.drewN m))
    have d1 : ((k : Int) == (s.size : Int)) = true := by simp; omega
    rw [HX.out]
    clear hend h hsW HX
    go_enter Tryz.func84, Tryz.ntmps84
    go_wp2
    go_quiet (fail)
    go_wp2_with fail
    refine (CF.out _).mono ?_
    rw [ferr_zero]
    rintro e w2 ⟨rfl, hg2, hR2⟩
    have hWd : Bx _ w.heap.size nc0 := hW
    have hB2 := hW.grown (show (w.alloc (.cells #[.string ⟨#[]⟩, .string ⟨#[]⟩, .slice none 0 0, .slice none 0 0] 65)).grownBy w2 (some rb) from grown_trans (grown_drewN (grown_refl _ _) _) hg2) (by omega)
    have hg3 := grown_trans (grown_drewN hgW _) hg2
    have p0 : _ = some (Value.string ⟨#[]⟩) := hB2.c0
    have p1 : _ = some (Value.string ⟨#[]⟩) := hB2.c1
    have p2 : _ = some (Value.slice none 0 0) := hB2.c2
    have p3 : _ = some (Value.slice none 0 0) := hB2.c3
    have pf0 := hB2.ff (i := 0)
    have pf1 := hB2.ff (i := 1)
    have pf2 := hB2.ff (i := 2)
    have pf3 := hB2.ff (i := 3)
    clear CF hg2 c0 c1 hWd
    go_wp2
    refine bodyPost_ret (v := .agg #[.string ⟨#[]⟩, .string ⟨#[]⟩, .slice none 0 0, .slice none 0 0]) (by simp [results, Tryz.results84, go_sem, p0, p1, p2, p3]) rfl ?_
    exact ⟨nc0, rfl, grown_set4 hg3 (Nat.le_refl _), k, 4, hk, (blk_set4 (by omega)).trans hR2, rfl⟩
  have hkl : k < s.size := by omega
  have d1 : ((k : Int) == (s.size : Int)) = false := beq_eq_false_iff_ne.2 (by omega)
  have HRR : Hid ((if s.toList.drop k = [] then (.error 4 : Except Int (Nd × List UInt8)) else pN (f + 1) kid (s.toList.drop k)) = pN (f + 1) kid (s.toList.drop k)) := by
    rw [if_neg (by rw [List.drop_eq_nil_iff, len_toList]; omega)]; rfl
  rw [HRR.out]
  have CFo := Lib.hid (fun m => follows_any rb s k 0 [60] _ (hRW.drewN m) hk hs (by simp))
  have HIH := Lib.hid IH
  clear IH hend HRR h
  by_cases h60 : s[k] = 60
  · have hpre : [60] <+: s.toList.drop k := by rw [drop_byte s k hkl, h60]; exact ⟨_, rfl⟩
    have hpe : pExp [60] (s.toList.drop k) = .ok (s.toList.drop (k + 1)) := by rw [drop_byte s k hkl, h60]; exact pExp_ok [60] (s.toList.drop (k + 1))
    rw [decide_eq_true hpre, decide_eq_true rfl, Bool.and_self] at CFo
    have HPN := Lib.hid (pN_rest f kid (s.toList.drop k) (by rw [drop_head s k hkl, h60]))
    have CW := Lib.hid (fun m => want_any rb s k [60] _ (hRW.drewN m) hk hs (by simp))
    rw [hpe] at CW
    clear hpre hpe h60
    go_enter Tryz.func84, Tryz.ntmps84
    go_wp2
    go_quiet (fail)
    go_wp2_with fail
    refine (CFo.out _).mono ?_
    rintro e w2 ⟨rfl, m2, rfl⟩
    go_wp2_with fail
    refine (CW.out _).mono ?_
    rintro e w3 ⟨rfl, hg3, k1, x1, hk1, hR3, hx1, hd1⟩
    subst hx1
    have hB3 := hW.grown (show (w.alloc (.cells #[.string ⟨#[]⟩, .string ⟨#[]⟩, .slice none 0 0, .slice none 0 0] 65)).grownBy w3 (some rb) from grown_trans (grown_drewN (grown_refl _ _) _) hg3) (by omega)
    have hg4 := grown_trans (grown_drewN hgW _) hg3
    have CN := Lib.hid (rname_any rb s k1 _ hR3 hk1 hs)
    rw [hd1] at CN
    clear CW CFo hg3 hR3 hd1
    go_wp2_with fail
    refine CN.out.mono ?_
    rintro e w4 ⟨u, rfl, hul, hg5, k2, x2, hk2, hR4, hm⟩
    have hB4 := hB3.grown hg5 (by omega)
    have hg6 := grown_trans hg4 hg5
    have hs4 := hB4.lt
    have hst : StA s f u (pN (f + 1) kid (s.toList.drop k)) k2 x2 [] := by
      rw [HPN.out, List.drop_drop]
      cases hn : pName (s.toList.drop (k + 1)) with
      | error y =>
        rw [hn] at hm
        subst hm
        exact .inl ⟨pName_err hn, rfl⟩
      | ok y =>
        obtain ⟨nm, l1⟩ := y
        rw [hn] at hm
        obtain ⟨h0, rfl, hd⟩ := hm
        refine .inr ⟨h0, by simp, l1.length + 1, ?_, ?_⟩
        · rw [← hd, drop_len]; omega
        · rw [hd, exA_nil]; rfl
    have hkk2 : x2 = 0 → k < k2 ∧ u.length ≤ 60 := by
      intro h0
      cases hn : pName (s.toList.drop (k + 1)) with
      | error y =>
        rw [hn] at hm
        exact absurd (hm.symm.trans h0) (pName_err hn)
      | ok y =>
        obtain ⟨nm, l1⟩ := y
        rw [hn] at hm
        have e := congrArg List.length (pName_some hn).2.1
        have e2 := congrArg List.length hm.2.2
        rw [List.length_append, drop_len] at e
        rw [drop_len] at e2
        exact ⟨by omega, by rw [hm.2.1]; exact (name_parts (pName_some hn).1).2.2⟩
    have HST := Lib.hid hst
    have hbW := below_alloc w4 (.cells #[.string (B u), .string ⟨#[]⟩, .slice none 0 0, .slice none 0 0] 65)
    have hE : EZ w rb s u (w4.heap.size + 1) w4.heap.size k2 x2 [] none 0 (w4.alloc (.cells #[.string (B u), .string ⟨#[]⟩, .slice none 0 0, .slice none 0 0] 65)) :=
      ⟨hR4.alloc _, hB4.alloc _, heap_alloc_new w4 _, ⟨rfl, .inl ⟨rfl, rfl⟩⟩, grown_alloc hg6 _, by simp; omega⟩
    clear CN hm hg5 hR4 hB3 hB4 hg4 hg6 hst hbW HPN hW hRW hgW hsW c0 c1
    go_wp2
    generalize w4.alloc (.cells #[.string (B u), .string ⟨#[]⟩, .slice none 0 0, .slice none 0 0] 65) = W at *
    generalize w4.heap.size = ob at *
    generalize pN (f + 1) kid (s.toList.drop k) = R at *
    go_loopw [30] (fun _ wr => ∃ (j : Nat) (x : Int) (ats : List (List UInt8 × List UInt8)) (A : Option Addr) (ca : Nat), j ≤ s.size ∧ (x = 0 → k < j ∧ u.length ≤ 60) ∧ EZ w rb s u (ob + 1) ob j x ats A ca wr ∧ Hid (StA s f u R j x ats)) (fun _ wr => lefty s wr rb)
    case atStart => exact ⟨k2, x2, [], none, 0, hk2, hkk2, hE, HST.out⟩
    case round =>
      obtain ⟨j, x, ats, A, ca, hj, hkj, hE, hst⟩ := hrel
      have o := hE.o
      have CF := Lib.hid (follows_any rb s j x [32] wr hE.r hj hs (by simp))
      cases hb : (decide (x = 0) && decide ([32] <+: s.toList.drop j))
      · have hst2 := Lib.hid (hst.out.stop (fun h0 hp => by simp [h0, hp] at hb))
        rw [hb] at CF
        clear hb hst
        go_wp2_with fail
        refine CF.out.mono ?_
        rintro e w5 ⟨rfl, m5, rfl⟩
        have hE5 := hE.drewN m5
        have y0 := hE.b.c0
        have CE := Lib.hid (fun V => rEmpty_any (B u) V)
        rw [B_data] at CE
        clear CF
        go_wp2_with fail
        refine (CE.out _).mono ?_
        rintro e w6 ⟨rfl, rfl⟩
        have hK8 := hE5.kids
        cases hem : emptyB u
        · have CW := Lib.hid (want_gen rb s j x [62] _ hE5.r hj hs (fun _ => by simp))
          have HEM := Lib.hid hem
          clear hem CE y0 hE hE5
          go_wp2_with fail
          refine CW.out.mono ?_
          rintro e w7 ⟨rfl, hg7, k7, x7, hk7, hR7, hw1, hw2⟩
          have hK7 := hK8.grow hg7 hR7
          have hst7 : Hid (StK s f u ats R k7 x7 []) := by
            rcases hst2.out with ⟨hx, hR⟩ | ⟨hx, hR⟩
            · rw [hw1 hx]; exact .inl ⟨hx, hR⟩
            · have hm := hw2 hx
              have hkj := hkj hx
              cases he : pExp [62] (s.toList.drop j) with
              | error y =>
                rw [he] at hm
                rw [pRest, if_neg (by simp [HEM.out]), he] at hR
                subst hm
                exact .inl ⟨pExp_err he, hR⟩
              | ok l =>
                rw [he] at hm
                rw [pRest_kids HEM.out he] at hR
                obtain ⟨h0, hd⟩ := hm
                have e := congrArg List.length (pExp_some he)
                have e2 := congrArg List.length hd
                rw [List.length_append, drop_len] at e
                rw [drop_len] at e2
                simp only [List.length_cons, List.length_nil] at e
                exact .inr ⟨h0, by simp, f, by omega, Nat.le_refl _, by rw [exA_nil, hd]; exact hR⟩
          have hu60 : x7 = 0 → u.length ≤ 60 := fun h7 => by
            by_cases hx : x = 0
            · exact (hkj hx).2
            · exact absurd ((hw1 hx).symm.trans h7) hx
          clear hw1 hw2 hst2 CW hg7 hR7 hK8 HEM
          have hks7 : Hid (KSt w rb s f u ats A ca (wr.drewN m5).heap.size ob R k7 x7 w7) := by
            refine ⟨_, hK7.ew, rfl, ?_⟩
            rcases hst7.out with h | h
            · exact .inl h
            · exact .inr ⟨h.1, hu60 h.1, [], [], none, 0, rfl, hK7, .inr h⟩
          clear hst7 hK7 hu60
          go_upto_block 2 with fail
          generalize (wr.drewN m5).heap.size = base at *
          go_cut [] (fun wx => KEnd w rb s u ats A ca base ob R wx)
          case first =>
            go_wp2
            go_loopw [49] (fun _ wv => ∃ (j2 : Nat) (x8 : Int), j2 ≤ s.size ∧ Hid (KSt w rb s f u ats A ca base ob R j2 x8 wv)) (fun _ wv => lefty s wv rb)
            case atStart => exact ⟨k7, x7, hk7, hks7⟩
            case round =>
              obtain ⟨j2, x8, hj2, hks⟩ := hrel
              have hks := hks.out
              obtain ⟨c, hW8, hcn, hcase⟩ := hks
              have e2 := hW8.r.c2
              by_cases hxn : ¬ x8 = 0
              · have hR8 : R = .error x8 := by
                  rcases hcase with h | h
                  · exact h.2
                  · exact absurd h.1 hxn
                have HR8 := Lib.hid hR8
                have z : (x8 == 0) = false := by simpa using hxn
                have HXN := Lib.hid hxn
                clear hR8 hcase hxn hks7
                go_wp2
                go_meet
                exact ⟨j2, x8, c, hj2, hW8, hcn, .inl ⟨HXN.out, HR8.out⟩⟩
              · have hx := Classical.not_not.1 hxn
                clear hxn
                subst hx
                obtain ⟨_, h60, ks, cs, K, ck, hcc, hK, hstk⟩ := hcase.resolve_left (fun h => h.1 rfl)
                subst hcc
                obtain ⟨_, hkl, g, hg2, hgf, hR⟩ := hstk.resolve_left (fun h => h.1 rfl)
                obtain ⟨g, rfl⟩ : ∃ g', g = g' + 1 := ⟨g - 1, by omega⟩
                have CF2 := Lib.hid (follows_any rb s j2 0 [60, 47] _ hK.r hj2 hs (by simp))
                have HPK : Hid (pKs (g + 1) (s.toList.drop j2) = if [60, 47] <+: s.toList.drop j2 then .ok ([], s.toList.drop j2) else if s.toList.drop j2 = [] then .error 4 else match pN g true (s.toList.drop j2) with
                  | .error e => .error e
                  | .ok (k, r) => match pKs g r with
                    | .error e => .error e
                    | .ok (ks, r') => .ok (k :: ks, r')) := by rw [pKs]; rfl
                have HR := Lib.hid hR
                clear hR hcase hks7 hstk hW8 hcn
                by_cases hend : [60, 47] <+: s.toList.drop j2
                · rw [decide_eq_true hend, decide_eq_true rfl, Bool.and_self] at CF2
                  have HE : Hid (R = pTail u ats ks (s.toList.drop j2)) := by
                    rw [HR.out, HPK.out, if_pos hend]
                    simp [exA, bindR, Hid]
                  clear HPK hend HR
                  go_wp2_with fail
                  refine CF2.out.mono ?_
                  rintro e w8 ⟨rfl, m8, rfl⟩
                  go_wp2
                  go_meet
                  exact ⟨j2, 0, _, hj2, (hK.drewN _).ew, rfl, .inr ⟨rfl, h60, ks, cs, K, ck, rfl, hK.drewN _, HE.out⟩⟩
                · rw [decide_eq_false hend, Bool.and_false] at CF2
                  have HPK2 : Hid (pKs (g + 1) (s.toList.drop j2) = if s.toList.drop j2 = [] then .error 4 else match pN g true (s.toList.drop j2) with
                    | .error e => .error e
                    | .ok (k, r) => match pKs g r with
                      | .error e => .error e
                      | .ok (ks, r') => .ok (k :: ks, r')) := by rw [HPK.out, if_neg hend]; rfl
                  have e3 := hK.b.c3
                  clear HPK hend
                  go_wp2_with fail
                  refine CF2.out.mono ?_
                  rintro e w8 ⟨rfl, m8, rfl⟩
                  have hK6 := (hK.drewN m8).drewN 1
                  have CN := Lib.hid (HIH.out g (by omega) rb s j2 true _ hK6.r hj2 hs (by omega))
                  clear CF2
                  go_wp2
                  go_region_law (first | (go_simp; go_at_call 84; refine CN.out.mono ?_; rintro e w6 ⟨c6, rfl, hg6, k6, x6, hk6, hR6, hm6⟩; have hK7 := hK6.grow hg6 hR6; have hm7 := Lib.hid hm6; clear hm6; have y3' := hK7.b.c3; have y3a := (hK7.b.alloc (.cells #[.string (B c6.nm), .string (B c6.tx), .slice c6.A c6.na c6.ca, .slice c6.K c6.nk c6.ck] 65)).c3) | (refine step_app2 (by rfl) (.tmp 60) (.tmp 63) 57 (by rfl) 65 (.agg #[.string ⟨#[]⟩, .string ⟨#[]⟩, .slice none 0 0, .slice none 0 0]) 4 80 Tryz.underlying57 Tryz.infoNode rfl (by omega) w6 c6.cells rfl (by simp [NC.cells]; exact ⟨rfl, rfl, rfl, rfl⟩) base _ _ _ hK7.own (by rfl) (by rfl) (by omega) (by omega) hK7.o.2.2.2.2 ?_; intro g7 cap w7 ho7 hg7 hb7 hat7; have hbx : Bx w7 ob _ := (hb7.block ob (by have := hK7.o; omega)).trans hK7.b; have z3 := hbx.c3; have zf := hbx.ff (i := 3)))
                  all_goals
                    have oo := hK7.o
                    have hE8 : EW w rb s ob k6 x6 ⟨u, [], A, ats.length, ca, some ⟨g7, 0, none⟩, ks.length + 1, cap⟩ (w7.setCell ⟨ob, 3, none⟩ (.slice (some ⟨g7, 0, none⟩) (ks.length + 1) cap)) := by
                      have hsz := hb7.size
                      refine ⟨(blk_set (by omega)).trans ((hb7.block rb (by omega)).trans hK7.r), (blk_set (by omega)).trans ((hb7.block _ (by omega)).trans hK7.z), ?_, ⟨hb7.os.trans hK7.g.os, hb7.tape.trans hK7.g.tape, hb7.output.trans hK7.g.output, by rw [size_set]; have := hK7.g.size; omega, fun i hi hne => (blk_set (by omega)).trans ((hb7.block i (by omega)).trans (hK7.g.block i hi hne))⟩, by rw [size_set]; omega⟩
                      unfold Bx at *
                      simp [World.setCell, Array.getElem?_modify, hbx]
                    have HS : Hid (KSt w rb s f u ats A ca base ob R k6 x6 (w7.setCell ⟨ob, 3, none⟩ (.slice (some ⟨g7, 0, none⟩) (ks.length + 1) cap)) ∧ (x6 = 0 → j2 < k6)) := by
                      have hm := hm7.out
                      have hR := HR.out
                      rw [HPK2.out] at hR
                      by_cases hnil : s.toList.drop j2 = []
                      · rw [if_pos hnil] at hm hR
                        have hm : x6 = 4 := hm
                        subst hm
                        exact ⟨⟨_, hE8, rfl, .inl ⟨by omega, hR⟩⟩, fun h => absurd h (by omega)⟩
                      · rw [if_neg hnil] at hm hR
                        cases hn : pN g true (s.toList.drop j2) with
                        | error y =>
                          rw [hn] at hm hR
                          have hm : x6 = y := hm
                          subst hm
                          exact ⟨⟨_, hE8, rfl, .inl ⟨pN_err hn, hR⟩⟩, fun h => absurd h (pN_err hn)⟩
                        | ok y =>
                          obtain ⟨nd, l⟩ := y
                          rw [hn] at hm hR
                          obtain ⟨h0, hnd, hd⟩ := hm
                          have h1 := (pN_some g).1 true _ _ _ hn hnil
                          have h2 := congrArg List.length h1.2.1
                          have h3 := List.length_pos_iff.2 (mku_ne nd h1.1)
                          have h4 := congrArg List.length hd
                          rw [List.length_append, drop_len] at h2
                          rw [drop_len] at h4
                          have hkk : j2 < k6 := by omega
                          simp only [drewN_size] at hnd
                          have hnd2 : NdAt w6 (fun b => base ≤ b ∧ b < w6.heap.size ∧ some b ≠ (Value.slice K ks.length ck).ownBlock) nd c6 :=
                            NdAt.keep (fun b hb => ⟨by have := hK.o; omega, hb.2, fun e => by have := (hK.own.lt b e.symm).2; omega⟩) (fun _ _ => rfl) nd c6 hnd
                          have hK8 := hK7.app hnd2 ho7 hb7 hg7 (by
                            rcases hat7 with h | h
                            · exact .inl (by rw [h]; rfl)
                            · exact .inr fun b hb => by have : g7 = b := Option.some.inj hb
                                                        omega)
                          have hl : (ks ++ [nd]).length = ks.length + 1 := by simp
                          refine ⟨⟨_, hE8, rfl, .inr ⟨h0, h60, ks ++ [nd], cs ++ [c6], some ⟨g7, 0, none⟩, cap, by rw [hl], hK8, .inr ⟨h0, by rw [hl]; omega, g, by omega, by omega, ?_⟩⟩⟩, fun _ => hkk⟩
                          rw [hR, hd]
                          congr 1
                          exact exA_snocN
                    clear hm7 hE8 CN hK6 hbx hb7 hg7 ho7 HPK2 HR
                    have HS1 := Lib.hid HS.out.1
                    have HS2 := Lib.hid HS.out.2
                    have HR8 : Hid (Ry (w7.setCell ⟨ob, 3, none⟩ (.slice (some ⟨g7, 0, none⟩) (ks.length + 1) cap)) rb s k6 x6) := by obtain ⟨c', hw, _⟩ := HS.out.1; exact hw.r
                    clear HS
                    go_wp2
                    go_roundw
                    case rel => exact ⟨k6, x6, hk6, HS1⟩
                    case measure => exact lefty_lt2 hK.r HR8.out hk6 HS2.out
          case rest =>
            obtain ⟨j9, x9, c9, hj9, hW9, hcn, hcase⟩ := hcut
            have HCS := Lib.hid hcase
            have hu9 : x9 = 0 → u.length ≤ 60 := fun h0 => (hcase.resolve_left (fun h => h.1 h0)).2.1
            have y0 : wc.cell? ⟨ob, 0, none⟩ = some (.string (B u)) := by have := hW9.b.c0; rwa [hcn] at this
            obtain ⟨Z1, eZ1, lZ1, qZ1⟩ := cat_step [60, 47] u ⟨#[60, 47]⟩ (B u) rfl rfl (by simp only [List.length]; omega)
            obtain ⟨Z2, eZ2, lZ2, qZ2⟩ := cat_step Z1 [62] (B Z1) ⟨#[62]⟩ rfl rfl (by rw [lZ1]; simp only [List.length]; omega)
            have HZ : Hid (Z2 = [60, 47] ++ u ++ [62]) := by rw [eZ2, eZ1]; rfl
            have hZl : x9 = 0 → Z2.length ≤ 1000000000 := fun h0 => by
              have := hu9 h0
              rw [lZ2, lZ1]; simp only [List.length]; omega
            have CW := Lib.hid (want_gen rb s j9 x9 Z2 _ hW9.r hj9 hs hZl)
            clear hcase hks7 hu9 eZ1 eZ2 lZ1 lZ2 hZl
            go_wp2_with fail
            refine CW.out.mono ?_
            rintro e wA ⟨rfl, hgA, kA, xA, hkA, hRA, hw1, hw2⟩
            have hWA := hW9.grow hgA hRA
            have hfin : Hid ((xA ≠ 0 ∧ R = .error xA) ∨ (xA = 0 ∧ ∃ (ks : List Nd), NdAt wA (fun b => w.heap.size ≤ b ∧ b < wA.heap.size ∧ b ≠ w.heap.size) (.mk u [] ats ks) c9 ∧ R = .ok (.mk u [] ats ks, s.toList.drop kA))) := by
              rcases HCS.out with ⟨h0, hR⟩ | ⟨h0, _, ks, cs, K, ck, hcc, hK, hR⟩
              · rw [hw1 h0]; exact .inl ⟨h0, hR⟩
              · have hm := hw2 h0
                rw [HZ.out] at hm
                rw [pTail] at hR
                cases he : pExp ([60, 47] ++ u ++ [62]) (s.toList.drop j9) with
                | error y =>
                  rw [he] at hm hR
                  have hm : xA = y := hm
                  subst hm
                  exact .inl ⟨pExp_err he, hR⟩
                | ok l =>
                  rw [he] at hm hR
                  refine .inr ⟨hm.1, ks, ?_, by rw [hR, hm.2]⟩
                  have hKA := hK.grow hgA hRA
                  have oA := hKA.o
                  subst hcc
                  refine ⟨rfl, rfl, hKA.aa.mono (fun b hb => ⟨by omega, by omega, by omega⟩), cs, (RdS.of_own hKA.own).mono (fun b hb => ⟨by omega, by omega, by omega⟩), hKA.kk.keep (fun b hb => ⟨by omega, by omega, by omega⟩) (fun _ _ => rfl)⟩
            have x0 := hWA.b.c0
            have x1 := hWA.b.c1
            have x2' := hWA.b.c2
            have x3 := hWA.b.c3
            have p0 : _ = some (Value.string (B [])) := hWA.z.c0
            have p1 : _ = some (Value.string (B [])) := hWA.z.c1
            have p2 : _ = some (Value.slice none 0 0) := hWA.z.c2
            have p3 : _ = some (Value.slice none 0 0) := hWA.z.c3
            have pf0 := hWA.z.ff (i := 0)
            have pf1 := hWA.z.ff (i := 1)
            have pf2 := hWA.z.ff (i := 2)
            have pf3 := hWA.z.ff (i := 3)
            have oA := hWA.o
            have hneA : w.heap.size ≠ ob := by omega
            clear hw1 hw2 HCS CW hgA y0 hW9 hcn
            go_wp2
            refine bodyPost_ret (v := .agg #[.string (B c9.nm), .string (B c9.tx), .slice c9.A c9.na c9.ca, .slice c9.K c9.nk c9.ck]) (by simp [results, Tryz.results84, go_sem, p0, p1, p2, p3]) rfl ?_
            refine ⟨c9, rfl, grown_set4 hWA.g (Nat.le_refl _), kA, xA, hkA, (blk_set4 (by omega)).trans hRA, ?_⟩
            rcases hfin.out with ⟨h0, hR⟩ | ⟨h0, ks, hn, hR⟩
            · rw [hR]
            · rw [hR]
              exact ⟨h0, NdAt.keep (fun b hb => ⟨hb.1, by simp; exact hb.2.1⟩) (fun b hb => blk_set4 (by omega)) _ _ hn, rfl⟩
        · have CW := Lib.hid (want_gen rb s j x [47, 62] _ hE5.r hj hs (fun _ => by simp))
          have HPR : Hid (pRest f u ats (s.toList.drop j) = match pExp [47, 62] (s.toList.drop j) with
            | .error e => .error e
            | .ok r3 => .ok (.mk u [] ats [], r3)) := by rw [pRest, if_pos hem]; rfl
          clear hem CE y0 hE hE5
          go_wp2_with fail
          refine CW.out.mono ?_
          rintro e w9 ⟨rfl, hg9, k9, x9, hk9, hR9, hw1, hw2⟩
          have hfin : Hid (FinN s R x9 k9 (.mk u [] ats [])) := by
            rcases hst2.out with ⟨hx, hR⟩ | ⟨hx, hR⟩
            · rw [hw1 hx]; exact .inl ⟨hx, hR⟩
            · have hm := hw2 hx
              rw [HPR.out] at hR
              cases he : pExp [47, 62] (s.toList.drop j) with
              | error y =>
                rw [he] at hm hR
                subst hm
                exact .inl ⟨pExp_err he, hR⟩
              | ok l =>
                rw [he] at hm hR
                exact .inr ⟨hm.1, by rw [hR, hm.2]⟩
          clear hw1 hw2 HPR hst2 CW
          have hK9 := hK8.grow hg9 hR9
          have hX9 := hK9.b
          have x0 := hX9.c0
          have x1 := hX9.c1
          have x2' := hX9.c2
          have x3 := hX9.c3
          have p0 : _ = some (Value.string (B [])) := hK9.z.c0
          have p1 : _ = some (Value.string (B [])) := hK9.z.c1
          have p2 : _ = some (Value.slice none 0 0) := hK9.z.c2
          have p3 : _ = some (Value.slice none 0 0) := hK9.z.c3
          have pf0 := hK9.z.ff (i := 0)
          have pf1 := hK9.z.ff (i := 1)
          have pf2 := hK9.z.ff (i := 2)
          have pf3 := hK9.z.ff (i := 3)
          have o9 := hK9.o
          have hne9 : w.heap.size ≠ ob := by omega
          go_wp2
          refine bodyPost_ret (v := .agg #[.string (B u), .string (B []), .slice A ats.length ca, .slice none 0 0]) (by simp [results, Tryz.results84, go_sem, p0, p1, p2, p3]) rfl ?_
          exact hfin.out.post (c := ⟨u, [], A, ats.length, ca, none, 0, 0⟩) (grown_set4 hK9.g (Nat.le_refl _)) hk9 ((blk_set4 (by omega)).trans hR9) (hK9.node (fun b hb _ => blk_set4 (by omega)) (by simp))
      · obtain ⟨hx, hp⟩ : x = 0 ∧ [32] <+: s.toList.drop j := by simpa using hb
        subst hx
        have hkj0 := hkj rfl
        clear hkj
        rw [hb] at CF
        have hjl : j < s.size := by
          apply Classical.byContradiction
          intro hc
          rw [List.drop_of_length_le (by rw [len_toList]; omega)] at hp
          have := hp.length_le
          simp at this
        have h32 : s[j] = 32 := by
          rw [drop_byte s j hjl] at hp
          obtain ⟨q, hq⟩ := hp
          exact (List.cons.inj hq).1.symm
        have hal : ats.length ≤ 1000000000 := by
          rcases hst.out with ⟨h, _⟩ | ⟨_, h, _⟩
          · exact absurd rfl h
          · omega
        clear hb hp
        go_wp2_with fail
        refine CF.out.mono ?_
        rintro e w5 ⟨rfl, m5, rfl⟩
        have hE6 := (hE.drewN m5).drewN 1
        have CA := Lib.hid (rattr_any rb s j A ats.length ca ats _ hE6.r hjl h32 hs hE6.rds hal)
        have y2 := hE.b.c2
        clear CF
        go_wp2
        go_region_law (first | (go_simp; go_at_call 116; refine CA.out.mono ?_; rintro e w6 ⟨p, rfl, hg6, k6, x6, hk6, hR6, hm6⟩; have hE7 := hE6.grow hg6 hR6; have hm7 := Lib.hid hm6; clear hm6; have y2' := hE7.b.c2; have y2a := (hE7.b.alloc (.cells #[.string (B p.1), .string (B p.2)] 71)).c2) | (refine step_app (by rfl) (.tmp 33) (.tmp 38) 27 (by rfl) 71 (.agg #[.string ⟨#[]⟩, .string ⟨#[]⟩]) 2 32 Tryz.underlying27 Tryz.infoPair rfl (by omega) w6 [.string (B p.1), .string (B p.2)] rfl (by simp; exact ⟨rfl, rfl⟩) (ob + 1) _ _ _ hE7.own (by rfl) (by rfl) (by omega) (by omega) hE7.o.2.2.2 ?_; intro g cap w7 ho7 hg7 hb7; have hE8 := hE7.app ho7 hb7; have hbx : Bx w7 ob _ := (hb7.block ob (by omega)).trans hE7.b; have z2 := hbx.c2; have zf := hbx.ff (i := 2)))
        all_goals
          obtain ⟨hst2, hlt2⟩ := hst.out.step (p := p) hjl h32 hk6 hm7.out
          have HS2 := Lib.hid hst2
          have HLT := Lib.hid hlt2
          clear hst2 hlt2 hst hm7 CA hE6 hE7 hbx hb7 hg7 ho7
          go_wp2
          go_roundw
          case rel => exact ⟨k6, x6, ats ++ [p], _, _, hk6, fun h => ⟨Nat.lt_trans hkj0.1 (HLT.out h), hkj0.2⟩, hE8, HS2⟩
          case measure => exact lefty_lt hE.r hE8.r hjl HLT.out
  · have hnp : ¬ [60] <+: s.toList.drop k := by
      rw [drop_byte s k hkl]
      rintro ⟨q, hq⟩
      exact h60 (List.cons.inj hq).1.symm
    rw [decide_eq_false hnp, Bool.and_false] at CFo
    have HPD := Lib.hid (pN_data f kid (s.toList.drop k) (by rw [drop_head s k hkl]; exact fun e => h60 (Option.some.inj e)))
    have CT := Lib.hid (fun m => rtextN_any rb s k kid _ (hRW.drewN m) hk hs)
    rw [← HPD.out] at CT
    clear hnp h60 HPD
    generalize pN (f + 1) kid (s.toList.drop k) = R at *
    go_enter Tryz.func84, Tryz.ntmps84
    go_wp2
    go_quiet (fail)
    go_wp2_with fail
    refine (CFo.out _).mono ?_
    rintro e w2 ⟨rfl, m2, rfl⟩
    go_wp2_with fail
    refine (CT.out _).mono ?_
    rintro e w3 ⟨c, rfl, hg3, k3, x3, hk3, hR3, hm3⟩
    have hB3 := hW.grown (show (w.alloc (.cells #[.string ⟨#[]⟩, .string ⟨#[]⟩, .slice none 0 0, .slice none 0 0] 65)).grownBy w3 (some rb) from grown_trans (grown_drewN (grown_refl _ _) _) hg3) (by omega)
    have hg4 := grown_trans (grown_drewN hgW _) hg3
    have HM3 := Lib.hid hm3
    have p0 : _ = some (Value.string (B [])) := hB3.c0
    have p1 : _ = some (Value.string (B [])) := hB3.c1
    have p2 : _ = some (Value.slice none 0 0) := hB3.c2
    have p3 : _ = some (Value.slice none 0 0) := hB3.c3
    have pf0 := hB3.ff (i := 0)
    have pf1 := hB3.ff (i := 1)
    have pf2 := hB3.ff (i := 2)
    have pf3 := hB3.ff (i := 3)
    clear CT CFo c0 c1 hm3
    go_wp2
    refine bodyPost_ret (v := .agg #[.string (B c.nm), .string (B c.tx), .slice c.A c.na c.ca, .slice c.K c.nk c.ck]) (by simp [results, Tryz.results84, go_sem, p0, p1, p2, p3]) rfl ?_
    refine ⟨c, rfl, grown_set4 hg4 (Nat.le_refl _), k3, x3, hk3, (blk_set4 (by omega)).trans hR3, ?_⟩
    have hm3 := HM3.out
    cases R with
    | error y => exact hm3
    | ok y =>
      obtain ⟨n, l⟩ := y
      obtain ⟨h0, hn, hd⟩ := hm3
      refine ⟨h0, NdAt.keep (fun b hb => ?_) (fun b hb => blk_set4 ?_) n c hn, hd⟩
      · have h1 := hb.1
        simp only [drewN_size, hsW] at h1
        exact ⟨by omega, by simp; exact hb.2⟩
      · have h1 := hb.1
        simp only [drewN_size, hsW] at h1
        omega
end Go.Proofs.YtejjidbodfoiiaaGreatDoor
