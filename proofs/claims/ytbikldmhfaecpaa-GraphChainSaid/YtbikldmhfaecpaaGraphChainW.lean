/-
  Layer 48 (graph): the walk of the law GraphChain.
-/
import Derived.Test.YtbikldmhfaecpaaGrX
import Derived.Test.YtbikldmhfaecpaaGrZa
import Derived.IntWalk
import Derived.Deep.RegionHeld3
namespace Go.Proofs.Ytbikldmhfaecpaa
open Go.RowKit
set_option linter.unusedVariables false
set_option linter.unusedSimpArgs false
attribute [local go_sem] B_data B_size

theorem chainC_gi {S : GS} (h : GI 0 S) (hc : S.changes ≤ 1) : ∀ k, GI 0 (chainC k S) ∧ (chainC k S).changes ≤ k + 2
  | 0 => by
    have := ruleX_gi h [98] [[97]] (some 1)
    exact ⟨this.1, by have := this.2; unfold chainC; omega⟩
  | k + 1 => by
    obtain ⟨h1, h2⟩ := chainC_gi h hc k
    have := ruleX_gi h1 (nmC (k + 2)) [nmC (k + 1)] (some 0)
    exact ⟨this.1, by have := this.2; unfold chainC; omega⟩
theorem nm_ext (j : Nat) (h : j ≤ 25) : (⟨#[97, 98, 99, 100, 101, 102, 103, 104, 105, 106, 107, 108, 109, 110, 111, 112, 113, 114, 115, 116, 117, 118, 119, 120, 121, 122]⟩ : ByteArray).extract j (j + 1) = B (nmC j) := by
  rw [B_extract]
  congr 1
  have h1 : (List.range 26).all (fun j => decide ((((⟨#[97, 98, 99, 100, 101, 102, 103, 104, 105, 106, 107, 108, 109, 110, 111, 112, 113, 114, 115, 116, 117, 118, 119, 120, 121, 122]⟩ : ByteArray).toList.take (j + 1)).drop j) = nmC j)) = true := by kernel_rfl
  exact of_decide_eq_true (List.all_eq_true.1 h1 j (List.mem_range.2 (by omega)))
theorem GT.ruleLitD {id gb R m : Nat} {S : GS} {w0 w : World} {needs : List Nm} (h : GT id gb S w0 w) (hi : GI R S) (hc : S.changes ≤ 1000000) (n : Nm) (fo : Option Nat) (C : Array Value) (hC : C.toList = strs needs) (hl : needs.length = m) (hm : m ≤ 1000000) :
    Calls Try.prog 24 #[.pointer (some ⟨gb, 0, none⟩), .string (B n), .slice (some ⟨w.heap.size, 0, none⟩) m m, fnO fo] (w.alloc (.cells C 9)).drew fun e w' => e = .returned (.int .i64 ((ruleX S n needs fo).1 : Int)) ∧ GT id gb (ruleX S n needs fo).2 w0 w' := by
  obtain ⟨own, h1, h2, h3⟩ := h
  have hr : Rd (w.alloc (.cells C 9)).drew (w.alloc (.cells C 9)).drew.heap.size 1 (some ⟨w.heap.size, 0, none⟩) m (strs needs) := by
    refine ⟨by rw [strs_len, hl, Nat.mul_one], fun _ => ⟨_, rfl, by simp, fun j u hj => ?_⟩⟩
    rw [addr_lit]
    show (w.alloc (.cells C 9)).cell? ⟨w.heap.size, 0 + j, none⟩ = _
    rw [cell_of_row _ w.heap.size _ C 9 (0, 0) (heap_alloc_new w _)]
    rw [← hC] at hj
    simpa using hj
  have hf := h1.fr
  have hb : Below w.heap.size w (w.alloc (.cells C 9)).drew := (below_alloc w (.cells C 9)).drew
  exact (rule_any n needs fo _ m m _ (h1.below hb) hi hc ⟨hr, (fun ad e _ hmi => by
    injection e with e; subst e
    obtain ⟨t, ht⟩ := hmi
    rw [hf w.heap.size (Nat.le_refl _)] at ht; cases ht), Nat.le_refl _⟩ hm).mono fun e w' hp => hp.gt (S := S) (h2.trans (hb.mono h2.size)) h3
set_option maxHeartbeats 8000000 in
set_option maxRecDepth 100000 in
theorem graphChain_walk0 (w : World) (q : UInt8) (a : ByteArray) (_ : a.size ≤ maxLen) (b : ByteArray) (_ : b.size ≤ maxLen) :
    Calls Try.prog 6 #[.int .u8 (q.toNat : Int), .string a, .string b] w fun e w' => e = .returned (.bool true) ∧ Below w.heap.size w w' := by
  obtain ⟨a, rfl⟩ : ∃ l, a = B l := ⟨a.toList, (B_self a).symm⟩
  obtain ⟨b, rfl⟩ : ∃ l, b = B l := ⟨b.toList, (B_self b).symm⟩
  by_cases h1 : a.length ≤ 40 ∧ b.length ≤ 40
  · obtain ⟨ha, hb⟩ := h1
    have d1 : decide ((a.length : Int) > 40) = false := by simp; omega
    have d2 : decide ((b.length : Int) > 40) = false := by simp; omega
    go_enter Try.func6, Try.ntmps6
    go_wp2_with fail
    refine (awake_any w).mono ?_
    rintro e w1 ⟨rfl, hb1⟩
    obtain ⟨n, n1, n2, hq⟩ : ∃ n : Nat, 1 ≤ n ∧ n ≤ 20 ∧ wrap64 (1 + (wrap64 (q.toNat : Int)).tmod 20) = (n : Int) := by
      have hlt := q.toNat_lt
      refine ⟨1 + q.toNat % 20, by omega, by omega, ?_⟩
      rw [IntWalk.wrap64_in (q.toNat : Int) (by omega)]
      have e : ((q.toNat : Int)).tmod 20 = ((q.toNat % 20 : Nat) : Int) := by
        rw [Int.tmod_eq_emod_of_nonneg (by omega)]; omega
      rw [e, IntWalk.wrap64_in _ (by omega)]
      omega
    have HQ := Lib.hid hq
    clear hq
    go_wp2_with fail
    rw [HQ.out]
    refine (new_any w1).mono ?_
    rintro e wx ⟨rfl, rfl⟩
    have H0 := Lib.hid (GT.new 0 hb1)
    generalize w1.alloc (.cells #[.map none, .map none, .map none, .int .i64 0, .int .i64 0] 49) = w2 at H0 ⊢
    clear hb1
    generalize hgb : w1.heap.size = gb at *
    clear hgb
    go_wp2_with fail
    have C := GT.set H0.out (GI.new 0) (by decide) [97] a
    refine C.mono ?_
    rintro e w3 ⟨rfl, h⟩
    have hs0 := setX_gi (GI.new 0) [97] a (by omega)
    have HG := Lib.hid (chainC_gi hs0.1 hs0.2)
    have HS0 := Lib.hid hs0
    have hch : chainC (n - 1) (setX GS.new [97] a).2 = chainA a (n - 1) := rfl
    have HCH := Lib.hid hch
    clear hs0 hch
    generalize (setX GS.new [97] a).2 = S0 at *
    have H1 := Lib.hid h
    clear C h H0
    go_wp2_with fail
    have C := GT.ruleLit H1.out HS0.out.1 (Nat.le_trans HS0.out.2 (by decide)) [98] (some 1) #[.string ⟨#[97]⟩] (needs := [[97]]) rfl rfl (by decide)
    refine C.mono ?_
    rintro e w4 ⟨rfl, h⟩
    have H2 : Hid (GT 0 gb (chainC 0 S0) w w4) := Lib.hid h
    clear C h H1
    go_wp2
    go_loopw [10] (fun i wr => ∃ j : Nat, 2 ≤ j ∧ j ≤ n + 1 ∧ i = .int .i64 j ∧ GT 0 gb (chainC (j - 2) S0) w wr) (fun i _ => n + 1 - (intOf i).toNat)
    case atStart => exact ⟨2, Nat.le_refl _, by omega, rfl, H2.out⟩
    case round =>
      obtain ⟨j, j1, j2, rfl, hw⟩ := hrel
      by_cases hlt : j ≤ n
      · have HW := Lib.hid hw
        clear hw
        obtain ⟨i, hi⟩ : ∃ i, j = i + 1 := ⟨j - 1, by omega⟩
        obtain ⟨k, hk⟩ : ∃ k, k = j + 1 := ⟨j + 1, rfl⟩
        have x1 := nm_ext j (by omega)
        have x2 := nm_ext i (by omega)
        rw [← hk] at x1
        rw [← hi] at x2
        have e1 : IntKind.i64.wrap ((j : Int) + 1) = (k : Int) := by rw [IntWalk.i64_in _ (by omega)]; omega
        have e2 : IntKind.i64.wrap ((j : Int) - 1) = (i : Int) := by rw [IntWalk.i64_in _ (by omega)]; omega
        have b1 : (j : Int) ≤ (k : Int) := by omega
        have b2 : (k : Int) ≤ 26 := by omega
        have b3 : (i : Int) ≤ (j : Int) := by omega
        have b4 : (j : Int) ≤ 26 := by omega
        have b5 : (0 : Int) ≤ (j : Int) := by omega
        have b6 : (0 : Int) ≤ (i : Int) := by omega
        have c1 : j ≤ k := by omega
        have c2 : k ≤ 26 := by omega
        have c3 : i ≤ j := by omega
        have c4 : j ≤ 26 := by omega
        have HI := Lib.hid hi
        have HK := Lib.hid hk
        have HR := Lib.hid (GT.ruleLitD HW.out (HG.out (j - 2)).1 (Nat.le_trans (HG.out (j - 2)).2 (by omega)) (nmC j) (some 0) #[.string (B (nmC i))] (needs := [nmC i]) (m := 1) rfl rfl (by decide))
        clear hi hk
        go_wp2
        go_region_held3 (fun _ => True) (trivial) (first | (go_at_call 24; refine HR.out.mono ?_; rintro e w5 ⟨rfl, h5⟩))
        have H5 : Hid (GT 0 gb (chainC (j + 1 - 2) S0) w w5) := by
          have e3 : chainC (j + 1 - 2) S0 = (ruleX (chainC (j - 2) S0) (nmC j) [nmC i] (some 0)).2 := by
            obtain ⟨k, rfl⟩ : ∃ k, j = k + 2 := ⟨j - 2, by omega⟩
            have := HI.out
            obtain rfl : i = k + 1 := by omega
            rfl
          rw [e3]; exact Lib.hid h5
        clear h5 x1 x2 HR e1 e2 b1 b2 b3 b4 b5 b6 c1 c2 c3 c4 HI HK
        go_wp2
        go_roundw
        case rel => exact ⟨j + 1, by omega, by omega, by go_num, H5.out⟩
        case measure => simp [intOf]; omega
      · obtain rfl : j = n + 1 := by omega
        have HW : Hid (GT 0 gb (chainA a (n - 1)) w wr) := by
          rw [← HCH.out]; exact Lib.hid hw
        have HGA : Hid (GI 0 (chainA a (n - 1)) ∧ (chainA a (n - 1)).changes ≤ n - 1 + 2) := by
          rw [← HCH.out]; exact Lib.hid (HG.out (n - 1))
        clear hw H2 HG HS0 HCH
        have x1 := nm_ext n (by omega)
        have e1 : IntKind.i64.wrap ((n : Int) + 1) = ((n + 1 : Nat) : Int) := by rw [IntWalk.i64_in _ (by omega)]; omega
        have b1 : (n : Int) ≤ 26 := by omega
        have HS := Lib.hid (secondC a b n1 n2)
        have HSG := Lib.hid (setX_gi (R := 1024) (S := restC n a (digU a) n (n + 1)) (by have := (getX_gi HGA.out.1 (nmC n)).1; rwa [firstC a n n1 n2] at this) [97] b (by omega))
        have HG1 : Hid (GI 1024 (restC n a (digU a) n (n + 1))) := by have := (getX_gi HGA.out.1 (nmC n)).1; rw [firstC a n n1 n2] at this; exact Lib.hid this
        go_wp2_with fail
        have C := GT.get HW.out HGA.out.1 (by decide) (nmC n)
        rw [firstC a n n1 n2] at C
        simp only [ResV] at C
        refine C.mono ?_
        rintro e w4 ⟨rfl, h⟩
        have H3 := Lib.hid h
        clear C h HW
        go_wp2_with fail
        have C := GT.runs H3.out
        rw [show (restC n a (digU a) n (n + 1)).runs = n from rfl] at C
        refine C.mono ?_
        rintro e wx ⟨rfl, rfl⟩
        clear C
        go_wp2_with fail
        have C := GT.set H3.out HG1.out (by show n + 1 ≤ 1000000; omega) [97] b
        refine C.mono ?_
        rintro e w5 ⟨rfl, h⟩
        have H4 := Lib.hid h
        clear C h H3
        generalize hS2 : (setX (restC n a (digU a) n (n + 1)) [97] b).2 = S2 at *
        clear hS2
        generalize ((setX (restC n a (digU a) n (n + 1)) [97] b).1 : Int) = r1
        obtain ⟨g1, g2, g3, g4⟩ := HS.out
        have HG2 := Lib.hid g2
        have HG3 := Lib.hid g3
        have HG4 := Lib.hid g4
        have HD1 := Lib.hid g1
        clear HS HGA HG1 g1 g2 g3 g4
        go_wp2_with fail
        have C := GT.stale H4.out HSG.out.1
        generalize (staleX S2).length = sl at *
        refine C.mono ?_
        rintro e w6 ⟨A0, c0, rfl, _, _, h⟩
        have H5 := Lib.hid h
        clear C h H4
        go_wp2_with fail
        have C := GT.get H5.out HSG.out.1 (by decide) (nmC n)
        rw [HD1.out] at C
        simp only [ResV] at C
        refine C.mono ?_
        rintro e w7 ⟨rfl, h⟩
        have H6 := Lib.hid h
        have HG6 := Lib.hid (getX_gi HSG.out.1 (nmC n)).1
        generalize (getX S2 (nmC n)).1 = S3 at *
        clear C h H5 x1 e1 b1
        obtain ⟨u, hu⟩ : ∃ u, a.length % 3 = u := ⟨_, rfl⟩
        obtain ⟨v, hv⟩ : ∃ v, b.length % 3 = v := ⟨_, rfl⟩
        have hd := digU_eq a b
        have g2 := HG2.out
        have g4 := HG4.out
        rw [hu, hv] at hd g2
        clear HG2 HG4
        have t1 : (a.length : Int).tmod 3 = (u : Int) := by rw [Int.tmod_eq_emod_of_nonneg (by omega)]; omega
        have t2 : (b.length : Int).tmod 3 = (v : Int) := by rw [Int.tmod_eq_emod_of_nonneg (by omega)]; omega
        have e1 : IntKind.i64.wrap ((n : Int) + 1) = ((n + 1 : Nat) : Int) := by rw [IntWalk.i64_in _ (by omega)]; omega
        have e2 : IntKind.i64.wrap ((2 : Int) * n) = ((2 * n : Nat) : Int) := by rw [IntWalk.i64_in _ (by omega)]; omega
        by_cases hab : a = b
        · subst hab
          have huv : u = v := hu.symm.trans hv
          subst huv
          have hn0 : ((0 : Int) == (n : Int)) = false := by simp; omega
          simp only [if_true] at g2 g4
          subst g4
          clear hd hu hv
          have HG2 := Lib.hid g2
          clear g2
          go_wp2_with fail
          have C := GT.runs H6.out
          rw [HG2.out] at C
          refine C.mono ?_
          rintro e wx ⟨rfl, rfl⟩
          clear C
          go_wp2_with fail
          have C := GT.stale H6.out HG6.out
          rw [HG3.out] at C
          refine C.mono ?_
          rintro e w9 ⟨A1, c1, rfl, _, _, h⟩
          have H7 := Lib.hid h.b
          clear C h H6
          go_wp2
          go_ret
          exact ⟨rfl, H7.out⟩
        · rw [if_neg hab] at g4 g2
          subst g4
          have hne : B a ≠ B b := fun h => hab (B_inj h)
          have hne2 : (a == b) = false := beq_eq_false_iff_ne.2 hab
          by_cases huv : u = v
          · have hdd := hd.2 huv
            subst huv
            rw [if_pos rfl] at g2
            have HG2 := Lib.hid g2
            clear g2 hd hab hu hv
            rw [← hdd]
            go_wp2_with fail
            have C := GT.runs H6.out
            rw [HG2.out] at C
            refine C.mono ?_
            rintro e wx ⟨rfl, rfl⟩
            clear C
            go_wp2_with fail
            have C := GT.stale H6.out HG6.out
            rw [HG3.out] at C
            refine C.mono ?_
            rintro e w9 ⟨A1, c1, rfl, _, _, h⟩
            have H7 := Lib.hid h.b
            clear C h H6
            go_wp2
            go_ret
            exact ⟨rfl, H7.out⟩
          · have hdd : digU a ≠ digU b := fun h => huv (hd.1 h)
            have hdd2 : ([digU a] == [digU b]) = false := by simpa using hdd
            have hdd3 : decide (B [digU a] = B [digU b]) = false := by
              have : B [digU a] ≠ B [digU b] := fun h => hdd (by have := B_inj h; simpa using this)
              simpa using this
            have hdd4 : (digU a == digU b) = false := beq_eq_false_iff_ne.2 hdd
            have huv2 : ((u : Int) == (v : Int)) = false := by simp; omega
            rw [if_neg huv] at g2
            have HG2 := Lib.hid g2
            clear g2 hd hab hu hv
            go_wp2_with fail
            have C := GT.runs H6.out
            rw [HG2.out] at C
            refine C.mono ?_
            rintro e wx ⟨rfl, rfl⟩
            clear C
            go_wp2_with fail
            have C := GT.stale H6.out HG6.out
            rw [HG3.out] at C
            refine C.mono ?_
            rintro e w9 ⟨A1, c1, rfl, _, _, h⟩
            have H7 := Lib.hid h.b
            clear C h H6
            go_wp2
            go_ret
            exact ⟨rfl, H7.out⟩
  · go_enter Try.func6, Try.ntmps6
    by_cases hn : a.length ≤ 40
    · have d1 : decide ((a.length : Int) > 40) = false := by simp; omega
      have d2 : decide ((b.length : Int) > 40) = true := by simp; omega
      clear h1
      go_wp2_with fail
      refine (awake_any w).mono ?_
      rintro e w1 ⟨rfl, h⟩
      go_wp2
      go_ret
      exact ⟨rfl, h⟩
    · have d1 : decide ((a.length : Int) > 40) = true := by simp; omega
      clear h1
      go_wp2_with fail
      refine (awake_any w).mono ?_
      rintro e w1 ⟨rfl, h⟩
      go_wp2
      go_ret
      exact ⟨rfl, h⟩
theorem graphChain_walk (w : World) (k : Int) (hk : (Lit.int .u8 k).wf = true) (a : ByteArray) (ha : a.size ≤ maxLen) (b : ByteArray) (hb : b.size ≤ maxLen) :
    Calls Try.prog 6 #[.int .u8 k, .string a, .string b] w fun e w' => e = .returned (.bool true) ∧ Below w.heap.size w w' := by
  have hr : 0 ≤ k ∧ k < 256 := by
    have h1 : IntKind.u8.min = 0 := rfl
    have h2 : IntKind.u8.max = 255 := rfl
    simp [Lit.wf] at hk
    omega
  have e : k = ((UInt8.ofNat k.toNat).toNat : Int) := by
    rw [UInt8.toNat_ofNat']
    omega
  rw [e]
  exact graphChain_walk0 w _ a ha b hb
end Go.Proofs.Ytbikldmhfaecpaa
