/-
  Layer 48 (graph): the walk of the law GraphFresh.
-/
import Derived.Test.YtbikldmhfaecpaaGraphRestsW
import Derived.Test.YtbikldmhfaecpaaGrFr
import Derived.Test.YtbikldmhfaecpaaGrX2
import Derived.IntWalk
import Derived.Deep.RegionHeld3
namespace Go.Proofs.Ytbikldmhfaecpaa
open Go.RowKit
set_option linter.unusedVariables false
set_option linter.unusedSimpArgs false
attribute [local go_sem] B_data B_size

/-- a row of calls of the law's own -/
abbrev OpRow (w : World) (base : Nat) (v : Value) (M : List OpR) : Prop := w.ownsRow base 31 5 v M.length (M.flatMap opF)
theorem OpRow.snoc {w : World} {base g cap : Nat} {M : List OpR} {p : OpR} (h : w.ownsRow base 31 5 (.slice (some ⟨g, 0, none⟩) (M.length + 1) cap) (M.length + 1) (M.flatMap opF ++ opF p)) : OpRow w base (.slice (some ⟨g, 0, none⟩) (M.length + 1) cap) (M ++ [p]) := by
  unfold OpRow
  rw [List.length_append, List.length_singleton, List.flatMap_append]
  simpa using h
theorem opCells {w : World} {b : Nat} {p : OpR} (h : w.heap[b]? = some (.cells #[.int .i64 p.K, .string (B p.nm), .string (B p.vl), .slice p.A p.na p.ca, .int .i64 p.F] 31 (0, 0))) :
    w.cell? ⟨b, 0, none⟩ = some (.int .i64 p.K) ∧ w.cell? ⟨b, 1, none⟩ = some (.string (B p.nm)) ∧ w.cell? ⟨b, 2, none⟩ = some (.string (B p.vl)) ∧ w.cell? ⟨b, 3, none⟩ = some (.slice p.A p.na p.ca) ∧ w.cell? ⟨b, 4, none⟩ = some (.int .i64 p.F) := by
  simp [World.cell?, h]
set_option maxHeartbeats 16000000 in
set_option maxRecDepth 100000 in
theorem graphFresh_walk (w : World) (A : Option Addr) (n c : Nat) (l : List OpR) (hx : OpAt w w.heap.size A n l) (hn : n ≤ 140737488355328) (a : ByteArray) (_ : a.size ≤ maxLen) :
    Calls Try.prog 4 #[.slice A n c, .string a] w fun e w' => e = .returned (.bool true) ∧ Below w.heap.size w w' := by
  obtain ⟨q, rfl⟩ : ∃ l, a = B l := ⟨a.toList, (B_self a).symm⟩
  have HL := Lib.hid hx.len
  have HSM := Lib.hid (small_any A n c l w hx hn)
  have HDP := Lib.hid (fun w' (h : Below w.heap.size w w') => deep_any A n c l w' ((hx.below h).more h.size) hn)
  have HX := Lib.hid hx
  clear hx
  go_enter Try.func4, Try.ntmps4
  go_wp2_with fail
  refine HSM.out.mono ?_
  rintro e w1 ⟨b1, rfl, hb1, hf⟩
  have HB1 := Lib.hid hb1
  clear HSM
  cases b1 with
  | false =>
    clear hf
    go_wp2_with fail
    refine (awake_any w1).mono ?_
    rintro e w2 ⟨rfl, h⟩
    have H2 := Lib.hid (hb1.trans (h.mono hb1.size))
    clear h hb1
    go_wp2
    go_ret
    exact ⟨rfl, H2.out⟩
  | true =>
    have HF := Lib.hid (hf rfl)
    clear hf
    go_wp2_with fail
    refine (HDP.out w1 hb1).mono ?_
    rintro e w2 ⟨b2, rfl, hb2, _⟩
    have hb2 := hb1.trans (hb2.mono hb1.size)
    clear HDP HB1 hb1
    have HB2 := Lib.hid hb2
    clear hb2
    cases b2 with
    | true =>
      go_wp2_with fail
      refine (awake_any w2).mono ?_
      rintro e w3 ⟨rfl, h⟩
      have H3 := Lib.hid (HB2.out.trans (h.mono HB2.out.size))
      clear h
      go_wp2
      go_ret
      exact ⟨rfl, H3.out⟩
    | false =>
      by_cases hq : 40 < q.length
      · have d1 : decide ((q.length : Int) > 40) = true := by simp; omega
        go_wp2_with fail
        refine (awake_any w2).mono ?_
        rintro e w3 ⟨rfl, h⟩
        have H3 := Lib.hid (HB2.out.trans (h.mono HB2.out.size))
        clear h
        go_wp2
        go_ret
        exact ⟨rfl, H3.out⟩
      · have d1 : decide ((q.length : Int) > 40) = false := by simp; omega
        go_wp2_with fail
        refine (awake_any w2).mono ?_
        rintro e w3 ⟨rfl, h⟩
        have H3 := Lib.hid (HB2.out.trans (h.mono HB2.out.size))
        clear h HB2
        go_wp2_with fail
        refine (new_any w3).mono ?_
        rintro e wx ⟨rfl, rfl⟩
        go_wp2_with fail
        refine (new_any _).mono ?_
        rintro e wx ⟨rfl, rfl⟩
        have H0 := Lib.hid (W2.new H3.out)
        rw [show (w3.alloc (.cells #[.map none, .map none, .map none, .int .i64 0, .int .i64 0] 49)).heap.size = w3.heap.size + 1 from by simp]
        generalize (w3.alloc (.cells #[.map none, .map none, .map none, .int .i64 0, .int .i64 0] 49)).alloc (.cells #[.map none, .map none, .map none, .int .i64 0, .int .i64 0] 49) = w4 at H0 ⊢
        clear H3
        generalize w3.heap.size + 1 = gb at *
        generalize w3.heap.size = ga at *
        have HG := Lib.hid (opsX_gi l HF.out.b)
        have HPA := Lib.hid (freshP_all l)
        have hn40 : n ≤ 40 := by have := HF.out.n; rw [HL.out] at this; exact this
        go_wp2
        go_loopw [7, 8, 9] (fun v7 i v9 wr => ∃ j : Nat, j ≤ n ∧ i = .int .i64 j ∧ W2 ga gb (freshP l j).1 GS.new w wr (fun b => v7.ownBlock = some b) ∧ OpRow wr w.heap.size v7 (freshP l j).2) (fun _ i _ _ => n - (intOf i).toNat)
        case atStart => exact ⟨0, Nat.zero_le _, rfl, H0.out.weak (fun b hb => by cases hb), ⟨rfl, .inl ⟨rfl, rfl⟩⟩⟩
        case round =>
          obtain ⟨j, hj, rfl, hw, ho⟩ := hrel
          by_cases hlt : j < n
          · obtain ⟨p, hp⟩ := get_of (l := l) (k := j) (by rw [HL.out]; exact hlt)
            obtain ⟨g, o, rfl, hg, c0, c1, c2, c3, c4⟩ := (HX.out.below hw.b).at5 hp
            have i1 : (0 : Int) ≤ (j : Int) := by omega
            have i2 : (j : Int) < (n : Int) := by omega
            have HN := Lib.hid (freshP_succ hp)
            have hA := hw.alloc (.cells #[.int .i64 p.K, .string (B p.nm), .string (B p.vl), .slice p.A p.na p.ca, .int .i64 p.F] 31)
            have HRO := Lib.hid (ho.alloc (.cells #[.int .i64 p.K, .string (B p.nm), .string (B p.vl), .slice p.A p.na p.ca, .int .i64 p.F] 31))
            have HOB := Lib.hid (heap_alloc_new wr (.cells #[.int .i64 p.K, .string (B p.nm), .string (B p.vl), .slice p.A p.na p.ca, .int .i64 p.F] 31))
            have HA := Lib.hid hA
            have HGJ : Hid (GI (1024 * j) (freshP l j).1 ∧ (freshP l j).1.changes ≤ j) := by rw [(HPA.out j).1]; exact Lib.hid (HG.out j)
            have HPL := Lib.hid (HPA.out j).2.2.2.2
            have hmem := List.mem_of_getElem? hp
            have HND := Lib.hid (And.intro (HX.out.nd p hmem) (HX.out.le p hmem))
            have HSM : Hid (p.na ≤ 4) := Lib.hid (by have := (HF.out.b p hmem).1; rw [(HX.out.nd p hmem).strs_length] at this; exact this)
            clear hw ho hA hp hmem
            obtain ⟨P1, hP1⟩ : ∃ P1, freshP l (j + 1) = P1 := ⟨_, rfl⟩
            rw [hP1] at HN
            have HP1 := Lib.hid hP1
            clear hP1
            generalize freshP l j = P at *
            obtain ⟨S, M⟩ := P
            simp only at HN HA HRO HGJ HPL
            have HOC := Lib.hid (fun (W : World) (h : W.heap[wr.heap.size]? = some (.cells #[.int .i64 p.K, .string (B p.nm), .string (B p.vl), .slice p.A p.na p.ca, .int .i64 p.F] 31 (0, 0))) => opCells h)
            obtain ⟨pK, pn, pv, pd, pF, pA, pna, pca⟩ := p
            dsimp only at *
            by_cases hK0 : pK = 0
            · subst hK0
              have HR := Lib.hid (HA.out.set HGJ.out.1 (by have := HGJ.out.2; omega) pn pv)
              by_cases hc : (setX S pn pv).1 = 0
              · have HN2 : Hid (P1 = ((setX S pn pv).2, M ++ [⟨0, pn, pv, pd, pF, pA, pna, pca⟩])) := Lib.hid (by rw [HN.out]; unfold madeX opX; simp [hc])
                rw [hc] at HR
                clear hc HN
                go_wp2_with fail
                refine HR.out.mono ?_
                rintro e w5 ⟨rfl, h5, k5⟩
                have ho5 := own_kept HRO.out (fun b hb => k5.1 b (.inl hb))
                have hob5 := (k5.1 wr.heap.size (.inr rfl)).trans HOB.out
                obtain ⟨x0, x1, x2, x3, x4⟩ := HOC.out w5 hob5
                have HW5 := Lib.hid h5
                have HO5 := Lib.hid ho5
                clear h5 k5 ho5 hob5 HR HA HRO HOB HOC c0 c1 c2 c3 c4
                go_wp2_with (refine wpList_appO rfl (.tmp 62) (.tmp 64) rfl w5 ⟨0, pn, pv, pd, pF, pA, pna, pca⟩ w.heap.size u7 M.length (M.flatMap opF) HO5.out rfl rfl (by have := HPL.out; omega) HW5.out.b.size ?_)
                intro g2 cap w6 ho6 hg6 hb6 hl6 hs6
                have HO6 := Lib.hid (OpRow.snoc ho6)
                have HW6 : Hid (W2 ga gb (setX S pn pv).2 GS.new w w6 (fun b => (Value.slice (some ⟨g2, 0, none⟩) (M.length + 1) cap).ownBlock = some b)) := Lib.hid ((HW5.out.grown hg6 (fun q e => .inl e) (HW5.out.b.trans hb6)).weak fun b hb => by
                  have hb : some g2 = some b := hb
                  injection hb with hb; subst hb
                  rcases hl6 with h | h
                  · exact .inl (.inl h)
                  · exact .inr ⟨h, hs6⟩)
                clear ho6 hg6 hb6 hl6 hs6 HW5 HO5 x0 x1 x2 x3 x4
                go_wp2
                go_roundw
                case rel => exact ⟨j + 1, by omega, by go_num, by rw [HP1.out, HN2.out]; exact HW6.out, by rw [HP1.out, HN2.out]; exact HO6.out⟩
                case measure => simp [intOf]; omega
              · have HN2 : Hid (P1 = (S, M)) := Lib.hid (by rw [HN.out]; unfold madeX opX; simp [hc, setX_bad hc])
                have hcc : ((((setX S pn pv).1 : Nat) : Int) == 0) = false := by rw [beq_eq_false_iff_ne]; omega
                have HSB : Hid ((setX S pn pv).2 = S) := Lib.hid (setX_bad hc)
                clear HN
                generalize (setX S pn pv).1 = cd at *
                go_wp2_with fail
                refine HR.out.mono ?_
                rintro e w5 ⟨rfl, h5, k5⟩
                have HO5 := Lib.hid (own_kept HRO.out (fun b hb => k5.1 b (.inl hb)))
                have HW5 : Hid (W2 ga gb S GS.new w w5 (fun b => u7.ownBlock = some b)) := Lib.hid (by rw [HSB.out] at h5; exact h5.weak fun b hb => .inl hb)
                clear h5 k5 HR HA HRO HOB HOC c0 c1 c2 c3 c4
                go_wp2
                go_roundw
                case rel => exact ⟨j + 1, by omega, by go_num, by rw [HP1.out, HN2.out]; exact HW5.out, by rw [HP1.out, HN2.out]; exact HO5.out⟩
                case measure => simp [intOf]; omega
            · have g0 : (pK == 0) = false := beq_eq_false_iff_ne.2 hK0
              by_cases hK1 : pK = 1
              · subst hK1
                have HR := Lib.hid (HA.out.ruleOp HGJ.out.1 (by have := HGJ.out.2; omega) ⟨1, pn, pv, pd, pF, pA, pna, pca⟩ HND.out.1 (by have := HSM.out; simp only; omega) HND.out.2)
                dsimp only at HR
                by_cases hc : (ruleX S pn pd (foI pF)).1 = 0
                · have HN2 : Hid (P1 = ((ruleX S pn pd (foI pF)).2, M ++ [⟨1, pn, pv, pd, pF, pA, pna, pca⟩])) := Lib.hid (by rw [HN.out]; unfold madeX opX; simp [hc])
                  rw [hc] at HR
                  clear hc HN
                  go_wp2_with fail
                  refine HR.out.mono ?_
                  rintro e w5 ⟨rfl, h5, k5⟩
                  have ho5 := own_kept HRO.out (fun b hb => k5.1 b (.inl hb))
                  have hob5 := (k5.1 wr.heap.size (.inr rfl)).trans HOB.out
                  obtain ⟨x0, x1, x2, x3, x4⟩ := HOC.out w5 hob5
                  have HW5 := Lib.hid h5
                  have HO5 := Lib.hid ho5
                  clear h5 k5 ho5 hob5 HR HA HRO HOB HOC c0 c1 c2 c3 c4
                  go_wp2_with (refine wpList_appO rfl (.tmp 72) (.tmp 74) rfl w5 ⟨1, pn, pv, pd, pF, pA, pna, pca⟩ w.heap.size u7 M.length (M.flatMap opF) HO5.out rfl rfl (by have := HPL.out; omega) HW5.out.b.size ?_)
                  intro g2 cap w6 ho6 hg6 hb6 hl6 hs6
                  have HO6 := Lib.hid (OpRow.snoc ho6)
                  have HW6 : Hid (W2 ga gb (ruleX S pn pd (foI pF)).2 GS.new w w6 (fun b => (Value.slice (some ⟨g2, 0, none⟩) (M.length + 1) cap).ownBlock = some b)) := Lib.hid ((HW5.out.grown hg6 (fun q e => .inl e) (HW5.out.b.trans hb6)).weak fun b hb => by
                    have hb : some g2 = some b := hb
                    injection hb with hb; subst hb
                    rcases hl6 with h | h
                    · exact .inl (.inl h)
                    · exact .inr ⟨h, hs6⟩)
                  clear ho6 hg6 hb6 hl6 hs6 HW5 HO5 x0 x1 x2 x3 x4
                  go_wp2
                  go_roundw
                  case rel => exact ⟨j + 1, by omega, by go_num, by rw [HP1.out, HN2.out]; exact HW6.out, by rw [HP1.out, HN2.out]; exact HO6.out⟩
                  case measure => simp [intOf]; omega
                · have HN2 : Hid (P1 = (S, M)) := Lib.hid (by rw [HN.out]; unfold madeX opX; simp [hc, ruleX_bad hc])
                  have hcc : ((((ruleX S pn pd (foI pF)).1 : Nat) : Int) == 0) = false := by rw [beq_eq_false_iff_ne]; omega
                  have HSB : Hid ((ruleX S pn pd (foI pF)).2 = S) := Lib.hid (ruleX_bad hc)
                  clear HN
                  generalize (ruleX S pn pd (foI pF)).1 = cd at *
                  go_wp2_with fail
                  refine HR.out.mono ?_
                  rintro e w5 ⟨rfl, h5, k5⟩
                  have HO5 := Lib.hid (own_kept HRO.out (fun b hb => k5.1 b (.inl hb)))
                  have HW5 : Hid (W2 ga gb S GS.new w w5 (fun b => u7.ownBlock = some b)) := Lib.hid (by rw [HSB.out] at h5; exact h5.weak fun b hb => .inl hb)
                  clear h5 k5 HR HA HRO HOB HOC c0 c1 c2 c3 c4
                  go_wp2
                  go_roundw
                  case rel => exact ⟨j + 1, by omega, by go_num, by rw [HP1.out, HN2.out]; exact HW5.out, by rw [HP1.out, HN2.out]; exact HO5.out⟩
                  case measure => simp [intOf]; omega
              · have g1 : (pK == 1) = false := beq_eq_false_iff_ne.2 hK1
                have HN2 : Hid (P1 = ((getX S pn).1, M)) := Lib.hid (by rw [HN.out]; unfold madeX opX; simp [hK0, hK1])
                have HR := Lib.hid (HA.out.get HGJ.out.1 (by omega) pn)
                clear HN
                go_wp2_with fail
                refine HR.out.mono ?_
                rintro e w5 ⟨rfl, h5, k5⟩
                have HO5 := Lib.hid (own_kept HRO.out (fun b hb => k5.1 b (.inl hb)))
                have HW5 : Hid (W2 ga gb (getX S pn).1 GS.new w w5 (fun b => u7.ownBlock = some b)) := Lib.hid (h5.weak fun b hb => .inl hb)
                clear h5 k5 HR HA HRO HOB HOC c0 c1 c2 c3 c4
                go_wp2
                go_roundw
                case rel => exact ⟨j + 1, by omega, by go_num, by rw [HP1.out, HN2.out]; exact HW5.out, by rw [HP1.out, HN2.out]; exact HO5.out⟩
                case measure => simp [intOf]; omega
          · obtain rfl : j = n := by omega
            obtain ⟨f1, f2, f3, f4, f5⟩ := HPA.out j
            have HGJ : Hid (GI (1024 * j) (freshP l j).1) := by rw [f1]; exact Lib.hid (HG.out j).1
            have HMI : Hid (MI (freshP l j).1) := by rw [f1]; exact Lib.hid (opsX_mi _ new_mi)
            have HMA := Lib.hid (And.intro f2 f3)
            have HSUB := Lib.hid f4
            have hm40 : (freshP l j).2.length ≤ 40 := by omega
            have HFM := Lib.hid (fun o ho => HF.out.b o (f4 o ho))
            have HNM := Lib.hid (fun o ho => And.intro (HX.out.nd o (f4 o ho)) (HX.out.le o (f4 o ho)))
            clear f1 f2 f3 f4 f5 HPA HG H0 HX
            generalize freshP l j = P at *
            obtain ⟨S, M⟩ := P
            dsimp only at *
            obtain ⟨m, hm⟩ : ∃ m, M.length = m := ⟨_, rfl⟩
            have HMM := Lib.hid hm
            rw [hm] at hm40
            obtain ⟨A2, c2, e7, hc2⟩ := own_form ho
            rw [hm] at e7
            subst e7
            clear hm hc2
            have HW := Lib.hid hw.swap
            have HO := Lib.hid ho
            clear hw ho
            have e1 : IntKind.i64.wrap ((m : Int) - 1) = (m : Int) - 1 := IntWalk.i64_in _ (by omega)
            go_wp2
            go_loopw [10, 11, 12, 13] (fun i v11 v12 v13 wr => ∃ z : Nat, z ≤ m ∧ i = .int .i64 ((z : Int) - 1) ∧ W2 gb ga (backX (M.drop z)) S w wr (fun b => (Value.slice A2 m c2).ownBlock = some b) ∧ OpRow wr w.heap.size (.slice A2 m c2) M) (fun i _ _ _ _ => (intOf i + 1).toNat)
            case atStart => exact ⟨m, Nat.le_refl _, rfl, by rw [List.drop_eq_nil_of_le (by rw [HMM.out]; exact Nat.le_refl _)]; exact HW.out, HO.out⟩
            case round =>
              obtain ⟨z, hz, hi, hw, ho⟩ := hrel
              cases z with
              | zero =>
                rw [show (((0 : Nat) : Int) - 1) = -1 from rfl] at hi
                subst hi
                have HW := Lib.hid hw.swap
                have HFL := Lib.hid (fresh_law HMI.out HMA.out.1 HMA.out.2 (by rw [HMM.out]; omega) (fun a ha => by have := (HFM.out a ha).1; omega) q)
                have HBG := Lib.hid (back_gi M (fun a ha => HFM.out a ha))
                rw [List.drop_zero] at HW
                clear hw ho HO
                generalize backX M = T at *
                go_wp2_with fail
                have C := HW.out.get HGJ.out (by omega) q
                obtain ⟨X, hX⟩ : ∃ X, getX S q = X := ⟨_, rfl⟩
                rw [hX] at C HFL
                clear hX
                obtain ⟨S2, s, ec⟩ := X
                simp only [ResV] at C
                refine C.mono ?_
                rintro e w5 ⟨rfl, h5, _⟩
                have H5 := Lib.hid h5.swap
                clear C h5 HW
                go_wp2_with fail
                have C := H5.out.get HBG.out.1 (by omega) q
                obtain ⟨X, hX⟩ : ∃ X, getX T q = X := ⟨_, rfl⟩
                rw [hX] at C HFL
                clear hX
                obtain ⟨T3, t, fc⟩ := X
                simp only [ResV] at C HFL
                have h1 := HFL.out
                simp only [Prod.mk.injEq] at h1
                obtain ⟨rfl, rfl⟩ := h1
                refine C.mono ?_
                rintro e w6 ⟨rfl, h6, _⟩
                have H6 := Lib.hid h6.b
                clear C h6 H5 HFL
                go_wp2
                go_ret
                exact ⟨rfl, H6.out⟩
              | succ y =>
                rw [show (((y + 1 : Nat) : Int) - 1) = (y : Int) from by omega] at hi
                subst hi
                obtain ⟨p, hp⟩ := get_of (l := M) (k := y) (by rw [HMM.out]; omega)
                have ho' : wr.ownsRow w.heap.size 31 5 (.slice A2 m c2) m (M.flatMap opF) := by have h := ho; unfold OpRow at h; rw [HMM.out] at h; exact h
                obtain ⟨g, o, rfl, hg, hcs⟩ := (Rd.of_own ho').elem opF 5 opF_len (by omega) hp
                clear ho'
                have c0 := hcs 0 _ rfl
                have c1 := hcs 1 _ rfl
                have c2' := hcs 2 _ rfl
                have c3 := hcs 3 _ rfl
                have c4 := hcs 4 _ rfl
                simp only [Nat.add_zero] at c0
                have i1 : (0 : Int) ≤ (y : Int) := by omega
                have i2 : (y : Int) < (m : Int) := by omega
                have HP := Lib.hid hp
                have HRO := Lib.hid (ho.alloc (.cells #[.int .i64 p.K, .string (B p.nm), .string (B p.vl), .slice p.A p.na p.ca, .int .i64 p.F] 31))
                have HOB := Lib.hid (heap_alloc_new wr (.cells #[.int .i64 p.K, .string (B p.nm), .string (B p.vl), .slice p.A p.na p.ca, .int .i64 p.F] 31))
                have HA := Lib.hid (hw.alloc (.cells #[.int .i64 p.K, .string (B p.nm), .string (B p.vl), .slice p.A p.na p.ca, .int .i64 p.F] 31))
                have HOC := Lib.hid (fun (W : World) (h : W.heap[wr.heap.size]? = some (.cells #[.int .i64 p.K, .string (B p.nm), .string (B p.vl), .slice p.A p.na p.ca, .int .i64 p.F] 31 (0, 0))) => opCells h)
                have hbk := back_at HMA.out.1 (by rw [HMM.out]; omega) (fun a ha => by have := (HFM.out a ha).1; omega) hp
                have HBK := Lib.hid hbk
                have HBG := Lib.hid (back_gi (M.drop (y + 1)) (fun a ha => HFM.out a (List.mem_of_mem_drop ha)))
                have e2 : IntKind.i64.wrap ((y : Int) + 1) = ((y + 1 : Nat) : Int) := by rw [IntWalk.i64_in _ (by omega)]; omega
                clear hp hw ho hcs hbk
                go_wp2
                generalize wr.alloc (.cells #[.int .i64 p.K, .string (B p.nm), .string (B p.vl), .slice p.A p.na p.ca, .int .i64 p.F] 31) = wo at *
                clear c0 c1 c2' c3 c4
                have hobl : wr.heap.size < wo.heap.size := (Array.getElem?_eq_some_iff.1 HOB.out).1
                generalize wr.heap.size = ob at *
                have HCW := Lib.hid (fun (W : World) (hb : Below wo.heap.size wo W) => HOC.out W ((hb.block ob hobl).trans HOB.out))
                have HRW : Hid (∀ (W : World), Below wo.heap.size wo W → ∀ (k : Nat) (a : OpR), M[k]? = some a → W.cell? ⟨g, o + k * 5 + 1, none⟩ = some (.string (B a.nm))) := Lib.hid (fun W hb k a ha => by
                  have h := own_below HRO.out hb
                  unfold OpRow at h
                  rw [HMM.out] at h
                  obtain ⟨g', o', e', _, hc⟩ := (Rd.of_own h).elem opF 5 opF_len (by omega) ha
                  injection e' with e'; injection e' with e1 e2
                  subst e1; subst e2
                  exact hc 1 _ rfl)
                have HOL := Lib.hid hobl
                clear hobl
                go_loopw [12, 13] (fun v12 v13 wr => ∃ k : Nat, y + 1 ≤ k ∧ k ≤ m ∧ v13 = .int .i64 k ∧ Below wo.heap.size wo wr ∧ ∃ b : Bool, v12 = .bool b ∧ Hid (b = decide (lastNm p ((M.drop (y + 1)).take (k - (y + 1)))))) (fun _ i _ => m - (intOf i).toNat)
                case atStart => exact ⟨y + 1, Nat.le_refl _, by omega, by go_num, Below.refl _ _, true, rfl, Lib.hid (by rw [Nat.sub_self, List.take_zero]; rfl)⟩
                case round =>
                  obtain ⟨k, hk1, hk2, rfl, hbw, b, rfl, hb⟩ := hrel
                  by_cases hlt : k < m
                  · obtain ⟨a, ha⟩ := get_of (l := M) (k := k) (by rw [HMM.out]; omega)
                    have k0 := HRW.out _ hbw k a ha
                    have x1 := (HCW.out _ hbw).2.1
                    have j1 : (0 : Int) ≤ (k : Int) := by omega
                    have j2 : (k : Int) < (m : Int) := by omega
                    have HCC : Hid (∀ (W : World), Below wo.heap.size wo W → W.cell? ⟨g, o + k * 5 + 1, none⟩ = some (.string (B a.nm)) ∧ W.cell? ⟨ob, 1, none⟩ = some (.string (B p.nm))) := Lib.hid (fun W hb => And.intro (HRW.out W hb k a ha) (HCW.out W hb).2.1)
                    have HNX : Hid (decide (lastNm p ((M.drop (y + 1)).take (k + 1 - (y + 1)))) = (b && !(a.nm == p.nm))) := Lib.hid (by
                      have e : (M.drop (y + 1))[k - (y + 1)]? = some a := by rw [List.getElem?_drop, show y + 1 + (k - (y + 1)) = k from by omega]; exact ha
                      rw [show k + 1 - (y + 1) = k - (y + 1) + 1 from by omega, take_one e, hb.out]
                      simp only [lastNm_snoc]
                      by_cases hl : lastNm p ((M.drop (y + 1)).take (k - (y + 1)))
                      · by_cases hn : a.nm = p.nm
                        · simp [hl, hn]
                        · simp [hl, hn]
                      · simp [hl])
                    have HBW := Lib.hid hbw
                    clear ha hb hbw
                    cases b with
                    | false =>
                      go_wp2_with fail
                      go_quiet (fail)
                      go_wp2
                      go_roundw
                      case rel => exact ⟨k + 1, by omega, by omega, by go_num, ⟨HBW.out.os, HBW.out.tape, HBW.out.output, HBW.out.size, HBW.out.block⟩, false, rfl, Lib.hid (by rw [HNX.out]; rfl)⟩
                      case measure => simp [intOf]; omega
                    | true =>
                      by_cases hn : a.nm = p.nm
                      · rw [hn] at k0 HCC HNX
                        go_wp2_with fail
                        go_region_held3 (fun w' => w'.cell? ⟨g, o + k * 5 + 1, none⟩ = some (.string (B p.nm)) ∧ w'.cell? ⟨ob, 1, none⟩ = some (.string (B p.nm))) (first | exact HCC.out _ HBW.out | exact HCC.out _ HBW.out.drew) (fail)
                        go_wp2
                        go_roundw
                        case rel => exact ⟨k + 1, by omega, by omega, by go_num, HBW.out.drew, false, rfl, Lib.hid (by rw [HNX.out]; simp)⟩
                        case measure => simp [intOf]; omega
                      · have hn2 : (a.nm == p.nm) = false := beq_eq_false_iff_ne.2 hn
                        have hn3 : B a.nm ≠ B p.nm := fun h => hn (B_inj h)
                        rw [hn2] at HNX
                        go_wp2_with fail
                        go_region_held3 (fun w' => w'.cell? ⟨g, o + k * 5 + 1, none⟩ = some (.string (B a.nm)) ∧ w'.cell? ⟨ob, 1, none⟩ = some (.string (B p.nm))) (first | exact HCC.out _ HBW.out | exact HCC.out _ HBW.out.drew) (fail)
                        go_wp2
                        go_roundw
                        case rel => exact ⟨k + 1, by omega, by omega, by go_num, HBW.out.drew, true, rfl, Lib.hid (by rw [HNX.out]; rfl)⟩
                        case measure => simp [intOf]; omega
                  · obtain rfl : k = m := by omega
                    have hb : b = decide (lastNm p (M.drop (y + 1))) := by
                      have h := hb.out
                      rwa [List.take_of_length_le (by rw [List.length_drop, HMM.out]; exact Nat.le_refl _)] at h
                    obtain ⟨x0, x1, x2, x3, x4⟩ := HCW.out _ hbw
                    have HW := Lib.hid (HA.out.below hbw)
                    have HR := Lib.hid (own_below HRO.out hbw)
                    have hmem := List.mem_of_getElem? HP.out
                    have HND := Lib.hid (HNM.out p hmem)
                    have HSM : Hid (p.na ≤ 4) := Lib.hid (by have := (HFM.out p hmem).1; rw [HND.out.1.strs_length] at this; exact this)
                    have HZ : Hid (∀ (X : GS) (W : World), backX (M.drop y) = X → W2 gb ga X S w W (fun b => (Value.slice (some ⟨g, o, none⟩) k c2).ownBlock = some b ∨ b = ob) → W2 gb ga (backX (M.drop y)) S w W (fun b => (Value.slice (some ⟨g, o, none⟩) k c2).ownBlock = some b)) := Lib.hid (fun X W hX h => by rw [hX]; exact h.weak fun b hb => .inl hb)
                    obtain ⟨g1, g2, g3, g4⟩ := HBK.out
                    have HLT := Lib.hid hb
                    have e5 : IntKind.i64.wrap ((y : Int) - 1) = (y : Int) - 1 := IntWalk.i64_in _ (by omega)
                    have HO2 := Lib.hid ((hbw.block ob HOL.out).trans HOB.out)
                    clear hmem hbw hb HA HRO HCW HRW HBK HOC HOB
                    generalize backX (M.drop (y + 1)) = T at *
                    obtain ⟨T2, hT2⟩ : ∃ T2, backX (M.drop y) = T2 := ⟨_, rfl⟩
                    rw [hT2] at HZ g3
                    have HT2 := Lib.hid hT2
                    clear hT2
                    obtain ⟨pK, pn, pv, pd, pF, pA, pna, pca⟩ := p
                    dsimp only at *
                    by_cases hK0 : pK = 0
                    · subst hK0
                      have HG3 := Lib.hid g3
                      have HG1 := Lib.hid g1
                      clear g1 g2 g3 g4
                      cases b with
                      | false =>
                        have hl : ¬ lastNm ⟨0, pn, pv, pd, pF, pA, pna, pca⟩ (M.drop (y + 1)) := fun h => by have := HLT.out; rw [decide_eq_true h] at this; cases this
                        have HT : Hid (T2 = T) := Lib.hid (by rw [HG3.out, if_pos rfl, if_neg hl])
                        clear hl HLT HG1 HG3
                        go_wp2
                        go_roundw
                        case rel => exact ⟨y, by omega, rfl, by rw [HT2.out]; exact HZ.out _ _ HT.out HW.out, HR.out⟩
                        case measure => first | (simp [intOf]; done) | (simp [intOf]; omega)
                      | true =>
                        have hl : lastNm ⟨0, pn, pv, pd, pF, pA, pna, pca⟩ (M.drop (y + 1)) := of_decide_eq_true HLT.out.symm
                        have HT : Hid (T2 = (setX T pn pv).2) := Lib.hid (by rw [HG3.out, if_pos rfl, if_pos hl])
                        have hcd := HG1.out rfl hl
                        have h2 : (M.drop (y + 1)).length ≤ 40 := by rw [List.length_drop, HMM.out]; omega
                        have HS := Lib.hid (HW.out.set HBG.out.1 (by have := HBG.out.2; omega) pn pv)
                        rw [hcd] at HS
                        clear hl HLT HG1 HG3 hcd h2
                        go_wp2_with fail
                        refine HS.out.mono ?_
                        rintro e w6 ⟨rfl, h6, k6⟩
                        have hob6 := opCells (p := ⟨0, pn, pv, pd, pF, pA, pna, pca⟩) ((k6.1 ob (.inr rfl)).trans HO2.out)
                        obtain ⟨y0, y1, y2, y3, y4⟩ := hob6
                        have HR6 := Lib.hid (own_kept HR.out (fun b hb => k6.1 b (.inl hb)))
                        have HW6 := Lib.hid h6
                        clear h6 k6 HS x0 x1 x2 x3 x4 HR HW
                        go_wp2
                        go_roundw
                        case rel => exact ⟨y, by omega, rfl, by rw [HT2.out]; exact HZ.out _ _ HT.out HW6.out, HR6.out⟩
                        case measure => first | (simp [intOf]; done) | (simp [intOf]; omega)
                    · have hK1 : pK = 1 := by
                        rcases g4 with h | h
                        · exact absurd h hK0
                        · exact h
                      subst hK1
                      have HT : Hid (T2 = (ruleX T pn pd (foI pF)).2) := Lib.hid (by rw [g3, if_neg hK0])
                      have hcd := g2 rfl
                      have h2 : (M.drop (y + 1)).length ≤ 40 := by rw [List.length_drop, HMM.out]; omega
                      have HS := Lib.hid (HW.out.ruleOp HBG.out.1 (by have := HBG.out.2; omega) ⟨1, pn, pv, pd, pF, pA, pna, pca⟩ HND.out.1 (by have := HSM.out; simp only; omega) HND.out.2)
                      dsimp only at HS
                      rw [hcd] at HS
                      clear hcd h2 g1 g2 g3 g4 HLT
                      go_wp2_with fail
                      refine HS.out.mono ?_
                      rintro e w6 ⟨rfl, h6, k6⟩
                      have HR6 := Lib.hid (own_kept HR.out (fun b hb => k6.1 b (.inl hb)))
                      have HW6 := Lib.hid h6
                      clear h6 k6 HS x0 x1 x2 x3 x4 HR HW
                      go_wp2
                      go_roundw
                      case rel => exact ⟨y, by omega, rfl, by rw [HT2.out]; exact HZ.out _ _ HT.out HW6.out, HR6.out⟩
                      case measure => first | (simp [intOf]; done) | (simp [intOf]; omega)
end Go.Proofs.Ytbikldmhfaecpaa
