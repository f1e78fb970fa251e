/-
  Layer 48 (graph): the walk of the law GraphRests.
-/
import Derived.Test.YtbikldmhfaecpaaGrX
import Derived.Test.YtbikldmhfaecpaaGrDc
import Derived.IntWalk
import Derived.Deep.RegionHeld3
namespace Go.Proofs.Ytbikldmhfaecpaa
open Go.RowKit
set_option linter.unusedVariables false
set_option linter.unusedSimpArgs false
attribute [local go_sem] B_data B_size

/-- a law's own graph, and a row of texts beside it -/
def GTA (id gb : Nat) (S : GS) (w0 w : World) (A : Option Addr) (m c : Nat) (ls : List Nm) : Prop := ∃ own, Gr own id gb S w ∧ Below w0.heap.size w0 w ∧ (∀ b, Mine own id b → w0.heap.size ≤ b) ∧ Arg own id w A m c ls
theorem GTA.gt {id gb m c : Nat} {S : GS} {w0 w : World} {A : Option Addr} {ls : List Nm} (h : GTA id gb S w0 w A m c ls) : GT id gb S w0 w := by
  obtain ⟨own, h1, h2, h3, _⟩ := h; exact ⟨own, h1, h2, h3⟩
theorem GTA.rd {id gb m c : Nat} {S : GS} {w0 w : World} {A : Option Addr} {ls : List Nm} (h : GTA id gb S w0 w A m c ls) : Rd w w.heap.size 1 A m (strs ls) := by
  obtain ⟨own, _, _, _, h⟩ := h; exact h.rd
theorem Arg.below {own : Own} {id m c : Nat} {w w' : World} {A : Option Addr} {ls : List Nm} (h : Arg own id w A m c ls) (hb : Below w.heap.size w w') : Arg own id w' A m c ls :=
  ⟨(h.rd.below hb).more hb.size, h.out, h.le⟩
theorem GTA.below {id gb m c : Nat} {S : GS} {w0 w w' : World} {A : Option Addr} {ls : List Nm} (h : GTA id gb S w0 w A m c ls) (hb : Below w.heap.size w w') : GTA id gb S w0 w' A m c ls := by
  obtain ⟨own, h1, h2, h3, h4⟩ := h
  exact ⟨own, h1.below hb, h2.trans (hb.mono h2.size), h3, h4.below hb⟩
theorem GPost.gta {own : Own} {id gb m c : Nat} {S S' : GS} {v : Value} {w0 w w' : World} {e : Ending} {A : Option Addr} {ls : List Nm} (h : GPost own id gb S' v w e w') (hb : Below w0.heap.size w0 w) (hm : ∀ b, Mine own id b → w0.heap.size ≤ b) (ha : Arg own id w A m c ls) : e = .returned v ∧ GTA id gb S' w0 w' A m c ls := by
  have h0 := h
  obtain ⟨h1, own', h2, h3, h4⟩ := h
  have k' : Kp own' id w w' := ⟨h4.os, h4.tape, h4.output, h4.size, fun b hb hn => h4.block b hb (fun m => hn ((h2.mine hb).2 m))⟩
  refine ⟨h1, own', h3, hb.trans (h4.below hb.size hm), fun b hm' => ?_, (ha.ext h2 (Nat.le_refl _)).kp k'⟩
  rcases Nat.lt_or_ge b w.heap.size with hl | hl
  · exact hm b ((h2.mine hl).1 hm')
  · have := hb.size; omega
theorem GTA.set {id gb R m c : Nat} {S : GS} {w0 w : World} {A : Option Addr} {ls : List Nm} (h : GTA id gb S w0 w A m c ls) (hi : GI R S) (hc : S.changes ≤ 1000000) (n v : Nm) :
    Calls Try.prog 13 #[.pointer (some ⟨gb, 0, none⟩), .string (B n), .string (B v)] w fun e w' => e = .returned (.int .i64 ((setX S n v).1 : Int)) ∧ GTA id gb (setX S n v).2 w0 w' A m c ls := by
  obtain ⟨own, h1, h2, h3, h4⟩ := h
  exact (set_any n v w h1 hi hc).mono fun e w' hp => hp.gta (S := S) h2 h3 h4
theorem GTA.get {id gb R m c : Nat} {S : GS} {w0 w : World} {A : Option Addr} {ls : List Nm} (h : GTA id gb S w0 w A m c ls) (hi : GI R S) (hR : R ≤ 1000000) (n : Nm) :
    Calls Try.prog 17 #[.pointer (some ⟨gb, 0, none⟩), .string (B n)] w fun e w' => e = .returned (ResV (getX S n).2) ∧ GTA id gb (getX S n).1 w0 w' A m c ls := by
  obtain ⟨own, h1, h2, h3, h4⟩ := h
  exact (get_any n w h1 hi hR).mono fun e w' hp => hp.gta (S := S) h2 h3 h4
theorem GT.staleA {id gb R : Nat} {S : GS} {w0 w : World} (h : GT id gb S w0 w) (hi : GI R S) :
    Calls Try.prog 22 #[.pointer (some ⟨gb, 0, none⟩)] w fun e w' => ∃ A c, e = .returned (.slice A (staleX S).length c) ∧ GTA id gb S w0 w' A (staleX S).length c (staleX S) := by
  obtain ⟨own, h1, h2, h3⟩ := h
  refine (stale_any w h1 (by have := hi.size; omega)).mono ?_
  rintro e w' ⟨v, rfl, ho, hb⟩
  obtain ⟨A, c, rfl, hc⟩ := own_form ho
  refine ⟨A, c, rfl, own, h1.below hb, h2.trans (hb.mono h2.size), h3, Rd.of_own ho, fun ad e hm hmi => ?_, hc⟩
  obtain ⟨t, ht⟩ := hmi
  rcases ho.2 with ⟨h0, hl⟩ | ⟨g, cap, cur, hv, hg0, _⟩
  · omega
  · have hA : A = some ⟨g, 0, none⟩ := by injection hv
    rw [hA] at e; injection e with e; subst e
    rw [h1.fr g hg0] at ht; cases ht
theorem OpAt.at5s {w : World} {M n k g o : Nat} {l : List OpR} {b : OpR} (h : OpAt w M (some ⟨g, o, none⟩) n l) (hk : l[k]? = some b) :
    w.cell? ⟨g, o + k * 5, none⟩ = some (.int .i64 b.K) ∧ w.cell? ⟨g, o + k * 5 + 1, none⟩ = some (.string (B b.nm)) ∧ w.cell? ⟨g, o + k * 5 + 2, none⟩ = some (.string (B b.vl)) ∧ w.cell? ⟨g, o + k * 5 + 3, none⟩ = some (.slice b.A b.na b.ca) ∧ w.cell? ⟨g, o + k * 5 + 4, none⟩ = some (.int .i64 b.F) := by
  obtain ⟨g', o', e, hg, h⟩ := h.at5 hk
  injection e with e; injection e with e1 e2
  subst e1; subst e2
  exact h
set_option maxHeartbeats 8000000 in
set_option maxRecDepth 100000 in
theorem graphRests_walk (w : World) (A : Option Addr) (n c : Nat) (l : List OpR) (hx : OpAt w w.heap.size A n l) (hn : n ≤ 140737488355328) (a : ByteArray) (_ : a.size ≤ maxLen) :
    Calls Try.prog 5 #[.slice A n c, .string a] w fun e w' => e = .returned (.bool true) ∧ Below w.heap.size w w' := by
  obtain ⟨q, rfl⟩ : ∃ l, a = B l := ⟨a.toList, (B_self a).symm⟩
  have HL := Lib.hid hx.len
  have HSM := Lib.hid (small_any A n c l w hx hn)
  have HDP := Lib.hid (fun w' (h : Below w.heap.size w w') => deep_any A n c l w' ((hx.below h).more h.size) hn)
  have HX := Lib.hid hx
  clear hx
  go_enter Try.func5, Try.ntmps5
  go_wp2_with fail
  refine HSM.out.mono ?_
  rintro e w1 ⟨b1, rfl, hb1, hf⟩
  have HB1 := Lib.hid hb1
  clear HSM
  cases b1 with
  | false =>
    clear hf
    go_wp2_with fail
    refine (awake_any w1).mono ?_
    rintro e w2 ⟨rfl, h⟩
    have H2 := Lib.hid (hb1.trans (h.mono hb1.size))
    clear h hb1
    go_wp2
    go_ret
    exact ⟨rfl, H2.out⟩
  | true =>
    have HF := Lib.hid (hf rfl)
    clear hf
    go_wp2_with fail
    refine (HDP.out w1 hb1).mono ?_
    rintro e w2 ⟨b2, rfl, hb2, _⟩
    have hb2 := hb1.trans (hb2.mono hb1.size)
    clear HDP HB1 hb1
    have HB2 := Lib.hid hb2
    clear hb2
    have fin : True := trivial
    cases b2 with
    | true =>
      go_wp2_with fail
      refine (awake_any w2).mono ?_
      rintro e w3 ⟨rfl, h⟩
      have H3 := Lib.hid (HB2.out.trans (h.mono HB2.out.size))
      clear h
      go_wp2
      go_ret
      exact ⟨rfl, H3.out⟩
    | false =>
      by_cases hq : 40 < q.length
      · have d1 : decide ((q.length : Int) > 40) = true := by simp; omega
        go_wp2_with fail
        refine (awake_any w2).mono ?_
        rintro e w3 ⟨rfl, h⟩
        have H3 := Lib.hid (HB2.out.trans (h.mono HB2.out.size))
        clear h
        go_wp2
        go_ret
        exact ⟨rfl, H3.out⟩
      · have d1 : decide ((q.length : Int) > 40) = false := by simp; omega
        go_wp2_with fail
        refine (awake_any w2).mono ?_
        rintro e w3 ⟨rfl, h⟩
        have H3 := Lib.hid (HB2.out.trans (h.mono HB2.out.size))
        clear h HB2
        go_wp2_with fail
        refine (new_any w3).mono ?_
        rintro e wx ⟨rfl, rfl⟩
        have H0 := Lib.hid (GT.new 0 H3.out)
        generalize w3.alloc (.cells #[.map none, .map none, .map none, .int .i64 0, .int .i64 0] 49) = w4 at H0 ⊢
        clear H3
        generalize w3.heap.size = gb at *
        have HG := Lib.hid (opsX_gi l HF.out.b)
        have hn40 : n ≤ 40 := by have := HF.out.n; rw [HL.out] at this; exact this
        go_wp2
        go_loopw [6] (fun i wr => ∃ j : Nat, j ≤ n ∧ i = .int .i64 j ∧ GT 0 gb (opsX GS.new (l.take j)) w wr) (fun i _ => n - (intOf i).toNat)
        case atStart => exact ⟨0, Nat.zero_le _, rfl, H0.out⟩
        case round =>
          obtain ⟨j, hj, rfl, hw⟩ := hrel
          by_cases hlt : j < n
          · obtain ⟨p, hp⟩ := get_of (l := l) (k := j) (by rw [HL.out]; exact hlt)
            obtain ⟨g, o, rfl, hg, c0, c1, c2, c3, c4⟩ := (HX.out.below hw.b).at5 hp
            have HW := Lib.hid hw
            have i1 : (0 : Int) ≤ (j : Int) := by omega
            have i2 : (j : Int) < (n : Int) := by omega
            have HN : Hid (opsX GS.new (l.take (j + 1)) = opX (opsX GS.new (l.take j)) p) := Lib.hid (by rw [take_one hp, opsX_snoc])
            clear hw
            have HP := Lib.hid hp
            clear hp
            by_cases hK0 : p.K = 0
            · rw [hK0] at c0
              have HR := Lib.hid (GT.set (HW.out.below (Below.refl _ _).drew) (HG.out j).1 (Nat.le_trans (HG.out j).2 (by omega)) p.nm p.vl)
              have HC : Hid (∀ W, Below w.heap.size w W → W.cell? ⟨g, o + j * 5 + 1, none⟩ = some (.string (B p.nm)) ∧ W.cell? ⟨g, o + j * 5 + 2, none⟩ = some (.string (B p.vl))) := Lib.hid (fun W hb => by
                have h := (HX.out.below hb).at5s HP.out
                exact ⟨h.2.1, h.2.2.1⟩)
              go_wp2_with fail
              go_region_held3 (fun w' => w'.cell? ⟨g, o + j * 5 + 1, none⟩ = some (.string (B p.nm)) ∧ w'.cell? ⟨g, o + j * 5 + 2, none⟩ = some (.string (B p.vl))) (first | exact HC.out _ h5.b | exact HC.out _ HW.out.b | exact HC.out _ HW.out.b.drew) (first | (go_at_call 13; refine HR.out.mono ?_; rintro e w5 ⟨rfl, h5⟩))
              have H5 : Hid (GT 0 gb (opsX GS.new (l.take (j + 1))) w w5) := by
                rw [HN.out]; unfold opX; rw [if_pos hK0]; exact Lib.hid h5
              clear h5 HR HN HP HW HC c0 c1 c2 c3 c4
              go_wp2
              go_roundw
              case rel => exact ⟨j + 1, by omega, by go_num, H5.out⟩
              case measure => simp [intOf]; omega
            by_cases hK1 : p.K = 1
            · have hmem := List.mem_of_getElem? HP.out
              rw [hK1] at c0
              have HR := Lib.hid (ruleOp_any HW.out (HG.out j).1 (Nat.le_trans (HG.out j).2 (by omega)) p (HX.out.nd p hmem) (by have := (HF.out.b p hmem).1; have := (HX.out.nd p hmem).strs_length; omega) (HX.out.le p hmem))
              rw [hK1] at HR
              clear hmem
              go_wp2_with fail
              refine HR.out.mono ?_
              rintro e w5 ⟨rfl, h5⟩
              have H5 : Hid (GT 0 gb (opsX GS.new (l.take (j + 1))) w w5) := by
                rw [HN.out]; unfold opX; rw [if_neg hK0, if_pos hK1]; exact Lib.hid h5
              clear h5 HR HN HP HW c0 c1 c2 c3 c4
              go_wp2
              go_roundw
              case rel => exact ⟨j + 1, by omega, by go_num, H5.out⟩
              case measure => simp [intOf]; omega
            · have g0 : (p.K == 0) = false := beq_eq_false_iff_ne.2 hK0
              have g1 : (p.K == 1) = false := beq_eq_false_iff_ne.2 hK1
              have HR := Lib.hid (GT.get HW.out (HG.out j).1 (by omega) p.nm)
              go_wp2_with fail
              refine HR.out.mono ?_
              rintro e w5 ⟨rfl, h5⟩
              have H5 : Hid (GT 0 gb (opsX GS.new (l.take (j + 1))) w w5) := by
                rw [HN.out]; unfold opX; rw [if_neg hK0, if_neg hK1]; exact Lib.hid h5
              clear h5 HR HN HP HW c0 c1 c2 c3 c4
              go_wp2
              go_roundw
              case rel => exact ⟨j + 1, by omega, by go_num, H5.out⟩
              case measure => simp [intOf]; omega
          · obtain rfl : j = n := by omega
            have HW : Hid (GT 0 gb (opsX GS.new l) w wr) := by
              rw [List.take_of_length_le (by rw [HL.out]; exact Nat.le_refl _)] at hw; exact Lib.hid hw
            have HG2 : Hid (GI (1024 * j) (opsX GS.new l) ∧ (opsX GS.new l).changes ≤ j) := by
              have := HG.out j
              rw [List.take_of_length_le (by rw [HL.out]; exact Nat.le_refl _)] at this; exact Lib.hid this
            have HMI := Lib.hid (opsX_mi l new_mi)
            clear hw HG H0
            generalize opsX GS.new l = S1 at *
            have HLW := Lib.hid (rests_law HMI.out q (l.map (·.nm)))
            have HM2 := Lib.hid (getX_mi HMI.out q)
            have HG3 := Lib.hid (getX_gi HG2.out.1 q)
            go_wp2_with fail
            have C := GT.get HW.out HG2.out.1 (by omega) q
            generalize getX S1 q = X at *
            obtain ⟨S2, s, ec⟩ := X
            simp only [ResV] at C HG3 HLW HM2
            refine C.mono ?_
            rintro e w5 ⟨rfl, h5⟩
            have H5 := Lib.hid h5
            clear C h5 HW
            go_wp2_with fail
            have C := GT.runs H5.out
            refine C.mono ?_
            rintro e wx ⟨rfl, rfl⟩
            clear C
            go_wp2_with fail
            have C := GT.staleA H5.out HG3.out.1
            refine C.mono ?_
            rintro e w6 ⟨A2, c2, rfl, h6⟩
            have H6 := Lib.hid h6
            clear C h6 H5
            have HLE : Hid ((staleX S2).length ≤ 1024) := Lib.hid (by
              have h1 : (staleX S2).length ≤ S2.rules.length := by
                unfold staleX; rw [List.length_mergeSort, List.length_map]; exact List.length_filter_le _ _
              have h2 := HG3.out.1.size
              omega)
            obtain ⟨m, hm⟩ : ∃ m, (staleX S2).length = m := ⟨_, rfl⟩
            rw [hm] at H6 HLE ⊢
            have HMM := Lib.hid hm
            clear hm
            have HSG : Hid (∀ k, k ≤ j → GI 200000 (getsX S2 ((l.take k).map (·.nm))) ∧ (getsX S2 ((l.take k).map (·.nm))).changes ≤ 1000 ∧ MI (getsX S2 ((l.take k).map (·.nm)))) := Lib.hid (fun k hk => by
              have h1 := getsX_gi ((l.take k).map (·.nm)) HG3.out.1
              have h2 := HG2.out.2
              have h3 := HG3.out.2.2.1
              have h4 : ((l.take k).map (fun o : OpR => o.nm)).length ≤ k := by rw [List.length_map, List.length_take]; exact Nat.min_le_left _ _
              refine ⟨⟨h1.1.vals, h1.1.rv, h1.1.nm, h1.1.nb, h1.1.needs, h1.1.size, by have := h1.1.runs; omega⟩, by rw [h1.2, h3]; omega, getsX_mi _ HM2.out⟩)
            clear HG2 HG3 HMI HM2
            go_wp2
            go_loopw [11, 12, 13] (fun i v f wr => ∃ k : Nat, k ≤ j ∧ i = .int .i64 k ∧ GTA 0 gb (getsX S2 ((l.take k).map (·.nm))) w wr A2 m c2 (staleX S2)) (fun i _ _ _ => j - (intOf i).toNat)
            case atStart => exact ⟨0, Nat.zero_le _, rfl, H6.out⟩
            case round =>
              obtain ⟨k, hk, rfl, hw⟩ := hrel
              by_cases hlt : k < j
              · obtain ⟨p, hp⟩ := get_of (l := l) (k := k) (by rw [HL.out]; exact hlt)
                obtain ⟨g, o, rfl, hg, c0, c1, c3⟩ := (HX.out.below hw.gt.b).at5 hp
                clear c3
                have HW := Lib.hid hw
                have i1 : (0 : Int) ≤ (k : Int) := by omega
                have i2 : (k : Int) < (j : Int) := by omega
                have HN : Hid (getsX S2 ((l.take (k + 1)).map (·.nm)) = (getX (getsX S2 ((l.take k).map (·.nm))) p.nm).1) := Lib.hid (by rw [take_one hp, List.map_append]; exact getsX_snoc _ _ _)
                have HP := Lib.hid hp
                have hG := HSG.out k hk
                have HR := Lib.hid (GTA.get HW.out hG.1 (by omega) p.nm)
                have HSS := Lib.hid (set_same hG.2.2 p.nm)
                have HGN := Lib.hid (HSG.out (k + 1) hlt)
                clear hp hw hG
                obtain ⟨S4, hS4⟩ : ∃ S4, getsX S2 ((l.take (k + 1)).map (·.nm)) = S4 := ⟨_, rfl⟩
                rw [hS4] at HN HGN
                have HS4 := Lib.hid hS4
                clear hS4
                go_wp2_with fail
                refine HR.out.mono ?_
                rintro e w7 ⟨rfl, h7⟩
                have H7 : Hid (GTA 0 gb S4 w w7 A2 m c2 (staleX S2)) := by rw [HN.out]; exact Lib.hid h7
                have c0' := (HX.out.below h7.gt.b).at5s HP.out
                clear h7 HR
                rw [← HN.out] at HSS
                generalize (getX (getsX S2 ((l.take k).map (·.nm))) p.nm).2 = Y at *
                obtain ⟨t, fc⟩ := Y
                simp only [ResV] at HSS ⊢
                clear HN c0 c1
                obtain ⟨e0, e1, e2⟩ := c0'
                clear e2
                by_cases hK0 : p.K = 0
                · rw [hK0] at e0
                  by_cases hf0 : fc = 0
                  · subst hf0
                    have HSE := Lib.hid (HSS.out rfl)
                    have HR := Lib.hid (GTA.set H7.out HGN.out.1 (by have := HGN.out.2.1; omega) p.nm t)
                    clear HSS HW
                    go_wp2_with fail
                    refine HR.out.mono ?_
                    rintro e w8 ⟨rfl, h8⟩
                    have H8 : Hid (GTA 0 gb S4 w w8 A2 m c2 (staleX S2)) := by
                      have := HSE.out
                      rw [this] at h8
                      exact Lib.hid h8
                    clear h8 HR HGN HSE e0 e1 H7 HP
                    go_wp2
                    go_roundw
                    case rel => exact ⟨k + 1, by omega, by go_num, HS4.out ▸ H8.out⟩
                    case measure => simp [intOf]; omega
                  · have hf1 : ((fc : Int) == 0) = false := by rw [beq_eq_false_iff_ne]; omega
                    clear HSS HW HGN HP
                    go_wp2
                    go_roundw
                    case rel => exact ⟨k + 1, by omega, by go_num, HS4.out ▸ H7.out⟩
                    case measure => simp [intOf]; omega
                · have hK1 : (p.K == 0) = false := beq_eq_false_iff_ne.2 hK0
                  clear HSS HW HGN HP
                  go_wp2
                  go_roundw
                  case rel => exact ⟨k + 1, by omega, by go_num, HS4.out ▸ H7.out⟩
                  case measure => simp [intOf]; omega
              · obtain rfl : k = j := by omega
                have hG := HSG.out k hk
                rw [List.take_of_length_le (by rw [HL.out]; exact Nat.le_refl _)] at hG hw
                have HW := Lib.hid hw
                have HGG := Lib.hid hG.1
                clear hw hG HSG H6
                generalize getsX S2 (l.map (·.nm)) = S3 at *
                go_wp2_with fail
                have C := GT.runs HW.out.gt
                refine C.mono ?_
                rintro e wx ⟨rfl, rfl⟩
                clear C
                go_wp2_with fail
                have C := GTA.get HW.out HGG.out (by omega) q
                have HLW2 := Lib.hid HLW.out
                clear HLW
                generalize getX S3 q = Y at *
                obtain ⟨S5, t, fc⟩ := Y
                simp only [ResV] at C HLW2
                obtain ⟨h1, h2, h3, h4⟩ := HLW2.out
                simp only [Prod.mk.injEq] at h1
                obtain ⟨rfl, rfl⟩ := h1
                have HRU := Lib.hid h2
                have HRL := Lib.hid h3
                have HST : Hid (q ∈ staleX S2 → fc = 10) := Lib.hid (fun h => h4 ((mem_staleX S2 q).1 h))
                clear h2 h3 h4 HLW2
                refine C.mono ?_
                rintro e w8 ⟨rfl, h8⟩
                have H8 := Lib.hid h8
                clear C h8 HW
                go_wp2
                have hme : m ≤ 1024 := HLE.out
                go_loopw [17] (fun i wr => ∃ z : Nat, z ≤ m ∧ i = .int .i64 z ∧ wr = w8) (fun i _ => m - (intOf i).toNat)
                case atStart => exact ⟨0, Nat.zero_le _, rfl, rfl⟩
                case round =>
                  obtain ⟨z, hz, rfl, rfl⟩ := hrel
                  by_cases hlt : z < m
                  · obtain ⟨x, hx⟩ := get_of (l := staleX S2) (k := z) (by rw [HMM.out]; exact hlt)
                    obtain ⟨g, o, hA2, hg, c0⟩ := H8.out.rd.strk hx
                    subst hA2
                    have i1 : (0 : Int) ≤ (z : Int) := by omega
                    have i2 : (z : Int) < (m : Int) := by omega
                    by_cases hxq : x = q
                    · have hfc := HST.out (by rw [← hxq]; exact List.mem_of_getElem? hx)
                      subst hfc
                      subst hxq
                      clear hx
                      go_wp2
                      go_roundw
                      case rel => exact ⟨z + 1, by omega, by go_num, by trivial⟩
                      case measure => simp [intOf]; omega
                    · have hne : B x ≠ B q := fun h => hxq (B_inj h)
                      have hne2 : (x == q) = false := beq_eq_false_iff_ne.2 hxq
                      clear hx
                      go_wp2
                      go_roundw
                      case rel => exact ⟨z + 1, by omega, by go_num, by trivial⟩
                      case measure => simp [intOf]; omega
                  · obtain rfl : z = m := by omega
                    go_wp2_with fail
                    have C := GT.runs H8.out.gt
                    rw [HRU.out] at C
                    refine C.mono ?_
                    rintro e wx ⟨rfl, rfl⟩
                    have H9 := Lib.hid H8.out.gt.b
                    have hle := HRL.out
                    clear C H8
                    go_wp2
                    go_ret
                    exact ⟨rfl, H9.out⟩
end Go.Proofs.Ytbikldmhfaecpaa
