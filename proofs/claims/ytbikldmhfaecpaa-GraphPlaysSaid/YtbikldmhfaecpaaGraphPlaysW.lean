/-
  Layer 48 (graph): the walk of the law GraphPlays (printed by gen_grpl.py).
-/
import Derived.Test.YtbikldmhfaecpaaGrX
import Derived.Test.YtbikldmhfaecpaaGrRt
import Derived.Test.YtbikldmhfaecpaaGrX2
import Derived.Test.YtbikldmhfaecpaaGrOpen
import Derived.IntWalk
import Derived.Deep.RegionHeld3
namespace Go.Proofs.Ytbikldmhfaecpaa
open Go.RowKit
set_option linter.unusedVariables false
set_option linter.unusedSimpArgs false
attribute [local go_sem] B_data B_size
set_option maxHeartbeats 4000000 in
set_option maxRecDepth 100000 in
theorem lsame_any (A1 A2 : Option Addr) (n1 c1 n2 c2 : Nat) (l1 l2 : List Nm) (w : World) (h1 : Rd w w.heap.size 1 A1 n1 (strs l1)) (h2 : Rd w w.heap.size 1 A2 n2 (strs l2)) (hn : n1 ≤ 140737488355328) (hn2 : n2 ≤ 140737488355328) :
    Calls Try.prog 21 #[.slice A1 n1 c1, .slice A2 n2 c2] w fun e w' => e = .returned (.bool (decide (l1 = l2))) ∧ Below w.heap.size w w' := by
  have HL1 := Lib.hid h1.strs_length
  have HL2 := Lib.hid h2.strs_length
  by_cases hl : n1 = n2
  · subst hl
    go_enter Try.func21, Try.ntmps21
    go_wp2
    go_loopw [5] (fun i wr => ∃ j : Nat, j ≤ n1 ∧ i = .int .i64 j ∧ Below w.heap.size w wr ∧ Hid (l1.take j = l2.take j)) (fun i _ => n1 - (intOf i).toNat)
    case atStart => exact ⟨0, Nat.zero_le _, rfl, Below.refl _ _, Lib.hid rfl⟩
    case round =>
      obtain ⟨j, hj, rfl, hbw, hfs⟩ := hrel
      by_cases hlt : j < n1
      · obtain ⟨x, hx⟩ := get_of (l := l1) (k := j) (by rw [HL1.out]; exact hlt)
        obtain ⟨y, hy⟩ := get_of (l := l2) (k := j) (by rw [HL2.out]; exact hlt)
        obtain ⟨g, o, rfl, hg, c0⟩ := (h1.below hbw).strk hx
        obtain ⟨g', o', rfl, hg', c0'⟩ := (h2.below hbw).strk hy
        have i1 : (0 : Int) ≤ (j : Int) := by omega
        have i2 : (j : Int) < (n1 : Int) := by omega
        have HB := Lib.hid hbw
        by_cases hxs : x = y
        · subst hxs
          have HF : Hid (l1.take (j + 1) = l2.take (j + 1)) := Lib.hid (by rw [take_one hx, take_one hy, hfs.out])
          clear hx hy hbw hfs
          go_wp2_with fail
          go_quiet (fail)
          go_wp2
          go_roundw
          case rel => exact ⟨j + 1, by omega, by go_num, by exact ⟨HB.out.os, HB.out.tape, HB.out.output, HB.out.size, HB.out.block⟩, HF⟩
          case measure => simp [intOf]; omega
        · have hd : decide (l1 = l2) = false := decide_eq_false (fun e => hxs (by rw [e, hy] at hx; injection hx with hx; exact hx.symm))
          have hne : (x == y) = false := beq_eq_false_iff_ne.2 hxs
          have HD := Lib.hid hd
          clear hd
          clear hx hy hbw hfs
          go_wp2_with fail
          go_quiet (fail)
          go_wp2
          go_ret
          exact ⟨by rw [HD.out]; rfl, ⟨HB.out.os, HB.out.tape, HB.out.output, HB.out.size, HB.out.block⟩⟩
      · have e : j = n1 := by omega
        subst e
        have hd : decide (l1 = l2) = true := decide_eq_true (by
          have h := hfs.out
          rwa [List.take_of_length_le (by rw [HL1.out]; omega), List.take_of_length_le (by rw [HL2.out]; omega)] at h)
        have HD := Lib.hid hd
        clear hd
        go_wp2
        go_ret
        exact ⟨by rw [HD.out]; rfl, hbw⟩
  · have hd : decide (l1 = l2) = false := decide_eq_false (fun e => hl (by rw [← HL1.out, ← HL2.out, e]))
    have HD := Lib.hid hd
    clear hd
    have hl2 : ((n1 : Int) == (n2 : Int)) = false := by rw [beq_eq_false_iff_ne]; omega
    go_enter Try.func21, Try.ntmps21
    go_wp2
    go_ret
    exact ⟨by rw [HD.out]; rfl, Below.refl _ _⟩

theorem opCells {w : World} {b : Nat} {p : OpR} (h : w.heap[b]? = some (.cells #[.int .i64 p.K, .string (B p.nm), .string (B p.vl), .slice p.A p.na p.ca, .int .i64 p.F] 31 (0, 0))) :
    w.cell? ⟨b, 0, none⟩ = some (.int .i64 p.K) ∧ w.cell? ⟨b, 1, none⟩ = some (.string (B p.nm)) ∧ w.cell? ⟨b, 2, none⟩ = some (.string (B p.vl)) ∧ w.cell? ⟨b, 3, none⟩ = some (.slice p.A p.na p.ca) ∧ w.cell? ⟨b, 4, none⟩ = some (.int .i64 p.F) := by
  simp [World.cell?, h]
theorem GX.ko {id gb : Nat} {S : GS} {w0 w w' : World} {X Y : Nat → Prop} (h : GX id gb S w0 w X) (k : KO X w w') (hb : Below w0.heap.size w0 w') (hY : ∀ b, Y b → (X b ∨ w.heap.size ≤ b) ∧ b < w'.heap.size) : GX id gb S w0 w' Y := by
  obtain ⟨own, h1, h2, h3, h4⟩ := h
  refine ⟨own, h1.keep (fun b hm => k.1 b (h1.mine_lt hm) (fun hx => (h4 b hx).2 hm)) k.2, hb, h3, fun b hy => ⟨(hY b hy).2, fun hm => ?_⟩⟩
  rcases (hY b hy).1 with h | h
  · exact (h4 b h).2 hm
  · have := h1.mine_lt hm; omega
theorem GX.stale {id gb R : Nat} {S : GS} {w0 w : World} {X : Nat → Prop} (h : GX id gb S w0 w X) (hi : GI R S) :
    Calls Try.prog 22 #[.pointer (some ⟨gb, 0, none⟩)] w fun e w' => ∃ A c, e = .returned (.slice A (staleX S).length c) ∧ w'.ownsRow w.heap.size 9 1 (.slice A (staleX S).length c) (staleX S).length (strs (staleX S)) ∧ Below w.heap.size w w' := by
  obtain ⟨own, h1, h2, h3, _⟩ := h
  refine (stale_any w h1 (by have := hi.size; omega)).mono ?_
  rintro e w' ⟨v, rfl, ho, hb⟩
  obtain ⟨A, c, rfl, _⟩ := own_form ho
  exact ⟨A, c, rfl, ho, hb⟩
theorem GX.runs {id gb : Nat} {S : GS} {w0 w : World} {X : Nat → Prop} (h : GX id gb S w0 w X) :
    Calls Try.prog 19 #[.pointer (some ⟨gb, 0, none⟩)] w fun e w' => e = .returned (.int .i64 (S.runs : Int)) ∧ w' = w := by
  obtain ⟨own, h1, _⟩ := h
  exact runs_any w h1
/-- both graphs, side by side -/
def PW (ga rb R : Nat) (S : GS) (w0 w : World) : Prop := ∃ A c L N X, GX 0 ga S w0 w X ∧ RG rb A c L N w0 w X ∧ PlayI R S L N
theorem PW.gx {ga rb R : Nat} {S : GS} {w0 w : World} (h : PW ga rb R S w0 w) : Below w0.heap.size w0 w := by obtain ⟨_, _, _, _, _, h, _⟩ := h; exact h.b
/-- a call of the program, then the reference's own -/
theorem pw_step {ga rb : Nat} {S S' : GS} {w0 w w1 w2 : World} {X : Nat → Prop} {A : Option Addr} {c : Nat} {L : List VM} {N : Nat} (hr : RG rb A c L N w0 w X) (g1 : GX 0 ga S' w0 w1 (fun b => X b ∨ b = w.heap.size)) (k1 : KX (fun b => X b ∨ b = w.heap.size) w w1) :
    RG rb A c L N w0 w1 X ∧ GX 0 ga S' w0 w1 X := ⟨hr.keep g1.b ⟨fun b hb => k1.1 b (.inl hb), k1.2⟩, g1.weak fun b hb => .inl hb⟩
theorem two_ko {rb : Nat} {A : Option Addr} {X : Nat → Prop} {w w' : World} (h : KO (Two rb A) w w') (hx : X rb ∧ ∀ b, (Value.slice A 0 0).ownBlock = some b → X b) : KO X w w' :=
  ⟨fun b hb hn => h.1 b hb (fun ht => by
    rcases ht with ht | ht
    · exact hn (by rw [ht]; exact hx.1)
    · exact hn (hx.2 b ht)), h.2⟩
set_option maxHeartbeats 16000000 in
set_option maxRecDepth 100000 in
theorem graphPlays_walk (w : World) (A : Option Addr) (n c : Nat) (l : List OpR) (hx : OpAt w w.heap.size A n l) (hn : n ≤ 140737488355328) :
    Calls Try.prog 3 #[.slice A n c] w fun e w' => e = .returned (.bool true) ∧ Below w.heap.size w w' := by
  have HL := Lib.hid hx.len
  have HSM := Lib.hid (small_any A n c l w hx hn)
  have HDP := Lib.hid (fun w' (h : Below w.heap.size w w') => deep_any A n c l w' ((hx.below h).more h.size) hn)
  have HX := Lib.hid hx
  clear hx
  go_enter Try.func3, Try.ntmps3
  go_wp2_with fail
  refine HSM.out.mono ?_
  rintro e w1 ⟨b1, rfl, hb1, hf⟩
  have HB1 := Lib.hid hb1
  clear HSM
  cases b1 with
  | false =>
    clear hf
    go_wp2_with fail
    refine (awake_any w1).mono ?_
    rintro e w2 ⟨rfl, h⟩
    have H2 := Lib.hid (hb1.trans (h.mono hb1.size))
    clear h hb1
    go_wp2
    go_ret
    exact ⟨rfl, H2.out⟩
  | true =>
    have HF := Lib.hid (hf rfl)
    clear hf
    go_wp2_with fail
    refine (HDP.out w1 hb1).mono ?_
    rintro e w2 ⟨b2, rfl, hb2, _⟩
    have hb2 := hb1.trans (hb2.mono hb1.size)
    clear HDP HB1 hb1
    have HB2 := Lib.hid hb2
    clear hb2
    cases b2 with
    | true =>
      go_wp2_with fail
      refine (awake_any w2).mono ?_
      rintro e w3 ⟨rfl, h⟩
      have H3 := Lib.hid (HB2.out.trans (h.mono HB2.out.size))
      clear h
      go_wp2
      go_ret
      exact ⟨rfl, H3.out⟩
    | false =>
      go_wp2_with fail
      refine (awake_any w2).mono ?_
      rintro e w3 ⟨rfl, h⟩
      have H3 := Lib.hid (HB2.out.trans (h.mono HB2.out.size))
      clear h HB2
      go_wp2_with fail
      refine (new_any w3).mono ?_
      rintro e wx ⟨rfl, rfl⟩
      go_wp2_with fail
      refine (rnew_any _).mono ?_
      rintro e wx ⟨rfl, rfl⟩
      have hg0 := GX.new 0 H3.out
      have hs4 : (w3.alloc (.cells #[.map none, .map none, .map none, .int .i64 0, .int .i64 0] 49)).heap.size = w3.heap.size + 1 := by simp
      have hr0 := RG.new hg0.b
      have hg1 := (hg0.alloc (.cells #[.slice none 0 0, .int .i64 0] 53)).weak (Y := fun b => b = (w3.alloc (.cells #[.map none, .map none, .map none, .int .i64 0, .int .i64 0] 49)).heap.size) (fun b hb => .inr hb)
      have H0 : Hid (PW w3.heap.size (w3.alloc (.cells #[.map none, .map none, .map none, .int .i64 0, .int .i64 0] 49)).heap.size 0 GS.new w ((w3.alloc (.cells #[.map none, .map none, .map none, .int .i64 0, .int .i64 0] 49)).alloc (.cells #[.slice none 0 0, .int .i64 0] 53))) := Lib.hid ⟨none, 0, [], 0, _, hg1, hr0, PlayI.new 0⟩
      rw [hs4] at H0 ⊢
      generalize (w3.alloc (.cells #[.map none, .map none, .map none, .int .i64 0, .int .i64 0] 49)).alloc (.cells #[.slice none 0 0, .int .i64 0] 53) = w4 at H0 ⊢
      clear H3 hg0 hg1 hr0 hs4
      generalize w3.heap.size + 1 = rb at *
      generalize w3.heap.size = ga at *
      have hn40 : n ≤ 40 := by have := HF.out.n; rw [HL.out] at this; exact this
      go_wp2
      go_loopw [5, 6, 7, 8, 9, 10] (fun v5 _ _ _ _ _ wr => ∃ (j : Nat) (S : GS), v5 = .int .i64 j ∧ j ≤ n ∧ PW ga rb (1024 * j) S w wr ∧ S.changes ≤ j) (fun i _ _ _ _ _ _ => n - (intOf i).toNat)
      case atStart => exact ⟨0, GS.new, rfl, Nat.zero_le _, H0.out, Nat.le_refl _⟩
      case round =>
        obtain ⟨j, S, rfl, hj, hpw, hch⟩ := hrel
        by_cases hlt : j < n
        · obtain ⟨p, hp⟩ := get_of (l := l) (k := j) (by rw [HL.out]; exact hlt)
          obtain ⟨g, o, rfl, hg, c0, c1, c2, c3, c4⟩ := (HX.out.below hpw.gx).at5 hp
          have i1 : (0 : Int) ≤ (j : Int) := by omega
          have i2 : (j : Int) < (n : Int) := by omega
          have hmem := List.mem_of_getElem? hp
          have HND := Lib.hid (And.intro (HX.out.nd p hmem) (HX.out.le p hmem))
          have HFO := Lib.hid (HF.out.b p hmem)
          have HSM : Hid (p.na ≤ 4) := Lib.hid (by have := (HF.out.b p hmem).1; rw [(HX.out.nd p hmem).strs_length] at this; exact this)
          obtain ⟨A1, c1', L, N, X, hgx, hrg, hpl⟩ := hpw
          have HPL := Lib.hid hpl
          have HGA := Lib.hid (hgx.alloc (.cells #[.int .i64 p.K, .string (B p.nm), .string (B p.vl), .slice p.A p.na p.ca, .int .i64 p.F] 31))
          have HRA := Lib.hid (hrg.below (below_alloc wr (.cells #[.int .i64 p.K, .string (B p.nm), .string (B p.vl), .slice p.A p.na p.ca, .int .i64 p.F] 31)))
          have HOB := Lib.hid (heap_alloc_new wr (.cells #[.int .i64 p.K, .string (B p.nm), .string (B p.vl), .slice p.A p.na p.ca, .int .i64 p.F] 31))
          have HNX : Hid (¬ X wr.heap.size) := Lib.hid (fun hx => by have := (hrg.xs _ hx).2; omega)
          have HOC := Lib.hid (fun (W : World) (h : W.heap[wr.heap.size]? = some (.cells #[.int .i64 p.K, .string (B p.nm), .string (B p.vl), .slice p.A p.na p.ca, .int .i64 p.F] 31 (0, 0))) => opCells h)
          have hobs : wr.heap.size < (wr.alloc (.cells #[.int .i64 p.K, .string (B p.nm), .string (B p.vl), .slice p.A p.na p.ca, .int .i64 p.F] 31)).heap.size := by simp
          have HRX : Hid (X rb ∧ ∀ b, (Value.slice A1 0 0).ownBlock = some b → X b) := Lib.hid ⟨hrg.xr, fun b hb => (hrg.rx b (by rw [own_eq]; exact hb)).1⟩
          clear hp hmem hgx hrg hpl
          obtain ⟨pK, pn, pv, pd, pF, pA, pna, pca⟩ := p
          dsimp only at *
          by_cases hK0 : pK = 0
          · subst hK0
            have HS := Lib.hid ((HGA.out.below (Below.refl _ _).drew).set HPL.out.gi (by omega) pn pv)
            have hvl : pv.length ≤ 1000 := by have := HFO.out.2.2.1; simp only at this; omega
            have HCH6 : Hid ((setX S pn pv).2.changes ≤ j + 1) := Lib.hid (by have := (setX_gi HPL.out.gi pn pv hvl).2; omega)
            have HGL := Lib.hid HPL.out.gl
            go_wp2_with fail
            go_region_held3 (fun w' => w'.cell? ⟨wr.heap.size, 0, none⟩ = some (.int .i64 0) ∧ w'.cell? ⟨wr.heap.size, 1, none⟩ = some (.string (B pn)) ∧ w'.cell? ⟨wr.heap.size, 2, none⟩ = some (.string (B pv)) ∧ w'.cell? ⟨wr.heap.size, 3, none⟩ = some (.slice pA pna pca) ∧ w'.cell? ⟨wr.heap.size, 4, none⟩ = some (.int .i64 pF)) (first | exact HOC.out _ HOB.out | exact HOC.out _ hob6 | exact HOC.out _ hob5)
              (first
                | (go_at_call 13; refine HS.out.mono ?_; rintro e w5 ⟨rfl, h5, k5⟩; have hob5 := (k5.1 wr.heap.size (.inr rfl)).trans HOB.out; have hrg5 := (HRA.out.below (Below.refl _ _).drew).keep h5.b ⟨fun b hb => k5.1 b (.inl hb), k5.2⟩)
                | (go_at_call 14; refine (rset_any pn pv w5 hrg5 (by have := HGL.out.len; omega) HGL.out.nd).mono ?_; rintro e w6 ⟨code, rfl, A6, c6, L6, N6, X6, rg6, rp6, hs6, hN6⟩; have hob6 := (rp6.1.1 wr.heap.size (Array.getElem?_eq_some_iff.1 hob5).1 HNX.out).trans hob5; have hps := play_set HPL.out hvl hs6; obtain ⟨hcd, hps2⟩ := hps; subst hcd; subst hN6))
            have hps := And.intro trivial hps2
            clear hps2
            obtain ⟨S2, hS2⟩ : ∃ S2, (setX S pn pv).2 = S2 := ⟨_, rfl⟩
            rw [hS2] at h5 hps HCH6
            clear hS2 HS
            have HG6 : Hid (GX 0 ga S2 w w6 X6) := Lib.hid ((h5.weak fun b hb => .inl hb).ko rp6.1 rg6.b (fun b hb => ⟨rp6.2 b hb, (rg6.xs b hb).2⟩))
            have HR6 := Lib.hid rg6
            have HP6 := Lib.hid (hps.2.up (R' := 1024 * (j + 1)) (by omega))
            clear h5 k5 hob5 hrg5 rg6 rp6 hs6 hps hob6
            have HRUN : Hid (S2.runs = N6) := Lib.hid HP6.out.same.2.2.symm
            have hsl : (staleR L6).length ≤ 1024 := by
              have h1 := staleR_len L6 []
              have h2 := HP6.out.gl.len
              unfold staleR; simp at h1 ⊢; omega
            have C := GX.runs HG6.out
            rw [HRUN.out] at C
            have HCR := Lib.hid C
            clear C HRUN
            go_wp2_with fail
            refine HCR.out.mono ?_
            rintro e wz ⟨rfl, rfl⟩
            clear HCR
            go_wp2_with fail
            refine (rruns_any _ HR6.out).mono ?_
            rintro e wz ⟨rfl, rfl⟩
            have C := GX.stale HG6.out HP6.out.gi
            rw [play_stale HP6.out] at C
            have HCS := Lib.hid C
            clear C
            obtain ⟨q, hq⟩ : ∃ q, (staleR L6).length = q := ⟨_, rfl⟩
            rw [hq] at HCS hsl
            have HQ := Lib.hid hq
            clear hq
            go_wp2_with fail
            refine HCS.out.mono ?_
            rintro e w7 ⟨A7, c7, rfl, ho7, hb7⟩
            have HO7 := Lib.hid ho7
            have HB7 := Lib.hid hb7
            have HRS := Lib.hid (rstl_any w7 (HR6.out.below hb7) (by have := HP6.out.gl.len; omega))
            clear ho7 hb7 HCS
            go_wp2_with fail
            refine HRS.out.mono ?_
            rintro e w8 ⟨v8, rfl, ho8, hb8⟩
            unfold TRow at ho8
            rw [HQ.out] at ho8
            obtain ⟨A8, c8, rfl, _⟩ := own_form ho8
            have hls := lsame_any A7 A8 q c7 q c8 (staleR L6) (staleR L6) w8 (Rd.of_own (own_below HO7.out hb8)) (Rd.of_own ho8) (by omega) (by omega)
            rw [show decide (staleR L6 = staleR L6) = true from by simp] at hls
            have HLS := Lib.hid hls
            have HB8 := Lib.hid (HB7.out.trans (hb8.mono HB7.out.size))
            clear ho8 hb8 hls HRS HO7 HB7
            go_wp2_with fail
            refine HLS.out.mono ?_
            rintro e w9 ⟨rfl, hb9⟩
            have HB9 := Lib.hid (HB8.out.trans (hb9.mono HB8.out.size))
            have HPW : Hid (PW ga rb (1024 * (j + 1)) S2 w w9) := Lib.hid ⟨A6, c6, L6, N6, X6, HG6.out.below HB9.out, HR6.out.below HB9.out, HP6.out⟩
            have hch7 : S2.changes ≤ j + 1 := HCH6.out
            clear hb9 HLS HB8 HB9 HG6 HR6 HP6 HCH6
            go_wp2
            go_roundw
            case rel => exact ⟨j + 1, S2, by go_num, by omega, HPW.out, hch7⟩
            case measure => simp [intOf]; omega
          by_cases hK1 : pK = 1
          · subst hK1
            have HS := Lib.hid ((HGA.out.below (Below.refl _ _).drew).ruleOp HPL.out.gi (by omega) ⟨1, pn, pv, pd, pF, pA, pna, pca⟩ HND.out.1 (by have := HSM.out; simp only; omega) HND.out.2)
            dsimp only at HS
            have HCH6 : Hid ((ruleX S pn pd (foI pF)).2.changes ≤ j + 1) := Lib.hid (by have := (ruleX_gi HPL.out.gi pn pd (foI pF)).2; omega)
            have HGL := Lib.hid HPL.out.gl
            go_wp2_with fail
            go_region_held3 (fun w' => w'.cell? ⟨wr.heap.size, 0, none⟩ = some (.int .i64 1) ∧ w'.cell? ⟨wr.heap.size, 1, none⟩ = some (.string (B pn)) ∧ w'.cell? ⟨wr.heap.size, 2, none⟩ = some (.string (B pv)) ∧ w'.cell? ⟨wr.heap.size, 3, none⟩ = some (.slice pA pna pca) ∧ w'.cell? ⟨wr.heap.size, 4, none⟩ = some (.int .i64 pF)) (first | exact HOC.out _ HOB.out | exact HOC.out _ hob6 | exact HOC.out _ hob5)
              (first
                | (go_at_call 15; refine HS.out.mono ?_; rintro e w5 ⟨rfl, h5, k5⟩; have hob5 := (k5.1 wr.heap.size (.inr rfl)).trans HOB.out; have hrg5 := (HRA.out.below (Below.refl _ _).drew).keep h5.b ⟨fun b hb => k5.1 b (.inl hb), k5.2⟩)
                | (go_at_call 16; refine (rrule_any pn pA pna pca pd pF w5 hrg5 (by have := HGL.out.len; omega) HGL.out.nd ((HND.out.1.below h5.b).more h5.b.size) (by have := HSM.out; omega)).mono ?_; rintro e w6 ⟨code, rfl, A6, c6, L6, N6, X6, rg6, rp6, hs6, hN6⟩; have hob6 := (rp6.1.1 wr.heap.size (Array.getElem?_eq_some_iff.1 hob5).1 HNX.out).trans hob5; have hps := play_rule HPL.out hs6; obtain ⟨hcd, hps2⟩ := hps; subst hcd; subst hN6))
            have hps := And.intro trivial hps2
            clear hps2
            obtain ⟨S2, hS2⟩ : ∃ S2, (ruleX S pn pd (foI pF)).2 = S2 := ⟨_, rfl⟩
            rw [hS2] at h5 hps HCH6
            clear hS2 HS
            have HG6 : Hid (GX 0 ga S2 w w6 X6) := Lib.hid ((h5.weak fun b hb => .inl hb).ko rp6.1 rg6.b (fun b hb => ⟨rp6.2 b hb, (rg6.xs b hb).2⟩))
            have HR6 := Lib.hid rg6
            have HP6 := Lib.hid (hps.2.up (R' := 1024 * (j + 1)) (by omega))
            clear h5 k5 hob5 hrg5 rg6 rp6 hs6 hps hob6
            have HRUN : Hid (S2.runs = N6) := Lib.hid HP6.out.same.2.2.symm
            have hsl : (staleR L6).length ≤ 1024 := by
              have h1 := staleR_len L6 []
              have h2 := HP6.out.gl.len
              unfold staleR; simp at h1 ⊢; omega
            have C := GX.runs HG6.out
            rw [HRUN.out] at C
            have HCR := Lib.hid C
            clear C HRUN
            go_wp2_with fail
            refine HCR.out.mono ?_
            rintro e wz ⟨rfl, rfl⟩
            clear HCR
            go_wp2_with fail
            refine (rruns_any _ HR6.out).mono ?_
            rintro e wz ⟨rfl, rfl⟩
            have C := GX.stale HG6.out HP6.out.gi
            rw [play_stale HP6.out] at C
            have HCS := Lib.hid C
            clear C
            obtain ⟨q, hq⟩ : ∃ q, (staleR L6).length = q := ⟨_, rfl⟩
            rw [hq] at HCS hsl
            have HQ := Lib.hid hq
            clear hq
            go_wp2_with fail
            refine HCS.out.mono ?_
            rintro e w7 ⟨A7, c7, rfl, ho7, hb7⟩
            have HO7 := Lib.hid ho7
            have HB7 := Lib.hid hb7
            have HRS := Lib.hid (rstl_any w7 (HR6.out.below hb7) (by have := HP6.out.gl.len; omega))
            clear ho7 hb7 HCS
            go_wp2_with fail
            refine HRS.out.mono ?_
            rintro e w8 ⟨v8, rfl, ho8, hb8⟩
            unfold TRow at ho8
            rw [HQ.out] at ho8
            obtain ⟨A8, c8, rfl, _⟩ := own_form ho8
            have hls := lsame_any A7 A8 q c7 q c8 (staleR L6) (staleR L6) w8 (Rd.of_own (own_below HO7.out hb8)) (Rd.of_own ho8) (by omega) (by omega)
            rw [show decide (staleR L6 = staleR L6) = true from by simp] at hls
            have HLS := Lib.hid hls
            have HB8 := Lib.hid (HB7.out.trans (hb8.mono HB7.out.size))
            clear ho8 hb8 hls HRS HO7 HB7
            go_wp2_with fail
            refine HLS.out.mono ?_
            rintro e w9 ⟨rfl, hb9⟩
            have HB9 := Lib.hid (HB8.out.trans (hb9.mono HB8.out.size))
            have HPW : Hid (PW ga rb (1024 * (j + 1)) S2 w w9) := Lib.hid ⟨A6, c6, L6, N6, X6, HG6.out.below HB9.out, HR6.out.below HB9.out, HP6.out⟩
            have hch7 : S2.changes ≤ j + 1 := HCH6.out
            clear hb9 HLS HB8 HB9 HG6 HR6 HP6 HCH6
            go_wp2
            go_roundw
            case rel => exact ⟨j + 1, S2, by go_num, by omega, HPW.out, hch7⟩
            case measure => simp [intOf]; omega
          · have g0 : (pK == 0) = false := beq_eq_false_iff_ne.2 hK0
            have g1 : (pK == 1) = false := beq_eq_false_iff_ne.2 hK1
            obtain ⟨gg, hok, hres, hnext⟩ := play_get HPL.out (by omega) pn
            have HS := Lib.hid (HGA.out.get HPL.out.gi (by omega) pn)
            have HCH6 : Hid ((getX S pn).1.changes ≤ j + 1) := Lib.hid (by have := (getX_gi HPL.out.gi pn).2.2.1; omega)
            have HOK := Lib.hid hok
            have HNXT := Lib.hid hnext
            rw [hres] at HS
            have HRES := Lib.hid hres
            clear hok hres hnext
            go_wp2_with fail
            refine HS.out.mono ?_
            rintro e w5 ⟨rfl, h5, k5⟩
            have hob5 := (k5.1 wr.heap.size (.inr rfl)).trans HOB.out
            have hrg5 := HRA.out.keep h5.b ⟨fun b hb => k5.1 b (.inl hb), k5.2⟩
            obtain ⟨x0, x1, x2, x3, x4⟩ := HOC.out _ hob5
            have HG2 := Lib.hid (rget_any gg pn w5 hrg5 HPL.out.gl HOK.out)
            have H5 := Lib.hid h5
            obtain ⟨YY, hYY⟩ : ∃ YY, (getR gg L N pn).2 = YY := ⟨_, rfl⟩
            rw [hYY] at HG2 ⊢
            obtain ⟨ys, ye⟩ := YY
            simp only [ResV] at HG2 ⊢
            clear h5 k5 hob5 hrg5 HS hYY HRES
            go_wp2_with fail
            refine HG2.out.mono ?_
            rintro e w6 ⟨rfl, L6, N6, X6, rg6, ko6, hx6, ab6, sh6, gl6⟩
            have HP6 : Hid (PlayI (1024 * (j + 1)) (getX S pn).1 L6 N6) := Lib.hid ((HNXT.out L6 N6 ab6 sh6 gl6).up (by omega))
            have HG6 : Hid (GX 0 ga (getX S pn).1 w w6 X6) := Lib.hid ((H5.out.weak fun b hb => .inl hb).ko (two_ko ko6 HRX.out) rg6.b (fun b hb => ⟨hx6 b hb, (rg6.xs b hb).2⟩))
            have HR6 := Lib.hid rg6
            clear rg6 ko6 hx6 ab6 sh6 gl6 HG2 H5 HNXT HOK x0 x1 x2 x3 x4
            obtain ⟨A6, hA6⟩ : ∃ A6, A1 = A6 := ⟨_, rfl⟩
            obtain ⟨c6, hc6⟩ : ∃ c6, c1' = c6 := ⟨_, rfl⟩
            rw [hA6, hc6] at HR6
            obtain ⟨S2, hS2⟩ : ∃ S2, (getX S pn).1 = S2 := ⟨_, rfl⟩
            rw [hS2] at HP6 HG6 HCH6
            clear hS2 hA6 hc6
            have HRUN : Hid (S2.runs = N6) := Lib.hid HP6.out.same.2.2.symm
            have hsl : (staleR L6).length ≤ 1024 := by
              have h1 := staleR_len L6 []
              have h2 := HP6.out.gl.len
              unfold staleR; simp at h1 ⊢; omega
            have C := GX.runs HG6.out
            rw [HRUN.out] at C
            have HCR := Lib.hid C
            clear C HRUN
            go_wp2_with fail
            refine HCR.out.mono ?_
            rintro e wz ⟨rfl, rfl⟩
            clear HCR
            go_wp2_with fail
            refine (rruns_any _ HR6.out).mono ?_
            rintro e wz ⟨rfl, rfl⟩
            have C := GX.stale HG6.out HP6.out.gi
            rw [play_stale HP6.out] at C
            have HCS := Lib.hid C
            clear C
            obtain ⟨q, hq⟩ : ∃ q, (staleR L6).length = q := ⟨_, rfl⟩
            rw [hq] at HCS hsl
            have HQ := Lib.hid hq
            clear hq
            go_wp2_with fail
            refine HCS.out.mono ?_
            rintro e w7 ⟨A7, c7, rfl, ho7, hb7⟩
            have HO7 := Lib.hid ho7
            have HB7 := Lib.hid hb7
            have HRS := Lib.hid (rstl_any w7 (HR6.out.below hb7) (by have := HP6.out.gl.len; omega))
            clear ho7 hb7 HCS
            go_wp2_with fail
            refine HRS.out.mono ?_
            rintro e w8 ⟨v8, rfl, ho8, hb8⟩
            unfold TRow at ho8
            rw [HQ.out] at ho8
            obtain ⟨A8, c8, rfl, _⟩ := own_form ho8
            have hls := lsame_any A7 A8 q c7 q c8 (staleR L6) (staleR L6) w8 (Rd.of_own (own_below HO7.out hb8)) (Rd.of_own ho8) (by omega) (by omega)
            rw [show decide (staleR L6 = staleR L6) = true from by simp] at hls
            have HLS := Lib.hid hls
            have HB8 := Lib.hid (HB7.out.trans (hb8.mono HB7.out.size))
            clear ho8 hb8 hls HRS HO7 HB7
            go_wp2_with fail
            refine HLS.out.mono ?_
            rintro e w9 ⟨rfl, hb9⟩
            have HB9 := Lib.hid (HB8.out.trans (hb9.mono HB8.out.size))
            have HPW : Hid (PW ga rb (1024 * (j + 1)) S2 w w9) := Lib.hid ⟨A6, c6, L6, N6, X6, HG6.out.below HB9.out, HR6.out.below HB9.out, HP6.out⟩
            have hch7 : S2.changes ≤ j + 1 := HCH6.out
            clear hb9 HLS HB8 HB9 HG6 HR6 HP6 HCH6
            go_wp2
            go_roundw
            case rel => exact ⟨j + 1, S2, by go_num, by omega, HPW.out, hch7⟩
            case measure => simp [intOf]; omega
        · obtain rfl : j = n := by omega
          have HB := Lib.hid hpw.gx
          clear hpw
          go_wp2
          go_ret
          exact ⟨rfl, HB.out⟩
end Go.Proofs.Ytbikldmhfaecpaa
