/-
  Layer 48 (graph): Set.
-/
import Derived.Test.YtbikldmhfaecpaaGrG
namespace Go.Proofs.Ytbikldmhfaecpaa
open Go.RowKit
set_option linter.unusedVariables false
set_option linter.unusedSimpArgs false
attribute [local go_sem] B_data B_size

theorem putM_vkv (n v : Nm) (vs : List (Nm × Nm)) : putM n (.string (B v)) (vkv vs) = vkv (putV n v vs) := by
  induction vs with
  | nil => rfl
  | cons p r ih =>
    simp only [vkv, List.map_cons, putM, putV] at ih ⊢
    split
    · simp
    · simp [ih]
section
variable {own : Own} {id gb b : Nat} {vm rm um : Option Nat} {pt : Nm → PtI} {S : GS} {U : Nm → List Nm} {w w' : World}
/-- a value is stored -/
theorem GW.vput (h : GW own id gb (some b) rm um pt S U w) {n v : Nm} (hm : SMap w' b (vkv (putV n v S.vals))) (hg : w.grownBy w' (some b)) : GW own id gb (some b) rm um pt { S with vals := putV n v S.vals } U w' := by
  have hb := (h.v1 b rfl).1
  have k : ∀ q t, own q = some (id, t) → t ≠ .vals → w'.heap[q]? = w.heap[q]? := fun q t e ht => hg.block q (h.mine_lt ⟨_, e⟩) fun e' => by injection e' with e'; rw [e', hb] at e; injection e with e; injection e with _ e; exact ht e.symm
  refine ⟨h.gt, (k gb _ h.gt (by simp)).trans h.head, fun e => (by cases e), fun q e => ?_, h.r0, fun q e => ?_, h.ru, h.u0, fun q e => ?_, fun r hr => ?_, h.nd, fun q hq => h.fr q (Nat.le_trans hg.size hq)⟩
  · injection e with e; subst e; exact ⟨hb, hm⟩
  · exact ⟨(h.r1 q e).1, (h.r1 q e).2.of_block (k q _ (h.r1 q e).1 (by simp))⟩
  · obtain ⟨h1, kv, h2, h3⟩ := h.u1 q e
    refine ⟨h1, kv, h2.of_block (k q _ h1 (by simp)), fun n => ?_⟩
    rcases h3 n with h0 | ⟨v, g1, g2, g3⟩
    · exact .inl h0
    · exact .inr ⟨v, g1, own_keep g2 fun b hb => k b _ (g3 b hb) (by simp), g3⟩
  · exact (h.rs r hr).keepT (fun b t e ht => k b t e (by rcases ht with rfl | rfl | rfl <;> simp)) hg.size
/-- the map of the values is made -/
theorem GW.vnew (h : GW own id gb none rm um pt S U w) : GW (tagO own w.heap.size (id, .vals)) id gb (some w.heap.size) rm um pt S U ((w.alloc (.map #[] 0)).setCell ⟨gb, 0, none⟩ (.map (some w.heap.size))) := by
  have hn := h.fr _ (Nat.le_refl _)
  have h1 := (h.alloc (.map #[] 0)).tagged (x := (id, .vals)) hn (by simp)
  have hlt := h.lt
  have k : ∀ q, q ≠ gb → ((w.alloc (.map #[] 0)).setCell ⟨gb, 0, none⟩ (.map (some w.heap.size))).heap[q]? = (w.alloc (.map #[] 0)).heap[q]? := fun q hq => Below.heap_setCell _ _ _ q hq
  have kt : ∀ q t, tagO own w.heap.size (id, .vals) q = some (id, t) → t ≠ .g → q ≠ gb := fun q t e ht e' => by subst e'; rw [h1.gt] at e; injection e with e; injection e with _ e; exact ht e.symm
  have hs : (w.alloc (.map #[] 0)).heap.size ≤ ((w.alloc (.map #[] 0)).setCell ⟨gb, 0, none⟩ (.map (some w.heap.size))).heap.size := by simp [World.setCell]
  refine ⟨h1.gt, ?_, fun e => (by cases e), fun q e => ?_, h1.r0, fun q e => ?_, h1.ru, h1.u0, fun q e => ?_, fun r hr => ?_, h1.nd, fun q hq => h1.fr q (Nat.le_trans hs hq)⟩
  · simp [World.setCell, Array.getElem?_modify, h1.head]
  · injection e with e; subst e
    rw [h.v0 rfl]
    exact ⟨by simp [tagO], (SMap.made w).of_block (k _ (by omega))⟩
  · exact ⟨(h1.r1 q e).1, (h1.r1 q e).2.of_block (k q (kt q _ (h1.r1 q e).1 (by simp)))⟩
  · obtain ⟨h1', kv, h2, h3⟩ := h1.u1 q e
    refine ⟨h1', kv, h2.of_block (k q (kt q _ h1' (by simp))), fun n => ?_⟩
    rcases h3 n with h0 | ⟨v, g1, g2, g3⟩
    · exact .inl h0
    · exact .inr ⟨v, g1, own_keep g2 fun b hb => k b (kt b _ (g3 b hb) (by simp)), g3⟩
  · exact (h1.rs r hr).keepT (fun b t e ht => k b (kt b t e (by rcases ht with rfl | rfl | rfl <;> simp))) hs
end
theorem run_mkVals (w : World) : (Instr.makeMap 45 none).run Try.prog w = .ok (.map (some w.heap.size)) (w.alloc (.map #[] 0)) := rfl
theorem run_isnil_none (w : World) : (binOp .eql 45 (.map none) (.map none)).run Try.prog w = .ok (.bool true) w := by kernel_rfl
theorem run_isnil_some (b : Nat) (w : World) : (binOp .eql 45 (.map (some b)) (.map none)).run Try.prog w = .ok (.bool false) w := by kernel_rfl
theorem Gr.drewN {own : Own} {id gb : Nat} {S : GS} {w : World} (h : Gr own id gb S w) (q : Nat) : Gr own id gb S (w.drewN q) := h.below (below_of_drewN _ w q)
theorem B_nil (n : Nm) : (B n == ⟨#[]⟩) = decide (n = []) := by rw [show (⟨#[]⟩ : ByteArray) = B [] from rfl, B_beq]
theorem setX_name (S : GS) (v : Nm) : setX S [] v = (6, S) := by unfold setX; rw [if_pos rfl]
theorem setX_twice {S : GS} {n v : Nm} (hn : n ≠ []) {r : RuleS} (h : findR S.rules n = some r) : setX S n v = (7, S) := by unfold setX; rw [if_neg hn, h]; rfl
theorem setX_limit {S : GS} {n v : Nm} (hn : n ≠ []) (h : findR S.rules n = none) (hv : getV S.vals n = none) (hl : 1024 ≤ S.vals.length + S.rules.length) : setX S n v = (3, S) := by unfold setX; rw [if_neg hn, h, hv]; simp [hl]
theorem setX_same {S : GS} {n v : Nm} (hn : n ≠ []) (h : findR S.rules n = none) (hv : getV S.vals n = some v) : setX S n v = (0, S) := by unfold setX; rw [if_neg hn, h, hv]; simp
theorem setX_new {S : GS} {n v : Nm} (hn : n ≠ []) (h : findR S.rules n = none) (hv : getV S.vals n = none) (hl : ¬ 1024 ≤ S.vals.length + S.rules.length) : setX S n v = (0, touchX { S with vals := putV n v S.vals } n) := by unfold setX; rw [if_neg hn, h, hv]; simp [hl]
theorem setX_other {S : GS} {n v o : Nm} (hn : n ≠ []) (h : findR S.rules n = none) (hv : getV S.vals n = some o) (ho : o ≠ v) : setX S n v = (0, touchX { S with vals := putV n v S.vals } n) := by unfold setX; rw [if_neg hn, h, hv]; simp [ho]
theorem Ext.self (own : Own) (id : Nat) {M : Nat} (h : ∀ b, M ≤ b → own b = none) : Ext own own id M := Ext.refl own id M h
set_option maxHeartbeats 4000000 in
set_option maxRecDepth 100000 in
theorem set_any {own : Own} {id gb R : Nat} {S : GS} (n v : Nm) (w : World) (hgr : Gr own id gb S w) (hi : GI R S) (hc : S.changes ≤ 1000000) :
    Calls Try.prog 13 #[.pointer (some ⟨gb, 0, none⟩), .string (B n), .string (B v)] w (GPost own id gb (setX S n v).2 (.int .i64 ((setX S n v).1 : Int)) w) := by
  obtain ⟨X, hX⟩ : ∃ X, X = setX S n v := ⟨_, rfl⟩
  rw [← hX]
  have HX := Lib.hid hX
  clear hX
  have HGR := Lib.hid hgr
  have HSZ := Lib.hid hi.size
  have HRL : Hid (S.rules.length ≤ 10000) := Lib.hid (by have := hi.size; omega)
  obtain ⟨vm, rm, um, pt, U, h, hU⟩ := hgr
  have HU := Lib.hid hU
  have HH := Lib.hid h
  have hn0 := B_nil n
  have hnn := run_isnil_none
  have hns := run_isnil_some
  have HSELF : Hid (GPost own id gb S (.int .i64 (0 : Int)) w (.returned (.int .i64 (0 : Int))) w ∧ ∀ k : Nat, GPost own id gb S (.int .i64 (k : Int)) w (.returned (.int .i64 (k : Int))) w) := Lib.hid ⟨⟨rfl, own, Ext.refl own id _ h.fr, HGR.out, Kp.refl _ _ _⟩, fun k => ⟨rfl, own, Ext.refl own id _ h.fr, HGR.out, Kp.refl _ _ _⟩⟩
  by_cases hne : n = []
  · have HXX : Hid (X = (6, S)) := by rw [HX.out, hne, setX_name]; rfl
    have hd : decide (n = []) = true := by simpa using hne
    rw [hd] at hn0
    have hn1 : List.isEmpty n = true := by rw [hne]; rfl
    clear hd hne h hU
    go_enter Try.func13, Try.ntmps13
    go_wp2
    rw [HXX.out]
    go_ret
    exact HSELF.out.2 6
  · have hd : decide (n = []) = false := by simpa using hne
    rw [hd] at hn0
    have HN := Lib.hid hne
    have hn1 : List.isEmpty n = false := by cases n with | nil => exact absurd rfl hne | cons _ _ => rfl
    clear hd hne
    have c0 := h.c0
    have c1 := h.c1
    cases hr : findR S.rules n with
    | some r =>
      have HXX : Hid (X = (7, S)) := by rw [HX.out, setX_twice HN.out hr]; rfl
      have lr := h.lookR_some hr
      clear hr h hU
      go_enter Try.func13, Try.ntmps13
      go_wp2
      rw [HXX.out]
      go_ret
      exact HSELF.out.2 7
    | none =>
      have lr := h.lookR_none hr
      have lv := h.lookV n
      have HR := Lib.hid hr
      have z0 := h.free 0
      have HSC := Lib.hid (fun W (h : GW own id gb vm rm um pt S U W) => size_any W h (by have := HSZ.out; omega))
      clear hr
      cases hv : getV S.vals n with
      | none =>
        rw [hv] at lv
        simp only [Option.getD_none, Option.isSome_none] at lv
        by_cases hl : 1024 ≤ S.vals.length + S.rules.length
        · have HXX : Hid (X = (3, S)) := by rw [HX.out, setX_limit HN.out HR.out hv hl]; rfl
          have hge : decide ((((S.vals.length + S.rules.length : Nat) : Int)) ≥ 1024) = true := by simp; omega
          clear hv hl h hU
          generalize S.vals.length + S.rules.length = N at *
          go_enter Try.func13, Try.ntmps13
          go_wp2_with fail
          refine (HSC.out _ HH.out).mono ?_
          rintro e w1 ⟨rfl, q, rfl⟩
          go_wp2
          rw [HXX.out]
          go_ret
          exact ⟨rfl, own, Ext.refl own id _ HH.out.fr, HGR.out.drewN q, (Kp.refl own id w).drewN q⟩
        · have HXX : Hid (X = (0, touchX { S with vals := putV n v S.vals } n)) := by rw [HX.out, setX_new HN.out HR.out hv hl]; rfl
          have hge : decide ((((S.vals.length + S.rules.length : Nat) : Int)) ≥ 1024) = false := by simp; omega
          clear hv hl h hU
          generalize S.vals.length + S.rules.length = N at *
          go_enter Try.func13, Try.ntmps13
          go_wp2_with fail
          refine (HSC.out _ HH.out).mono ?_
          rintro e w1 ⟨rfl, q, rfl⟩
          have HW1 := Lib.hid (HH.out.below (below_of_drewN _ w q))
          have HK1 := Lib.hid ((Kp.refl own id w).drewN q)
          clear HSC HSELF lr lv z0 c0 c1
          have c0 := HW1.out.c0
          have z0 := HW1.out.free 0
          have hmk := run_mkVals
          go_upto_region 12 with fail
          generalize w.drewN q = w1 at HW1 HK1 c0 z0 ⊢
          rcases vm with _ | b
          · clear hn1
            have z0a := (HW1.out.alloc (.map #[] 0)).free 0
            have c0a := (HW1.out.alloc (.map #[] 0)).c0
            go_upto_region 14 with fail
            generalize hwm : (w1.alloc (.map #[] 0)).setCell ⟨gb, 0, none⟩ (.map (some w1.heap.size)) = w2
            have hgw2 := HW1.out.vnew
            rw [hwm] at hgw2
            have hkp2 : Kp own id w w2 := by rw [← hwm]; exact (HK1.out.alloc _).setCell (fun _ => ⟨_, HW1.out.gt⟩)
            have hext : Ext own (tagO own w1.heap.size (id, .vals)) id w.heap.size := (Ext.refl own id w.heap.size HH.out.fr).tagged HK1.out.size
            have hss : w1.heap.size < w2.heap.size := by rw [← hwm]; simp [World.setCell]
            have hkq : ∀ q, some w1.heap.size = some q → q < w.heap.size → Mine own id q := fun q e hq => by injection e with e; have := HK1.out.size; omega
            generalize tagO own w1.heap.size (id, .vals) = own1 at hgw2 hext
            generalize w1.heap.size = b at hgw2 hss hkq ⊢
            clear hwm
            have H2 := Lib.hid (And.intro hgw2 (And.intro hkp2 (And.intro hext hkq)))
            have k0 := hgw2.c0
            have hsm := (hgw2.v1 b rfl).2
            clear hgw2 hkp2 hext hkq HW1 HK1
            go_wp2_with (refine wpList_put rfl 45 9 9 _ _ _ rfl Try.underlying45 Try.underlying9 b (vkv S.vals) hsm rfl n rfl (.string (B v)) rfl ?_)
            intro w4 hm4 hg4
            rw [putM_vkv] at hm4
            have hgw4 := H2.out.1.vput hm4 hg4
            have hkp4 := H2.out.2.1.grown hg4 H2.out.2.2.2
            have H4 := Lib.hid (And.intro hgw4 hkp4)
            have CT := Lib.hid (touch_any n w4 hgw4 HU.out HRL.out hc)
            clear hm4 hg4 hgw4 hkp4 hsm k0
            go_wp2_with fail
            refine CT.out.mono ?_
            rintro e w5 ⟨rfl, hgw5, hkp5⟩
            have HF : Hid (GPost own id gb (touchX { S with vals := putV n v S.vals } n) (.int .i64 ((0 : Nat) : Int)) w (.returned (.int .i64 ((0 : Nat) : Int))) w5) := Lib.hid ⟨rfl, own1, H2.out.2.2.1, ⟨_, _, _, _, _, hgw5, fun m => (HU.out m).trans (markS_users _ S.rules m).symm⟩, H4.out.2.trans2 hkp5 H2.out.2.2.1⟩
            clear hgw5 hkp5 CT
            go_wp2
            rw [HXX.out]
            go_ret
            exact HF.out
          · clear hn1
            go_upto_region 14 with fail
            obtain ⟨own1, ho1⟩ : ∃ o, o = own := ⟨_, rfl⟩
            obtain ⟨w2, hw2⟩ : ∃ w2, w2 = w1 := ⟨_, rfl⟩
            subst hw2
            have hgw2 := HW1.out
            have hkp2 := HK1.out
            have hext : Ext own own1 id w.heap.size := by rw [ho1]; exact Ext.refl own id w.heap.size HH.out.fr
            have hkq : ∀ q, some b = some q → q < w.heap.size → Mine own id q := fun q e hq => by injection e with e; subst e; exact ⟨_, (HW1.out.v1 b rfl).1⟩
            rw [← ho1] at hgw2
            clear ho1
            have H2 := Lib.hid (And.intro hgw2 (And.intro hkp2 (And.intro hext hkq)))
            have k0 := hgw2.c0
            have hsm := (hgw2.v1 b rfl).2
            clear hgw2 hkp2 hext hkq HW1 HK1
            go_wp2_with (refine wpList_put rfl 45 9 9 _ _ _ rfl Try.underlying45 Try.underlying9 b (vkv S.vals) hsm rfl n rfl (.string (B v)) rfl ?_)
            intro w4 hm4 hg4
            rw [putM_vkv] at hm4
            have hgw4 := H2.out.1.vput hm4 hg4
            have hkp4 := H2.out.2.1.grown hg4 H2.out.2.2.2
            have H4 := Lib.hid (And.intro hgw4 hkp4)
            have CT := Lib.hid (touch_any n w4 hgw4 HU.out HRL.out hc)
            clear hm4 hg4 hgw4 hkp4 hsm k0
            go_wp2_with fail
            refine CT.out.mono ?_
            rintro e w5 ⟨rfl, hgw5, hkp5⟩
            have HF : Hid (GPost own id gb (touchX { S with vals := putV n v S.vals } n) (.int .i64 ((0 : Nat) : Int)) w (.returned (.int .i64 ((0 : Nat) : Int))) w5) := Lib.hid ⟨rfl, own1, H2.out.2.2.1, ⟨_, _, _, _, _, hgw5, fun m => (HU.out m).trans (markS_users _ S.rules m).symm⟩, H4.out.2.trans2 hkp5 H2.out.2.2.1⟩
            clear hgw5 hkp5 CT
            go_wp2
            rw [HXX.out]
            go_ret
            exact HF.out
      | some o =>
        rw [hv] at lv
        simp only [Option.getD_some, Option.isSome_some] at lv
        rcases vm with _ | b
        · exfalso
          rw [h.v0 rfl] at hv; cases hv
        by_cases ho : o = v
        · have HXX : Hid (X = (0, S)) := by rw [HX.out, setX_same HN.out HR.out (by rw [hv, ho])]; rfl
          have he : (B o == B v) = true := by rw [B_beq]; simpa using ho
          have he2 : (o == v) = true := by simpa using ho
          clear hv ho h hU
          go_enter Try.func13, Try.ntmps13
          go_wp2
          rw [HXX.out]
          go_ret
          exact HSELF.out.2 0
        · have HXX : Hid (X = (0, touchX { S with vals := putV n v S.vals } n)) := by rw [HX.out, setX_other HN.out HR.out hv ho]; rfl
          have he : (B o == B v) = false := by rw [B_beq]; simpa using ho
          have he2 : (o == v) = false := by simpa using ho
          clear hv ho h hU
          obtain ⟨w1, hw1⟩ : ∃ w1, w1 = w := ⟨_, rfl⟩
          have HW1 : Hid (GW own id gb (some b) rm um pt S U w1) := by rw [hw1]; exact HH
          have HK1 : Hid (Kp own id w w1) := by rw [hw1]; exact Kp.refl _ _ _
          go_enter Try.func13, Try.ntmps13
          go_upto_region 12 with fail
          rw [← hw1] at c0 z0
          change Code.wp _ _ _ _ w
          rw [← hw1]
          clear hw1 HSC HSELF lr lv c1 hn1
          go_upto_region 14 with fail
          obtain ⟨own1, ho1⟩ : ∃ o, o = own := ⟨_, rfl⟩
          obtain ⟨w2, hw2⟩ : ∃ w2, w2 = w1 := ⟨_, rfl⟩
          subst hw2
          have hgw2 := HW1.out
          have hkp2 := HK1.out
          have hext : Ext own own1 id w.heap.size := by rw [ho1]; exact Ext.refl own id w.heap.size HH.out.fr
          have hkq : ∀ q, some b = some q → q < w.heap.size → Mine own id q := fun q e hq => by injection e with e; subst e; exact ⟨_, (HW1.out.v1 b rfl).1⟩
          rw [← ho1] at hgw2
          clear ho1
          have H2 := Lib.hid (And.intro hgw2 (And.intro hkp2 (And.intro hext hkq)))
          have k0 := hgw2.c0
          have hsm := (hgw2.v1 b rfl).2
          clear hgw2 hkp2 hext hkq HW1 HK1
          go_wp2_with (refine wpList_put rfl 45 9 9 _ _ _ rfl Try.underlying45 Try.underlying9 b (vkv S.vals) hsm rfl n rfl (.string (B v)) rfl ?_)
          intro w4 hm4 hg4
          rw [putM_vkv] at hm4
          have hgw4 := H2.out.1.vput hm4 hg4
          have hkp4 := H2.out.2.1.grown hg4 H2.out.2.2.2
          have H4 := Lib.hid (And.intro hgw4 hkp4)
          have CT := Lib.hid (touch_any n w4 hgw4 HU.out HRL.out hc)
          clear hm4 hg4 hgw4 hkp4 hsm k0
          go_wp2_with fail
          refine CT.out.mono ?_
          rintro e w5 ⟨rfl, hgw5, hkp5⟩
          have HF : Hid (GPost own id gb (touchX { S with vals := putV n v S.vals } n) (.int .i64 ((0 : Nat) : Int)) w (.returned (.int .i64 ((0 : Nat) : Int))) w5) := Lib.hid ⟨rfl, own1, H2.out.2.2.1, ⟨_, _, _, _, _, hgw5, fun m => (HU.out m).trans (markS_users _ S.rules m).symm⟩, H4.out.2.trans2 hkp5 H2.out.2.2.1⟩
          clear hgw5 hkp5 CT
          go_wp2
          rw [HXX.out]
          go_ret
          exact HF.out
end Go.Proofs.Ytbikldmhfaecpaa
