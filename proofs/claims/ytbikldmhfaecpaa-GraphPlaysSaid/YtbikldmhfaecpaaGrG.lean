/-
  Layer 48 (graph): Get, Runs.
-/
import Derived.Test.YtbikldmhfaecpaaGrF
namespace Go.Proofs.Ytbikldmhfaecpaa
open Go.RowKit
set_option linter.unusedVariables false
set_option linter.unusedSimpArgs false
attribute [local go_sem] B_data B_size

/-- a graph is sound, and has run at most R functions -/
structure GI (R : Nat) (S : GS) : Prop where
  vals : ∀ n v, getV S.vals n = some v → v.length ≤ 1000
  rv : ∀ r ∈ S.rules, r.val.length ≤ 1000
  nm : (S.rules.map (·.name)).Nodup
  nb : ∀ r ∈ S.rules, r.busy = false
  needs : ∀ r ∈ S.rules, r.needs.length ≤ 10000
  size : S.vals.length + S.rules.length ≤ 1024
  runs : S.runs ≤ R
theorem GI.ei {R : Nat} {S : GS} (h : GI R S) : EI R 0 ⟨S, []⟩ := ⟨h.vals, h.rv, by simp, by simpa using h.runs, by simp, by simp, h.nm⟩
theorem GI.lim {R : Nat} {S : GS} (h : GI R S) : Lim ⟨S, []⟩ := ⟨by have := h.size; simp only; omega, fun r hr => by
  unfold skel at hr
  obtain ⟨q, hq, rfl⟩ := List.mem_map.1 hr
  exact h.needs q hq⟩
theorem users_skel (rs : List RuleS) (n : Nm) : usersOf (skel rs) n = usersOf rs n := users_map sk1 (fun r => ⟨rfl, rfl⟩) rs n
/-- a graph in memory, with its users -/
def Gr (own : Own) (id gb : Nat) (S : GS) (w : World) : Prop := ∃ vm rm um pt U, GW own id gb vm rm um pt S U w ∧ ∀ n, U n = usersOf S.rules n
theorem Gr.lt {own : Own} {id gb : Nat} {S : GS} {w : World} (h : Gr own id gb S w) : gb < w.heap.size := by obtain ⟨_, _, _, _, _, h, _⟩ := h; exact h.lt
theorem Gr.fr {own : Own} {id gb : Nat} {S : GS} {w : World} (h : Gr own id gb S w) : ∀ b, w.heap.size ≤ b → own b = none := by obtain ⟨_, _, _, _, _, h, _⟩ := h; exact h.fr
theorem Gr.below {own : Own} {id gb : Nat} {S : GS} {w w' : World} (h : Gr own id gb S w) (hb : Below w.heap.size w w') : Gr own id gb S w' := by
  obtain ⟨vm, rm, um, pt, U, h1, h2⟩ := h
  exact ⟨vm, rm, um, pt, U, h1.below hb, h2⟩
theorem Sk.gi {R R' : Nat} {E : ES} {S : GS} (k : Sk ⟨S, []⟩ E) (h : GI R S) (he : EI R 0 E) (hr : E.s.runs ≤ R') : GI R' E.s := by
  have hmem : ∀ r ∈ E.s.rules, ∃ q ∈ S.rules, sk1 r = sk1 q := fun r hr => by
    have := List.mem_map_of_mem (f := sk1) hr
    rw [show E.s.rules.map sk1 = skel E.s.rules from rfl, k.rules] at this
    obtain ⟨q, hq, e⟩ := List.mem_map.1 this
    exact ⟨q, hq, e.symm⟩
  refine ⟨he.vals, he.rv, he.nm, fun r hr => ?_, fun r hr => ?_, ?_, hr⟩
  · obtain ⟨q, hq, e⟩ := hmem r hr
    have := congrArg RuleS.busy e
    exact (show r.busy = q.busy from this).trans (h.nb q hq)
  · obtain ⟨q, hq, e⟩ := hmem r hr
    have := congrArg RuleS.needs e
    rw [show r.needs = q.needs from this]; exact h.needs q hq
  · have e : E.s.rules.length = S.rules.length := by have := congrArg List.length k.rules; simpa [skel] using this
    rw [k.vals, e]; exact h.size
/-- Get keeps a graph sound -/
theorem getX_gi {R : Nat} {S : GS} (h : GI R S) (n : Nm) : GI (R + 1024) (getX S n).1 ∧ (getX S n).1.vals = S.vals ∧ (getX S n).1.changes = S.changes ∧ skel (getX S n).1.rules = skel S.rules := by
  unfold getX
  split
  · exact ⟨⟨h.vals, h.rv, h.nm, h.nb, h.needs, h.size, by have := h.runs; simp only; omega⟩, rfl, rfl, rfl⟩
  · obtain ⟨i1, i2, i3⟩ := evalX_inv R (S.rules.length + 1) 0 ⟨S, []⟩ n h.ei
    have e : (evalX (S.rules.length + 1) ⟨S, []⟩ n).1.s.rules.length = S.rules.length := by have := congrArg List.length i2.rules; simpa [skel] using this
    refine ⟨i2.gi h i1 ?_, i2.vals, i2.changes, i2.rules⟩
    have := i1.runs
    have := i1.klen
    have := h.size
    omega
theorem run_mkKnown (w : World) : (Instr.makeMap 63 none).run Try.prog w = .ok (.map (some w.heap.size)) (w.alloc (.map #[] 0)) := rfl
set_option maxRecDepth 100000 in
theorem runs_any {own : Own} {id gb : Nat} {S : GS} (w : World) (h : Gr own id gb S w) :
    Calls Try.prog 19 #[.pointer (some ⟨gb, 0, none⟩)] w fun e w' => e = .returned (.int .i64 (S.runs : Int)) ∧ w' = w := by
  obtain ⟨vm, rm, um, pt, U, h, _⟩ := h
  have c3 := h.c3
  go_enter Try.func19, Try.ntmps19
  go_wp2
  go_ret
  exact ⟨rfl, rfl⟩
/-- what a call leaves of a graph -/
def GPost (own : Own) (id gb : Nat) (S' : GS) (v : Value) (w : World) (e : Ending) (w' : World) : Prop :=
  e = .returned v ∧ ∃ own', Ext own own' id w.heap.size ∧ Gr own' id gb S' w' ∧ Kp own id w w'
set_option maxHeartbeats 4000000 in
set_option maxRecDepth 100000 in
theorem get_any {own : Own} {id gb R : Nat} {S : GS} (n : Nm) (w : World) (hgr : Gr own id gb S w) (hi : GI R S) (hR : R ≤ 1000000) :
    Calls Try.prog 17 #[.pointer (some ⟨gb, 0, none⟩), .string (B n)] w (GPost own id gb (getX S n).1 (ResV (getX S n).2) w) := by
  obtain ⟨X, hX⟩ : ∃ X, X = getX S n := ⟨_, rfl⟩
  rw [← hX]
  have HX := Lib.hid hX
  clear hX
  have HGR := Lib.hid hgr
  have HI := Lib.hid hi
  obtain ⟨vm, rm, um, pt, U, h, hU⟩ := hgr
  have HU := Lib.hid hU
  have hb1 : Below w.heap.size w ((w.alloc (.map #[] 0)).alloc (.map #[] 0)) := (below_alloc w _).alloc (by simp) _
  have HW1 := Lib.hid (h.below hb1)
  have HB1 := Lib.hid hb1
  have s1 : (w.alloc (.map #[] 0)).heap.size = w.heap.size + 1 := by simp
  have m1 : SMap ((w.alloc (.map #[] 0)).alloc (.map #[] 0)) w.heap.size (seenM []) := (SMap.made w).alloc _
  have m2 : SMap ((w.alloc (.map #[] 0)).alloc (.map #[] 0)) (w.heap.size + 1) (seenM []) := by rw [← s1]; exact SMap.made _
  have C := Lib.hid (cyc_any (own := own) (id := id) (gb := gb) (vm := vm) (rm := rm) (um := um) (pt := pt) (S := S) (U := U) w.heap.size (w.heap.size + 1) (by omega) (h.fr _ (Nat.le_refl _)) (h.fr _ (Nat.le_succ _)) hi.needs (S.rules.length + 1) n [] [] _ (h.below hb1) (by simp) (by simp) m1 m2)
  have HFR := Lib.hid h.fr
  have hmk := run_mkSet
  have hmk2 := run_mkKnown
  clear hU h hi hb1 s1 m1 m2
  go_enter Try.func17, Try.ntmps17
  go_wp2_with fail
  refine C.out.mono ?_
  rintro e w2 ⟨rfl, hm2, hk2⟩
  have hB2 : Below w.heap.size w w2 := HB1.out.trans ⟨hk2.os, hk2.tape, hk2.output, hk2.size, fun i hi => hk2.block i (by simp; omega) (by omega)⟩
  have HB2 := Lib.hid hB2
  clear C hm2 hk2 hB2 HB1 HW1
  cases hcy : (cyc S.rules (S.rules.length + 1) [] [] n).1 with
  | true =>
    have HXX : Hid (X = (S, ([], 10))) := by rw [HX.out, getX, if_pos hcy]; rfl
    clear hcy
    go_wp2
    rw [HXX.out]
    unfold ResV
    go_ret2
    exact ⟨rfl, own, Ext.refl own id _ HFR.out, HGR.out.below HB2.out, Kp.of_below HB2.out⟩
  | false =>
    have HXX : Hid (X = ((evalX (S.rules.length + 1) ⟨S, []⟩ n).1.s, (evalX (S.rules.length + 1) ⟨S, []⟩ n).2)) := by rw [HX.out, getX, if_neg (by rw [hcy]; simp)]; rfl
    clear hcy
    obtain ⟨vm, rm, um, pt, U, h, hU⟩ := HGR.out
    have h2 := h.below HB2.out
    have c4 := h2.c4
    have hb3 : Below w2.heap.size w2 ((w2.alloc (.map #[] 0)).alloc (.cells #[.pointer (some ⟨gb, 0, none⟩), .int .i64 (S.changes : Int), .map (some w2.heap.size)] 65)) := (below_alloc w2 _).alloc (by simp) _
    have s1 : (w2.alloc (.map #[] 0)).heap.size = w2.heap.size + 1 := by simp
    have hrw : RW own gb (w2.heap.size + 1) w2.heap.size S.changes [] ((w2.alloc (.map #[] 0)).alloc (.cells #[.pointer (some ⟨gb, 0, none⟩), .int .i64 (S.changes : Int), .map (some w2.heap.size)] 65)) := by
      refine ⟨?_, (SMap.made w2).alloc _, h2.fr _ (Nat.le_succ _), h2.fr _ (Nat.le_refl _)⟩
      rw [← s1]; exact heap_alloc_new _ _
    have C := Lib.hid (eval_any (R := R) hR (S.rules.length + 1) own ⟨S, []⟩ n _ HI.out.ei HI.out.lim (h2.below hb3) hrw (Nat.succ_le_succ (nb_le _)))
    obtain ⟨i1, i2, i3⟩ := evalX_inv R (S.rules.length + 1) 0 ⟨S, []⟩ n HI.out.ei
    have HII := Lib.hid (And.intro i1 (And.intro i2 i3))
    have HB3 := Lib.hid (HB2.out.trans (hb3.mono HB2.out.size))
    have HS2 : Hid (w.heap.size ≤ w2.heap.size) := Lib.hid HB2.out.size
    have HUU := Lib.hid (fun (rs : List RuleS) (e : skel rs = skel S.rules) (n : Nm) => (hU n).trans (by rw [← users_skel, ← e, users_skel] : usersOf S.rules n = usersOf rs n))
    clear h h2 hb3 s1 hrw i1 i2 i3 hU
    generalize hev : evalX (S.rules.length + 1) ⟨S, []⟩ n = V at *
    clear hev
    obtain ⟨E2, y, e2⟩ := V
    go_upto_region 6 with fail
    generalize ((w2.alloc (.map #[] 0)).alloc (.cells #[.pointer (some ⟨gb, 0, none⟩), .int .i64 (S.changes : Int), .map (some w2.heap.size)] 65)) = w3 at C HB3 ⊢
    go_wp2_with fail
    refine C.out.mono ?_
    rintro e w4 ⟨rfl, own', hext, hgw, hrw, hke⟩
    simp only [resV]
    have HT7 := Lib.hid (heap_alloc_new w4 (.cells #[.string (B y), .int .i64 (e2 : Int)] 67))
    have hB5 := below_alloc w4 (.cells #[.string (B y), .int .i64 (e2 : Int)] 67)
    have hext2 : Ext own own' id w.heap.size := (Ext.refl own id w.heap.size HFR.out).trans hext HB3.out.size
    have hgr : Gr own' id gb E2.s (w4.alloc (.cells #[.string (B y), .int .i64 (e2 : Int)] 67)) := ⟨vm, rm, um, pt, U, hgw.below hB5, HUU.out E2.s.rules HII.out.2.1.rules⟩
    have hkp : Kp own id w (w4.alloc (.cells #[.string (B y), .int .i64 (e2 : Int)] 67)) := by
      refine Kp.step ⟨hke.os.trans HB3.out.os, hke.tape.trans HB3.out.tape, hke.output.trans HB3.out.output, Nat.le_trans HB3.out.size hke.size, fun i h1 h2 => (hke.block i (Nat.lt_of_lt_of_le h1 HB3.out.size) (fun m => ?_)).trans (HB3.out.block i h1)⟩ hB5
      rcases m with m | m
      · exact h2 m
      · have := HS2.out; omega
    have HF := Lib.hid (And.intro hext2 (And.intro hgr hkp))
    clear hB5 hext2 hgr hkp hgw hrw hke hext C c4
    go_upto_region 7 with fail
    generalize (w4.alloc (.cells #[.string (B y), .int .i64 (e2 : Int)] 67)) = w5 at HT7 HF ⊢
    generalize w4.heap.size = q7 at HT7 ⊢
    have g0 : w5.cell? ⟨q7, 0, none⟩ = some (.string (B y)) := by simp [World.cell?, HT7.out]
    have g1 : w5.cell? ⟨q7, 1, none⟩ = some (.int .i64 (e2 : Int)) := by simp [World.cell?, HT7.out]
    go_region
    go_wp2
    rw [HXX.out]
    unfold ResV
    go_ret2
    exact ⟨rfl, own', HF.out.1, HF.out.2.1.below (Below.refl _ _).drew, HF.out.2.2.drew⟩
end Go.Proofs.Ytbikldmhfaecpaa
