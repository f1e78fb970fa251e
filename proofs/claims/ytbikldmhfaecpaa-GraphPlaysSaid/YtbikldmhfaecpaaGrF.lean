/-
  Layer 48 (graph): evaluate.
-/
import Derived.Test.YtbikldmhfaecpaaGrE
namespace Go.Proofs.Ytbikldmhfaecpaa
open Go.RowKit
set_option linter.unusedVariables false
set_option linter.unusedSimpArgs false
attribute [local go_sem] B_data B_size

theorem tb_facts {q : Nat} {T : TypeId} {w5 : World} (htb : w5.heap[q]? = some (.cells #[.string ⟨#[]⟩, .int .i64 0] T (0, 0))) :
    w5.cell? ⟨q, 0, none⟩ = some (.string ⟨#[]⟩) ∧ w5.cell? ⟨q, 1, none⟩ = some (.int .i64 0) ∧ w5.frozen? ⟨q, 0, none⟩ = false ∧ w5.frozen? ⟨q, 1, none⟩ = false ∧
    Hid (∀ (s : ByteArray) (e : Int), ((w5.setCell ⟨q, 0, none⟩ (.string s)).setCell ⟨q, 1, none⟩ (.int .i64 e)).cell? ⟨q, 0, none⟩ = some (.string s) ∧ ((w5.setCell ⟨q, 0, none⟩ (.string s)).setCell ⟨q, 1, none⟩ (.int .i64 e)).cell? ⟨q, 1, none⟩ = some (.int .i64 e)) := by
  refine ⟨by simp [World.cell?, htb], by simp [World.cell?, htb], by simp [World.frozen?, htb], by simp [World.frozen?, htb], Lib.hid fun s e => ?_⟩
  have l1 : ((w5.setCell ⟨q, 0, none⟩ (.string s)).setCell ⟨q, 1, none⟩ (.int .i64 e)).heap[q]? = some (.cells #[.string s, .int .i64 e] T (0, 0)) := by simp [World.setCell, Array.getElem?_modify, htb]
  exact ⟨by simp [World.cell?, l1], by simp [World.cell?, l1]⟩
theorem applyX_inv {R f : Nat} {E : ES} {n : Nm} {r : RuleS} (h : EI R 0 E) (hr : findR E.s.rules n = some r) (needs : List Nm) :
    EI R 1 (applyX (evalX f) E n needs).1 ∧ Sk E (applyX (evalX f) E n needs).1 ∧ (applyX (evalX f) E n needs).2.1.length ≤ 1000 := by
  have hN := needsX_inv (fun E' => EI R 0 E' ∧ Sk E E') (evalX f) (fun E' m h' => ⟨(evalX_inv R f 0 E' m h'.1).1, h'.2.trans (evalX_inv R f 0 E' m h'.1).2.1⟩) needs E [] ⟨h, Sk.refl E⟩
  unfold applyX
  split
  · rename_i E' e he
    rw [he] at hN
    exact ⟨⟨hN.1.vals, hN.1.rv, hN.1.kn, by have := hN.1.runs; simp only at this ⊢; omega, hN.1.nd, hN.1.fr, hN.1.nm⟩, hN.2, by simp⟩
  · rename_i E' inn he
    rw [he] at hN
    obtain ⟨r2, hr2, _⟩ := hN.2.find hr
    obtain ⟨c1, c2, c3, c4, c5, c6⟩ := callX_inv (inn := inn) hr2 hN.1.rv
    have hsk : Sk E' { E' with s := (callX E'.s n inn).1 } := ⟨c1, c2, c3⟩
    refine ⟨⟨fun m v hm => hN.1.vals m v (by rw [← c1]; exact hm), c5, hN.1.kn, by have := hN.1.runs; simp only at this c4 ⊢; omega, hN.1.nd, fun p hp => ?_, ?_⟩, hN.2.trans hsk, c6⟩
    · obtain ⟨q, q1, q2⟩ := hN.1.fr p hp
      obtain ⟨q', q3, q4⟩ := hsk.find q1
      exact ⟨q', q3, by have := congrArg RuleS.busy q4; simpa [sk1, q2] using this⟩
    · have e := skel_names (callX E'.s n inn).1.rules
      rw [c3, skel_names] at e
      rw [← e]; exact hN.1.nm
theorem EI.fresh {R k : Nat} {E : ES} (h : EI R k E) {n : Nm} {r : RuleS} (hr : findR E.s.rules n = some r) (hb : r.busy = true) : lookK n E.known = none := by
  cases hk : lookK n E.known with
  | none => rfl
  | some a =>
    obtain ⟨q, q1, q2⟩ := h.fr _ (lookK_mem hk)
    rw [hr] at q1; injection q1 with q1; rw [q1, q2] at hb; cases hb
theorem known_snoc {K : List (Nm × Res)} {n : Nm} {a : Res} (h : lookK n K = none) : putM n (resV a) (knownM K) = knownM (K ++ [(n, a)]) := by
  rw [putM_new (by rw [lookL_known, h]; rfl)]; simp [knownM]
theorem Lim.begun {E : ES} (h : Lim E) (n : Nm) : Lim { E with s := begunX E.s n } := by
  refine ⟨by simp only [begunX, modR, List.length_map]; exact h.n, fun r hr => ?_⟩
  simp only [begunX] at hr
  rw [skel_beg] at hr
  unfold modR at hr
  obtain ⟨q, hq, rfl⟩ := List.mem_map.1 hr
  split <;> exact h.needs q hq
theorem begunX_eq (S : GS) (n : Nm) : ({ ({ S with rules := modR n (fun r => { r with busy := true }) S.rules } : GS) with rules := modR n (fun r => { r with stale := false }) (modR n (fun r => { r with busy := true }) S.rules) } : GS) = begunX S n := by
  unfold begunX
  rw [modR_modR S.rules n (fun r => { r with busy := true }) (fun r => { r with stale := false }) (fun _ => rfl)]
/-- the world while a name is evaluated -/
structure AV (own : Own) (id gb : Nat) (vm rm um : Option Nat) (pt : Nm → PtI) (U : Nm → List Nm) (wb kb : Nat) (own1 : Own) (S : GS) (K : List (Nm × Res)) (w wr : World) : Prop where
  gw : GW own1 id gb vm rm um pt S U wr
  rw : RW own1 gb wb kb S.changes K wr
  tb : wr.heap[w.heap.size]? = some (.cells #[.string ⟨#[]⟩, .int .i64 0] 67 (0, 0))
  ke : KE own id kb w wr
  ot : own1 w.heap.size = none
  ext : Ext own own1 id w.heap.size
  hw : wb < w.heap.size
  hk : kb < w.heap.size
section
variable {own : Own} {id gb : Nat} {vm rm um : Option Nat} {pt : Nm → PtI} {U : Nm → List Nm} {wb kb : Nat} {own1 : Own} {S : GS} {K : List (Nm × Res)} {w wr w' : World}
theorem AV.below (h : AV own id gb vm rm um pt U wb kb own1 S K w wr) (hb : Below wr.heap.size wr w') : AV own id gb vm rm um pt U wb kb own1 S K w w' :=
  ⟨h.gw.below hb, h.rw.below hb, (hb.block _ (Array.getElem?_eq_some_iff.1 h.tb).1).trans h.tb, KE.step h.ke hb, h.ot, h.ext, h.hw, h.hk⟩
theorem AV.put (h : AV own id gb vm rm um pt U wb kb own1 S K w wr) {q i : Nat} {u : Value} {S' : GS} (hq : Mine own1 id q) (hc : S'.changes = S.changes) (hg : GW own1 id gb vm rm um pt S' U (wr.setCell ⟨q, i, none⟩ u)) : AV own id gb vm rm um pt U wb kb own1 S' K w (wr.setCell ⟨q, i, none⟩ u) := by
  have hne : ∀ b, own1 b = none → q ≠ b := fun b hb e => by obtain ⟨t, ht⟩ := hq; rw [e, hb] at ht; cases ht
  refine ⟨hg, by rw [hc]; exact h.rw.other (hne _ h.rw.ow) (hne _ h.rw.ok) _, (Below.heap_setCell wr _ _ _ (fun e => hne _ h.ot e.symm)).trans h.tb, KE.setCell h.ke (fun hl => .inl ((h.ext.mine hl).1 hq)), h.ot, h.ext, h.hw, h.hk⟩
theorem AV.fin {E : ES} (h : AV own id gb vm rm um pt U wb kb own1 E.s E.known w wr) (r : Res) : EPost own id gb vm rm um pt U wb kb E r w (.returned (resV r)) ((wr.setCell ⟨w.heap.size, 0, none⟩ (.string (B r.1))).setCell ⟨w.heap.size, 1, none⟩ (.int .i64 (r.2 : Int))) :=
  EPost.fin h.gw h.rw h.ext h.ke h.ot h.hk h.hw r
end
theorem evalX_val {f : Nat} {E : ES} {n v : Nm} (h : getV E.s.vals n = some v) : evalX (f + 1) E n = (E, (v, 0)) := by unfold evalX; rw [h]
theorem evalX_key {f : Nat} {E : ES} {n : Nm} (h : getV E.s.vals n = none) (hr : findR E.s.rules n = none) : evalX (f + 1) E n = (E, ([], 13)) := by unfold evalX; rw [h, hr]
theorem evalX_known {f : Nat} {E : ES} {n : Nm} {r : RuleS} {a : Res} (h : getV E.s.vals n = none) (hr : findR E.s.rules n = some r) (hk : lookK n E.known = some a) : evalX (f + 1) E n = (E, a) := by unfold evalX; rw [h, hr]; simp only [hk]
theorem evalX_busy {f : Nat} {E : ES} {n : Nm} {r : RuleS} (h : getV E.s.vals n = none) (hr : findR E.s.rules n = some r) (hk : lookK n E.known = none) (hb : r.busy = true) : evalX (f + 1) E n = (E, ([], 10)) := by unfold evalX; rw [h, hr]; simp only [hk, if_pos hb]
theorem evalX_new {f : Nat} {E : ES} {n : Nm} {r : RuleS} (h : getV E.s.vals n = none) (hr : findR E.s.rules n = some r) (hk : lookK n E.known = none) (hb : r.busy = false) (A : ES × Res) (hA : applyX (evalX f) { E with s := begunX E.s n } n r.needs = A) : evalX (f + 1) E n = ({ s := endedX A.1.s n, known := A.1.known ++ [(n, A.2)] }, A.2) := by
  unfold evalX; rw [h, hr]; simp only [hk, hb, Bool.false_eq_true, if_false, hA]
set_option maxHeartbeats 8000000 in
set_option maxRecDepth 100000 in
theorem eval_any {R id gb : Nat} {vm rm um : Option Nat} {pt : Nm → PtI} {U : Nm → List Nm} {wb kb : Nat} (hR : R ≤ 1000000) : ∀ f, EvalOk R id gb vm rm um pt U wb kb f := by
  intro f
  induction f with
  | zero => intro own E n w _ _ _ _ h; omega
  | succ f ih =>
    intro own E n w hE hL hgw hrw hf
    obtain ⟨RES, hRES⟩ : ∃ X, X = evalX (f + 1) E n := ⟨_, rfl⟩
    rw [← hRES]
    have HRES := Lib.hid hRES
    clear hRES
    have hst := below_alloc w (.cells #[.string ⟨#[]⟩, .int .i64 0] 67)
    have hgw1 := hgw.below hst
    have hrw1 := hrw.below hst
    have p0 := hrw1.c0
    have c0 := hgw1.c0
    have lv := hgw1.lookV n
    have htb : (w.alloc (.cells #[.string ⟨#[]⟩, .int .i64 0] 67)).heap[w.heap.size]? = some (.cells #[.string ⟨#[]⟩, .int .i64 0] 67 (0, 0)) := heap_alloc_new w _
    have hke1 : KE own id kb w (w.alloc (.cells #[.string ⟨#[]⟩, .int .i64 0] 67)) := KE.step (Kr.refl _ w) hst
    have hot : own w.heap.size = none := hgw.fr _ (Nat.le_refl _)
    have hext := Ext.refl own id w.heap.size hgw.fr
    have hwb := hrw.lt1
    have hkb := hrw.lt2
    clear hst
    go_enter Try.func35, Try.ntmps35
    go_upto_region 1 with fail
    generalize (w.alloc (.cells #[.string ⟨#[]⟩, .int .i64 0] 67)) = w1 at hgw1 hrw1 p0 c0 lv htb hke1 ⊢
    obtain ⟨m0, m1, z0, z1, HK⟩ := tb_facts htb
    have HG := Lib.hid (And.intro hgw1 (And.intro hrw1 (And.intro htb hke1)))
    have HO := Lib.hid (And.intro hot (And.intro hext (And.intro hwb hkb)))
    have HE := Lib.hid (And.intro hE (And.intro hL hf))
    have HF0 := Lib.hid (fun r => EPost.fin (own := own) (E := E) hgw1 hrw1 hext hke1 hot hkb hwb r)
    have HIH := Lib.hid ih
    have q1 := hgw1.c1
    clear hgw1 hrw1 htb hke1 hext hwb hkb hE hL hf hgw hrw ih
    cases hv : getV E.s.vals n with
    | some v =>
      rw [hv] at lv
      have HR1 : Hid (RES = (E, (v, 0))) := by rw [HRES.out, evalX_val hv]; rfl
      have HF := Lib.hid (HF0.out (v, 0))
      clear hv HF0
      have hK := HK.out (B v) 0
      have HK2 := Lib.hid hK
      clear hK HK
      go_wp2
      rw [HR1.out]
      exact bodyPost_ret (v := .agg #[.string (B v), .int .i64 0]) (by simp [results, Try.results35, go_sem, HK2.out.1, HK2.out.2]) rfl HF.out
    | none =>
      rw [hv] at lv
      cases hr : findR E.s.rules n with
      | none =>
        have HR1 : Hid (RES = (E, ([], 13))) := by rw [HRES.out, evalX_key hv hr]; rfl
        have lr := HG.out.1.lookR_none hr
        have HF := Lib.hid (HF0.out ([], 13))
        have hK := HK.out ⟨#[]⟩ 13
        have HK2 := Lib.hid hK
        clear hK HK hv HF0
        go_wp2
        rw [HR1.out]
        exact bodyPost_ret (v := .agg #[.string ⟨#[]⟩, .int .i64 13]) (by simp [results, Try.results35, go_sem, HK2.out.1, HK2.out.2]) rfl HF.out
      | some r =>
        have lr := HG.out.1.lookR_some hr
        have hat := HG.out.1.rule hr
        have lk := HG.out.2.1.look n
        have k1 := HG.out.2.1.c1
        have k2 := HG.out.2.1.c2
        have g4 := HG.out.1.c4
        clear HF0 HK m0 m1 z0 z1
        have HV := Lib.hid (And.intro hv hr)
        have HKN := Lib.hid (below_alloc w1.drew)
        go_upto_region 8 with fail
        clear lv
        go_region
        have HA := Lib.hid ((⟨HG.out.1, HG.out.2.1, HG.out.2.2.1, HG.out.2.2.2, HO.out.1, HO.out.2.1, HO.out.2.2.1, HO.out.2.2.2⟩ : AV own id gb vm rm um pt U wb kb own E.s E.known w w1).below (Below.refl _ _).drew)
        clear HG HO hat lk k1 k2 g4 p0 c0 q1 lr HKN hv hr
        generalize w1.drew = w2 at HA ⊢
        have lk := HA.out.rw.look n
        have k2 := HA.out.rw.c2
        have hbA := fun (r : Res) => below_alloc w2 (.cells #[.string (B r.1), .int .i64 (r.2 : Int)] 67)
        cases hk : lookK n E.known with
        | some a =>
          obtain ⟨y, e2⟩ := a
          have HR1 : Hid (RES = (E, (y, e2))) := by rw [HRES.out, evalX_known HV.out.1 HV.out.2 hk]; rfl
          rw [hk] at lk
          simp only [resV, Option.getD_some, Option.isSome_some] at lk
          have HA3 := Lib.hid (HA.out.below (hbA (y, e2)))
          have HT9 := Lib.hid (heap_alloc_new w2 (.cells #[.string (B y), .int .i64 (e2 : Int)] 67))
          clear hbA hk HA
          go_upto_region 11 with fail
          generalize (w2.alloc (.cells #[.string (B y), .int .i64 (e2 : Int)] 67)) = w3 at HA3 HT9 ⊢
          generalize w2.heap.size = q9 at HT9 ⊢
          have g0 : w3.cell? ⟨q9, 0, none⟩ = some (.string (B y)) := by simp [World.cell?, HT9.out]
          have g1 : w3.cell? ⟨q9, 1, none⟩ = some (.int .i64 (e2 : Int)) := by simp [World.cell?, HT9.out]
          obtain ⟨m0, m1, z0, z1, HK⟩ := tb_facts HA3.out.tb
          have HF := Lib.hid (HA3.out.fin (y, e2))
          have HK2 := Lib.hid (HK.out (B y) (e2 : Int))
          clear HK lk k2
          go_wp2
          rw [HR1.out]
          exact bodyPost_ret (v := .agg #[.string (B y), .int .i64 (e2 : Int)]) (by simp [results, Try.results35, go_sem, HK2.out.1, HK2.out.2]) rfl HF.out
        | none =>
          rw [hk] at lk
          simp only [resV, Option.getD_none, Option.isSome_none] at lk
          have HA3 := Lib.hid (HA.out.below (hbA ([], 0)))
          have HKN := Lib.hid hk
          clear hbA hk HA
          go_upto_region 11 with fail
          generalize (w2.alloc (.cells #[.string (B ([] : Nm)), .int .i64 0] 67)) = w3 at HA3 ⊢
          clear lk k2
          have hat := HA3.out.gw.rule HV.out.2
          have x7 := hat.c7
          have x6 := hat.c6
          have z7 := hat.free 7
          have z6 := hat.free 6
          cases hb : r.busy with
          | true =>
            have HR1 : Hid (RES = (E, ([], 10))) := by rw [HRES.out, evalX_busy HV.out.1 HV.out.2 HKN.out hb]; rfl
            rw [hb] at x7
            obtain ⟨m0, m1, z0, z1, HK⟩ := tb_facts HA3.out.tb
            have HF := Lib.hid (HA3.out.fin ([], 10))
            have HK2 := Lib.hid (HK.out ⟨#[]⟩ 10)
            clear HK hat hb
            go_wp2
            rw [HR1.out]
            exact bodyPost_ret (v := .agg #[.string ⟨#[]⟩, .int .i64 10]) (by simp [results, Try.results35, go_sem, HK2.out.1, HK2.out.2]) rfl HF.out
          | false =>
            rw [hb] at x7
            have HB := Lib.hid hb
            -- busy, not stale
            have hA4 := HA3.out.put (S' := { E.s with rules := modR n (fun r => { r with busy := true }) E.s.rules }) ⟨_, hat.tag⟩ rfl (HA3.out.gw.busied HV.out.2 true)
            have hf4 : findR (modR n (fun r => { r with busy := true }) E.s.rules) n = some { r with busy := true } := by
              rw [findR_modR _ _ _ (fun r => { r with busy := true }) (fun _ => rfl), HV.out.2]; simp
            have hA5 := hA4.put (S' := begunX E.s n) ⟨_, (hA4.gw.rule hf4).tag⟩ rfl (by rw [← begunX_eq]; exact hA4.gw.staled hf4 false)
            have HA5 := Lib.hid hA5
            have hf5 : findR (begunX E.s n).rules n = some { r with busy := true, stale := false } := by
              simp only [begunX]; rw [findR_beg, HV.out.2]; simp
            have hei := begun_inv HE.out.1 HV.out.2 HKN.out
            have hli := HE.out.2.1.begun n
            have hnb : nb (begunX E.s n).rules + 1 ≤ f := by
              have := nb_begun HV.out.2 hb (fun r => { r with busy := true, stale := false }) (fun _ => rfl)
              have h2 := HE.out.2.2
              simp only [begunX]; omega
            have hinv := applyX_inv (f := f) hei hf5 r.needs
            have HI := Lib.hid hinv
            have HC := Lib.hid (fun (W : World) (h : AV own id gb vm rm um pt U wb kb own (begunX E.s n) E.known w W) => apply_any hR HIH.out own { E with s := begunX E.s n } n { r with busy := true, stale := false } W hei hli h.gw h.rw hnb hf5)
            have HF5 := Lib.hid hf5
            have HXN := Lib.hid (fun A => evalX_new (f := f) HV.out.1 HV.out.2 HKN.out hb A)
            clear hA4 hf4 hA5 hei hli hnb hinv hf5 hat HA3 hb
            go_upto_region 16 with fail
            generalize hw5 : World.setCell (World.setCell w3 _ _) _ _ = w5 at HA5 ⊢
            clear hw5 x7 x6 z7 z6
            have g4 : w5.cell? ⟨gb, 4, none⟩ = some (.int .i64 (E.s.changes : Int)) := HA5.out.gw.c4
            have CC := Lib.hid (HC.out w5 HA5.out)
            clear HC
            go_wp2_with fail
            refine CC.out.mono ?_
            clear CC
            rintro e w6 ⟨rfl, own2, hext2, hgw2, hrw2, hke2⟩
            generalize hA : applyX (evalX f) { E with s := begunX E.s n } n r.needs = A at *
            have hRES : RES = ({ s := endedX A.1.s n, known := A.1.known ++ [(n, A.2)] }, A.2) := by rw [HRES.out]; exact HXN.out A rfl
            clear hA HXN
            obtain ⟨E2, y, e2⟩ := A
            have HR1 := Lib.hid hRES
            clear hRES
            simp only [resV]
            have htb6 : w6.heap[w.heap.size]? = some (.cells #[.string ⟨#[]⟩, .int .i64 0] 67 (0, 0)) := by
              rw [hke2.same (Array.getElem?_eq_some_iff.1 HA5.out.tb).1 HA5.out.ot (by have := HA5.out.hk; omega)]; exact HA5.out.tb
            have av6 : AV own id gb vm rm um pt U wb kb own2 E2.s E2.known w w6 :=
              ⟨hgw2, hrw2, htb6, KE.trans2 HA5.out.ke hke2 HA5.out.ext, by rw [hext2.old _ (Array.getElem?_eq_some_iff.1 HA5.out.tb).1]; exact HA5.out.ot, HA5.out.ext.trans hext2 HA5.out.ke.size, HA5.out.hw, HA5.out.hk⟩
            have HA7 := Lib.hid (av6.below (below_alloc w6 (.cells #[.string (B y), .int .i64 (e2 : Int)] 67)))
            have HT12 := Lib.hid (heap_alloc_new w6 (.cells #[.string (B y), .int .i64 (e2 : Int)] 67))
            have HQ : Hid (own2 w6.heap.size = none) := Lib.hid (hgw2.fr _ (Nat.le_refl _))
            have HQ2 : Hid (kb < w6.heap.size) := Lib.hid hrw2.lt2
            obtain ⟨r2, hr2, hs2⟩ := HI.out.2.1.find HF5.out
            have HR2 := Lib.hid hr2
            have HB2 : Hid (r2.busy = true) := by have := congrArg RuleS.busy hs2; exact this
            have hch : E2.s.changes = E.s.changes := HI.out.2.1.changes
            have HFRESH := Lib.hid (HI.out.1.fresh hr2 HB2.out)
            clear htb6 av6 hext2 hgw2 hrw2 hke2 hr2 hs2 HA5 HF5 g4
            go_upto_region 18 with fail
            generalize (w6.alloc (.cells #[.string (B y), .int .i64 (e2 : Int)] 67)) = w7 at HA7 HT12 ⊢
            generalize w6.heap.size = q12 at HT12 HQ HQ2 ⊢
            have hat7 := HA7.out.gw.rule HR2.out
            have x7 := hat7.c7
            have z7 := hat7.free 7
            have av8 := HA7.out.put (S' := endedX E2.s n) ⟨_, hat7.tag⟩ rfl (HA7.out.gw.busied HR2.out false)
            have ht8 := (Below.heap_setCell w7 ⟨(pt n).p, 7, none⟩ (.bool false) q12 (fun e => by have e : q12 = (pt n).p := e; have := hat7.tag; rw [← e, HQ.out] at this; cases this)).trans HT12.out
            have HA8 := Lib.hid (And.intro av8 ht8)
            clear av8 ht8 hat7 HA7 HT12
            go_upto_region 19 with fail
            generalize w7.setCell ⟨(pt n).p, 7, none⟩ (.bool false) = w8 at HA8 ⊢
            clear x7 z7
            have p1 : w8.cell? ⟨wb, 1, none⟩ = some (.int .i64 (E.s.changes : Int)) := by rw [← hch]; exact HA8.out.1.rw.c1
            have p4 : w8.cell? ⟨gb, 4, none⟩ = some (.int .i64 (E.s.changes : Int)) := by rw [← hch]; exact HA8.out.1.gw.c4
            go_region
            have HA9 := Lib.hid (And.intro (HA8.out.1.below (Below.refl _ _).drew) (show w8.drew.heap[q12]? = _ from HA8.out.2))
            clear HA8 p1 p4
            generalize w8.drew = w9 at HA9 ⊢
            have k2 := HA9.out.1.rw.c2
            have g0 : w9.cell? ⟨q12, 0, none⟩ = some (.string (B y)) := by simp [World.cell?, HA9.out.2]
            have g1 : w9.cell? ⟨q12, 1, none⟩ = some (.int .i64 (e2 : Int)) := by simp [World.cell?, HA9.out.2]
            have HA9d := Lib.hid (HA9.out.1.below (Below.refl w9.heap.size w9).drew)
            obtain ⟨w10, hrun, hm10, hg10⟩ := SMap.store (T := 63) (K := 9) (E := 67) Try.underlying63 Try.underlying9 HA9d.out.rw.map n (resV (y, e2))
            rw [known_snoc HFRESH.out] at hm10
            simp only [resV] at hrun
            have HM10 := Lib.hid (And.intro hm10 hg10)
            clear hm10 hg10
            go_upto_region 20 with fail
            go_region
            have hg := HM10.out.2
            have A9 := HA9d.out
            have hkbo : own2 kb = none := A9.rw.ok
            have av10 : AV own id gb vm rm um pt U wb kb own2 (endedX E2.s n) (E2.known ++ [(n, (y, e2))]) w w10 :=
              ⟨A9.gw.grown hg (fun q e => by injection e with e; rw [← e]; exact hkbo), ⟨(hg.block _ A9.rw.lt1 (fun e => by injection e with e; exact A9.rw.ne e)).trans A9.rw.head, HM10.out.1, A9.rw.ow, A9.rw.ok⟩,
               (hg.block _ (Array.getElem?_eq_some_iff.1 A9.tb).1 (fun e => by injection e with e; have := A9.hk; omega)).trans A9.tb, KE.grown A9.ke hg (fun q e _ => by injection e with e; exact .inr e.symm), A9.ot, A9.ext, A9.hw, A9.hk⟩
            have ht10 : w10.heap[q12]? = some (.cells #[.string (B y), .int .i64 (e2 : Int)] 67 (0, 0)) :=
              (hg.block _ (Array.getElem?_eq_some_iff.1 HA9.out.2).1 (fun e => by injection e with e; have := HQ2.out; omega)).trans HA9.out.2
            have o0 : w10.cell? ⟨q12, 0, none⟩ = some (.string (B y)) := by simp [World.cell?, ht10]
            have o1 : w10.cell? ⟨q12, 1, none⟩ = some (.int .i64 (e2 : Int)) := by simp [World.cell?, ht10]
            obtain ⟨m0, m1, z0, z1, HK⟩ := tb_facts av10.tb
            have HF := Lib.hid ((show AV own id gb vm rm um pt U wb kb own2 ({ s := endedX E2.s n, known := E2.known ++ [(n, (y, e2))] } : ES).s ({ s := endedX E2.s n, known := E2.known ++ [(n, (y, e2))] } : ES).known w w10 from av10).fin (y, e2))
            have HK2 := Lib.hid (HK.out (B y) (e2 : Int))
            clear HK av10 ht10 A9 hg hkbo g0 g1 k2 hrun HM10 HA9 HA9d
            go_wp2
            rw [HR1.out]
            exact bodyPost_ret (v := .agg #[.string (B y), .int .i64 (e2 : Int)]) (by simp [results, Try.results35, go_sem, HK2.out.1, HK2.out.2]) rfl HF.out
end Go.Proofs.Ytbikldmhfaecpaa
