/-
  Layer 49 (project): one line behind the first five: the program's.
-/
import Derived.Test.YtmkenekngaihhaaGreatDoorPjR
namespace Go.Proofs.YtmkenekngaihhaaGreatDoor
open Go.RowKit
set_option linter.unusedVariables false
set_option linter.unusedSimpArgs false
attribute [local go_sem] B_data B_size

theorem pret_un {o : Option (List UInt8 × List UInt8)} {w w' : World} {e : Ending} (h : PRet o w e w') : ∃ (x y : List UInt8) (b : Bool), e = .returned (.tuple #[.agg #[.string (B x), .string (B y)], .bool b]) ∧ Below w.heap.size w w' ∧ (if b = true then o = some (x, y) else o = none) := by
  obtain ⟨h1, h2⟩ := h
  cases o with
  | none => obtain ⟨x, y, rfl⟩ := h1; exact ⟨x.toList, y.toList, false, by rw [B_self, B_self], h2, rfl⟩
  | some v => exact ⟨v.1, v.2, true, h1, h2, rfl⟩
theorem tret_un {o : Option Tg} {w w' : World} {e : Ending} (h : TRet o w e w') : ∃ (t : Tg) (b : Bool), e = .returned (.tuple #[.agg #[.string (B t.nm), .string (B t.kd), .int .i64 t.pg, .int .i64 t.wd], .bool b]) ∧ Below w.heap.size w w' ∧ (if b = true then o = some t else o = none) := by
  obtain ⟨h1, h2⟩ := h
  cases o with
  | none => obtain ⟨x, y, a, b, rfl⟩ := h1; exact ⟨⟨x.toList, y.toList, a, b⟩, false, by rw [B_self, B_self], h2, rfl⟩
  | some t => exact ⟨t, true, h1, h2, rfl⟩
/-- what a line leaves -/
def MPost (base q : Nat) (p : Pj) (l : List UInt8) (st : Nat) (W : World) (e : Ending) (w' : World) : Prop :=
  ∃ (st' : Nat) (b : Bool), e = .returned (.tuple #[.int .i64 (st' : Int), .bool b]) ∧ Kq base q W w' ∧
    (if b = true then ∃ p' vA vF vT, moreP p l st = some (p', st') ∧ PB q p' vA vF vT w' ∧ PV base p' vA vF vT w' else moreP p l st = none)
theorem mpost_no {base q : Nat} {p : Pj} {l : List UInt8} {st : Nat} {W w' : World} (n : Nat) (h : Hid (moreP p l st = none)) (hk : Kq base q W w') : MPost base q p l st W (.returned (.tuple #[.int .i64 (n : Int), .bool false])) w' := ⟨n, false, rfl, hk, h.out⟩
theorem has_sp_any (s : ByteArray) (w : World) : Calls Tryz.prog 47 #[.string s, .string ⟨#[32]⟩] w fun e w' => e = .returned (.bool (decide (32 ∈ s.toList))) ∧ w = w' :=
  (Tryz.strings_Contains_one s 32 w).mono fun e w' ⟨h1, h2⟩ => ⟨by rw [h1, contains_one, toList_data], h2.symm⟩
theorem prF_one (v : List UInt8 × List UInt8) : ∀ u ∈ prF v, u.oneCell' = true := by
  intro u hu
  simp only [prF, List.mem_cons, List.not_mem_nil, or_false] at hu
  rcases hu with rfl | rfl <;> rfl
set_option maxHeartbeats 8000000 in
set_option maxRecDepth 100000 in
theorem pmore_any (base q : Nat) (p : Pj) (vA vF vT : Value) (l : List UInt8) (st : Nat) (W : World) (hB : PB q p vA vF vT W) (hV : PV base p vA vF vT W) (hq : q < base) (hl : l.length ≤ 1000000000) (hsz : p.vs.length ≤ 1000000 ∧ p.fs.length ≤ 1000000 ∧ p.ts.length ≤ 1000000) (hG : Fil.Glob W) :
    Calls Tryz.prog 37 #[.pointer (some ⟨q, 0, none⟩), .string (B l), .int .i64 (st : Int)] W (MPost base q p l st W) := by
  have HC := Lib.hid (cutSp_any l W hl hG)
  have hW0 := Kq.refl base q W
  have hle := hV.le
  rcases cut_sp l with ⟨h1, h2⟩ | ⟨w0, r, h1, hlr, h2⟩
  · have HX := Lib.hid (more_nosp (p := p) (st := st) h1)
    rw [h2] at HC
    clear h1 h2
    go_enter Tryz.func37, Tryz.ntmps37
    go_wp2_with fail
    refine HC.out.mono ?_
    rintro e w1 ⟨rfl, k, rfl⟩
    go_wp2
    go_ret2
    exact mpost_no st HX (hW0.drewN k)
  have HM := Lib.hid (hlr ▸ more_eq p w0 r st h1 : moreP p l st = _)
  have hrl : r.length ≤ 1000000000 := by rw [hlr] at hl; simp at hl; omega
  rw [h2] at HC
  clear h1 h2 hlr
  by_cases hv : w0 = [118, 97, 114] ∧ st = 0
  · obtain ⟨rfl, rfl⟩ := hv
    have HM : Hid (moreP p l 0 = (varP [] r).map fun v => ({ p with vs := p.vs ++ [v] }, 0)) := by rw [HM.out, if_pos ⟨rfl, rfl⟩]; rfl
    have HVA := Lib.hid (fun k => variable_any r (W.drewN k) hrl hG)
    go_enter Tryz.func37, Tryz.ntmps37
    go_wp2_with fail
    refine HC.out.mono ?_
    rintro e w1 ⟨rfl, k, rfl⟩
    go_wp2_with fail
    refine (HVA.out k).mono ?_
    rintro e w2 hpr
    obtain ⟨x, y, b, rfl, hbn, hif⟩ := pret_un hpr
    have hbn : Below W.heap.size W w2 := ⟨hbn.os, hbn.tape, hbn.output, hbn.size, hbn.block⟩
    have hB := hB.below hbn hB.lt
    have hV := hV.below hbn
    have hK := hW0.below hbn hle
    have hle2 : base ≤ w2.heap.size := Nat.le_trans hle hbn.size
    have hba := below_alloc w2 (.cells #[.string (B x), .string (B y)] 40)
    have hB3 := hB.below hba hB.lt
    have hV3 := hV.below hba
    have hK3 := hK.below hba hle2
    have hle3 := hV3.le
    have k0 : (w2.alloc (.cells #[.string (B x), .string (B y)] 40)).cell? ⟨w2.heap.size, 0, none⟩ = some (.string (B x)) := by simp
    have k1 : (w2.alloc (.cells #[.string (B x), .string (B y)] 40)).cell? ⟨w2.heap.size, 1, none⟩ = some (.string (B y)) := by simp
    have hHM := HM
    have hif2 := Lib.hid hif
    clear hif hbn hba hB hV hK hW0 HVA HC HM hle2
    go_wp2
    generalize (w2.alloc (.cells #[.string (B x), .string (B y)] 40)) = w3 at *
    generalize w2.heap.size = bq at *
    have c5 := hB3.c5
    have c5a := (hB3.below (below_alloc w3 (.cells #[.string (B x), .string (B y)] 40)) hB3.lt).c5
    have hVd : PV base p vA vF vT w3.drew := hV3.below (Below.refl _ _).drew
    have hne5 := own_ne hV3.ov hB3 (by decide)
    go_region_law (first | (refine step_app (by rfl) (.tmp 41) (.tmp 43) 22 (by rfl) 40 (.agg #[.string ⟨#[]⟩, .string ⟨#[]⟩]) 2 32 Tryz.underlying22 Tryz.infoPair rfl (by omega) w3.drew [.string (B x), .string (B y)] rfl (by simp; exact ⟨rfl, rfl⟩) base _ _ _ hVd.ov (by rfl) (by rfl) (by omega) (by omega) hle3 ?_; intro g cap w4 ho hg hb; have hB4 : PB q p vA vF vT w4 := PB.grown (W := w3.drew) hB3 hg hne5; have z5 := hB4.c5; have zf := hB4.ff (i := 5)))
    all_goals
      have hV4 := (hVd.appV (v := (x, y)) ho hg).setq (i := 5) (u := .slice (some ⟨g, 0, none⟩) (p.vs.length + 1) cap) hB4 (by decide) (by decide) (by decide)
      have hB5 := hB4.set5 (u := .slice (some ⟨g, 0, none⟩) (p.vs.length + 1) cap) (p.vs ++ [(x, y)])
      have hK4 : Kq base q W (w4.setCell ⟨q, 5, none⟩ (.slice (some ⟨g, 0, none⟩) (p.vs.length + 1) cap)) := ((hK3.drewN 1).trans (Kq.of_below hb)).set
      clear ho hg hb hB4 hVd hV3 hB3 hK3
      go_wp2
      go_ret2
      refine ⟨0, b, rfl, hK4, ?_⟩
      have hif := hif2.out
      cases b with
      | false => rw [if_neg (by simp)] at hif ⊢; rw [hHM.out, hif]; rfl
      | true => rw [if_pos rfl] at hif ⊢; exact ⟨_, _, _, _, by rw [hHM.out, hif]; rfl, hB5, hV4⟩
  by_cases hv2 : w0 = [118, 97, 114]
  · have hst : st ≠ 0 := fun h => hv ⟨hv2, h⟩
    subst hv2
    have HX : Hid (moreP p l st = none) := by rw [HM.out, if_neg hv, if_neg (by rintro ⟨h, _⟩; revert h; decide), if_neg (by decide)]; rfl
    have e1 : ((st : Int) == 0) = false := by simp; omega
    clear HM hv hst
    go_enter Tryz.func37, Tryz.ntmps37
    go_wp2_with fail
    refine HC.out.mono ?_
    rintro e w1 ⟨rfl, k, rfl⟩
    go_wp2
    go_ret2
    exact mpost_no st HX (hW0.drewN k)
  have e1 : (w0 == [118, 97, 114]) = false := by simpa using hv2
  have HM : Hid (moreP p l st = if w0 = [102, 108, 97, 103] ∧ st ≤ 1 then (if r ≠ [] ∧ 32 ∉ r then some ({ p with fs := p.fs ++ [r] }, 1) else none)
    else if w0 = [116, 97, 114, 103, 101, 116] then (targetP r).map fun t => ({ p with ts := p.ts ++ [t] }, 2) else none) := by rw [HM.out, if_neg hv]; rfl
  clear hv hv2
  by_cases hf : w0 = [102, 108, 97, 103]
  · subst hf
    by_cases h1 : st ≤ 1
    · have HM2 : Hid (moreP p l st = if r ≠ [] ∧ 32 ∉ r then some ({ p with fs := p.fs ++ [r] }, 1) else none) := by rw [HM.out, if_pos ⟨rfl, h1⟩]; rfl
      clear HM
      have HS := Lib.hid (fun V => has_sp_any (B r) V)
      rw [B_data] at HS
      have e2 : decide ((st : Int) ≤ 1) = true := by simp; omega
      have hBd := fun k => (hB : PB q p vA vF vT (W.drewN k))
      have HOF := Lib.hid (fun k => (hV.of : (W.drewN k).ownsRow base 9 1 vF p.fs.length (strs p.fs)))
      have hc6 := hB.c6
      have HB := Lib.hid hB
      have HV := Lib.hid hV
      clear hBd h1
      go_enter Tryz.func37, Tryz.ntmps37
      go_wp2_with fail
      refine HC.out.mono ?_
      rintro e w1 ⟨rfl, k, rfl⟩
      go_wp2_with (at_builtin; refine wpList_app rfl _ _ 23 rfl 9 (.string ⟨#[]⟩) 1 16 Tryz.underlying23 Tryz.info9 rfl (by decide) (W.drewN k) [.string (B r)] rfl ?c1 base _ _ _ (HOF.out k) rfl rfl ?c2 (by decide) hle ?_)
      case c1 => intro u hu; simp at hu; subst hu; rfl
      case c2 => omega
      intro v' w4 ho hg hb
      have hB4 : PB q p vA vF vT w4 := PB.grown (W := W.drewN k) HB.out hg (own_ne HV.out.of HB.out (by decide))
      have z6 := hB4.c6
      have zf := hB4.ff (i := 6)
      obtain ⟨A', c', rfl, _⟩ := own_form ho
      have hV4 := (PV.appF (W1 := W.drewN k) (v := r) (HV.out.below (below_of_drewN _ _ k)) ho hg).setq (i := 6) (u := .slice A' (p.fs.length + 1) c') hB4 (by decide) (by decide) (by decide)
      have hB5 := hB4.set6 (u := .slice A' (p.fs.length + 1) c') (p.fs ++ [r])
      have hK4 : Kq base q W (w4.setCell ⟨q, 6, none⟩ (.slice A' (p.fs.length + 1) c')) := ((hW0.drewN k).trans (Kq.of_below hb)).set
      clear ho hg hb hc6
      by_cases hr0 : r = []
      · have HX : Hid (moreP p l st = none) := by rw [HM2.out, if_neg (fun h => h.1 hr0)]; rfl
        subst hr0
        go_wp2
        go_ret2
        exact mpost_no 1 HX hK4
      · have e3 : (r == []) = false := by simpa using hr0
        have e4 : r.isEmpty = false := by cases r with
          | nil => exact absurd rfl hr0
          | cons a b => rfl
        by_cases hsp : 32 ∈ r
        · have HX : Hid (moreP p l st = none) := by rw [HM2.out, if_neg (fun h => h.2 hsp)]; rfl
          have hd : decide (32 ∈ r) = true := by simpa using hsp
          rw [hd] at HS
          clear hd hsp hr0
          go_wp2_with fail
          refine (HS.out _).mono ?_
          rintro e w5 ⟨rfl, rfl⟩
          go_wp2
          go_ret2
          exact mpost_no 1 HX hK4
        · have HX : Hid (moreP p l st = some ({ p with fs := p.fs ++ [r] }, 1)) := by rw [HM2.out, if_pos ⟨hr0, hsp⟩]; rfl
          have hd : decide (32 ∈ r) = false := by simpa using hsp
          rw [hd] at HS
          clear hd hsp hr0
          go_wp2_with fail
          refine (HS.out _).mono ?_
          rintro e w5 ⟨rfl, rfl⟩
          go_wp2
          go_ret2
          exact ⟨1, true, rfl, hK4, by rw [if_pos rfl]; exact ⟨_, _, _, _, HX.out, hB5, hV4⟩⟩
    · have HX : Hid (moreP p l st = none) := by rw [HM.out, if_neg (fun h => h1 h.2), if_neg (by decide)]; rfl
      have e2 : decide ((st : Int) ≤ 1) = false := by simp; omega
      clear HM h1
      go_enter Tryz.func37, Tryz.ntmps37
      go_wp2_with fail
      refine HC.out.mono ?_
      rintro e w1 ⟨rfl, k, rfl⟩
      go_wp2
      go_ret2
      exact mpost_no st HX (hW0.drewN k)
  have e2 : (w0 == [102, 108, 97, 103]) = false := by simpa using hf
  by_cases ht : w0 = [116, 97, 114, 103, 101, 116]
  · have HM : Hid (moreP p l st = (targetP r).map fun t => ({ p with ts := p.ts ++ [t] }, 2)) := by rw [HM.out, if_neg (fun h => hf h.1), if_pos ht]; rfl
    have HVA : Hid (∀ k, Calls Tryz.prog 65 #[.string (B r)] (W.drewN k) (TRet (targetP r) (W.drewN k))) := by
      intro k
      have := target_any (B r) (W.drewN k) (by rw [B_size]; exact hrl) hG
      rw [B_data] at this
      exact this
    subst ht
    clear hf
    go_enter Tryz.func37, Tryz.ntmps37
    go_wp2_with fail
    refine HC.out.mono ?_
    rintro e w1 ⟨rfl, k, rfl⟩
    go_wp2_with fail
    refine (HVA.out k).mono ?_
    rintro e w2 hpr
    obtain ⟨t, b, rfl, hbn, hif⟩ := tret_un hpr
    have hbn : Below W.heap.size W w2 := ⟨hbn.os, hbn.tape, hbn.output, hbn.size, hbn.block⟩
    have hB := hB.below hbn hB.lt
    have hV := hV.below hbn
    have hK := hW0.below hbn hle
    have hle2 : base ≤ w2.heap.size := Nat.le_trans hle hbn.size
    have hba := below_alloc w2 (.cells #[.string (B t.nm), .string (B t.kd), .int .i64 t.pg, .int .i64 t.wd] 38)
    have hB3 := hB.below hba hB.lt
    have hV3 := hV.below hba
    have hK3 := hK.below hba hle2
    have hle3 := hV3.le
    have hb4 : Bx4 (w2.alloc (.cells #[.string (B t.nm), .string (B t.kd), .int .i64 t.pg, .int .i64 t.wd] 38)) w2.heap.size (B t.nm) (B t.kd) t.pg t.wd := heap_alloc_new w2 _
    have hHM := HM
    have hif2 := Lib.hid hif
    clear hif hbn hba hB hV hK hW0 HVA HC HM hle2
    go_wp2
    generalize (w2.alloc (.cells #[.string (B t.nm), .string (B t.kd), .int .i64 t.pg, .int .i64 t.wd] 38)) = w3 at *
    generalize w2.heap.size = bq at *
    have k0 := hb4.c0
    have k1 := hb4.c1
    have k2 := hb4.c2
    have k3 := hb4.c3
    have c7 := hB3.c7
    have c7a := (hB3.below (below_alloc w3 (.cells #[.string (B t.nm), .string (B t.kd), .int .i64 t.pg, .int .i64 t.wd] 38)) hB3.lt).c7
    have hVd : PV base p vA vF vT w3.drew := hV3.below (Below.refl _ _).drew
    have hne5 := own_ne hV3.ot hB3 (by decide)
    go_region_law (first | (refine step_app (by rfl) (.tmp 84) (.tmp 86) 24 (by rfl) 38 (.agg #[.string ⟨#[]⟩, .string ⟨#[]⟩, .int .i64 0, .int .i64 0]) 4 48 Tryz.underlying24 Tryz.infoTg rfl (by omega) w3.drew [.string (B t.nm), .string (B t.kd), .int .i64 t.pg, .int .i64 t.wd] rfl (by simp; exact ⟨rfl, rfl, rfl, rfl⟩) base _ _ _ hVd.ot (by rfl) (by rfl) (by omega) (by omega) hle3 ?_; intro g cap w4 ho hg hb; have hB4 : PB q p vA vF vT w4 := PB.grown (W := w3.drew) hB3 hg hne5; have z5 := hB4.c7; have zf := hB4.ff (i := 7)))
    all_goals
      have hV4 := (hVd.appT (v := t) ho hg).setq (i := 7) (u := .slice (some ⟨g, 0, none⟩) (p.ts.length + 1) cap) hB4 (by decide) (by decide) (by decide)
      have hB5 := hB4.set7 (u := .slice (some ⟨g, 0, none⟩) (p.ts.length + 1) cap) (p.ts ++ [t])
      have hK4 : Kq base q W (w4.setCell ⟨q, 7, none⟩ (.slice (some ⟨g, 0, none⟩) (p.ts.length + 1) cap)) := ((hK3.drewN 1).trans (Kq.of_below hb)).set
      clear ho hg hb hB4 hVd hV3 hB3 hK3 hb4
      go_wp2
      go_ret2
      refine ⟨2, b, rfl, hK4, ?_⟩
      have hif := hif2.out
      cases b with
      | false => rw [if_neg (by simp)] at hif ⊢; rw [hHM.out, hif]; rfl
      | true => rw [if_pos rfl] at hif ⊢; exact ⟨_, _, _, _, by rw [hHM.out, hif]; rfl, hB5, hV4⟩
  · have HX : Hid (moreP p l st = none) := by rw [HM.out, if_neg (fun h => hf h.1), if_neg ht]; rfl
    have e3 : (w0 == [116, 97, 114, 103, 101, 116]) = false := by simpa using ht
    clear HM hf ht
    go_enter Tryz.func37, Tryz.ntmps37
    go_wp2_with fail
    refine HC.out.mono ?_
    rintro e w1 ⟨rfl, k, rfl⟩
    go_wp2
    go_ret2
    exact mpost_no st HX (hW0.drewN k)
end Go.Proofs.YtmkenekngaihhaaGreatDoor
