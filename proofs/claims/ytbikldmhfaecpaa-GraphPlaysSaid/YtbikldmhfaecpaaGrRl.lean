/-
  Layer 48 (graph), the reference: eval (the walk).
-/
import Derived.Test.YtbikldmhfaecpaaGrRk
namespace Go.Proofs.Ytbikldmhfaecpaa
open Go.RowKit
set_option linter.unusedVariables false
set_option linter.unusedSimpArgs false
attribute [local go_sem] B_data B_size

theorem drop_get1 {α : Type} {l : List α} {k : Nat} {x : α} (h : l[k]? = some x) : l.drop k = x :: l.drop (k + 1) := by
  obtain ⟨hk, e⟩ := List.getElem?_eq_some_iff.1 h
  rw [List.drop_eq_getElem_cons hk, e]
def REnd (rb : Nat) (A : Option Addr) (c : Nat) (P : List VM → Nat → Prop) (w0 w w' : World) (X : Nat → Prop) : Prop := ∃ L N X', RG rb A c L N w0 w' X' ∧ KO (Two rb A) w w' ∧ (∀ b, X' b → X b ∨ w.heap.size ≤ b) ∧ P L N
def EvOk (g : Nat) : Prop := ∀ (n : Nm) (rb c N : Nat) (A : Option Addr) (L : List VM) (w0 w : World) (X : Nat → Prop), RG rb A c L N w0 w X → GoodL L → OkD (rf (absR L)) g n → (evalR g (absG L N) n).1.runs ≤ 1000000 →
    Calls Try.prog 37 #[.pointer (some ⟨rb, 0, none⟩), .string (B n)] w fun e w' => e = .returned (ResV (evalR g (absG L N) n).2) ∧ REnd rb A c (fun L' N' => absG L' N' = (evalR g (absG L N) n).1 ∧ Sh L L' ∧ GoodL L' ∧ (evalR g (absG L N) n).2.1.length ≤ 1000) w0 w w' X
theorem two_lt {rb c N : Nat} {A : Option Addr} {L : List VM} {w0 w : World} {X : Nat → Prop} (h : RG rb A c L N w0 w X) (b : Nat) (ht : Two rb A b) : b < w.heap.size := by
  rcases ht with ht | ht
  · rw [ht]; exact (h.xs rb h.xr).2
  · exact (h.xs b (h.rx b (by rw [own_eq]; exact ht)).1).2
theorem GoodL.set {L : List VM} (h : GoodL L) {i : Nat} {v v' : VM} (hv : L[i]? = some v) (h1 : v'.nm = v.nm) (h2 : v'.nd.length ≤ 10000) (h3 : v'.rule = true → 0 ≤ v'.F) (h4 : v'.vl.length ≤ 1000) (h5 : v'.out.length ≤ 1000) (h6 : v'.inn.length ≤ 10000) : GoodL (L.set i v') := by
  have al : ∀ {P : VM → Prop}, (∀ v ∈ L, P v) → P v' → ∀ v ∈ L.set i v', P v := fun ha hp u hu => by
    rcases List.mem_or_eq_of_mem_set hu with hu | rfl
    · exact ha u hu
    · exact hp
  refine ⟨by rw [List.length_set]; exact h.len, al h.nd h2, ?_, al h.F h3, al h.vl h4, al h.out h5, al h.inn h6⟩
  have e : (L.set i v').map (·.nm) = L.map (·.nm) := by
    rw [List.map_set, h1]
    apply List.ext_getElem?
    intro j
    by_cases hj : i = j
    · subst hj
      have hi := (List.getElem?_eq_some_iff.1 hv).1
      rw [List.getElem?_set_self (by simpa using hi), List.getElem?_map, hv]; rfl
    · rw [List.getElem?_set_ne hj]
  rw [e]; exact h.nm
set_option maxHeartbeats 16000000 in
set_option maxRecDepth 100000 in
theorem reval_any : ∀ g, EvOk g := by
  intro g
  induction g with
  | zero => intro n rb c N A L w0 w X _ _ h; exact absurd h id
  | succ g ih =>
    intro n rb c N A L w0 w X hrg hgd hok hrun
    obtain ⟨RES, hRES⟩ : ∃ R, evalR (g + 1) (absG L N) n = R := ⟨_, rfl⟩
    rw [hRES] at hrun ⊢
    have HRES := Lib.hid hRES
    have IH := Lib.hid ih
    have H := Lib.hid hrg
    have HGD := Lib.hid hgd
    have HOK := Lib.hid hok
    have HC := Lib.hid (find_any n w hrg (by have := hgd.len; omega))
    have hl := hgd.len
    have k0 := hrg.h0
    clear hRES ih hrg hgd hok
    cases hf : findI L n with
    | none =>
      rw [hf] at HC
      have hab := abs_none hf
      have HR : Hid (RES = (absG L N, ([], 13))) := Lib.hid (by rw [← HRES.out]; unfold evalR; rw [show getV (absG L N).vals n = none from hab.1]; simp only; rw [show findR (absG L N).rules n = none from hab.2])
      have HQ : Hid (REnd rb A c (fun L' N' => absG L' N' = RES.1 ∧ Sh L L' ∧ GoodL L' ∧ RES.2.1.length ≤ 1000) w0 w w X) := Lib.hid ⟨L, N, X, H.out, KO.of_below (Below.refl _ _), fun b hb => .inl hb, by rw [HR.out], Sh.refl L, HGD.out, by rw [HR.out]; simp⟩
      have HRV : Hid (ResV RES.2 = .tuple #[.string ⟨#[]⟩, .int .i64 13]) := Lib.hid (by rw [HR.out]; rfl)
      clear hf hab k0 hrun
      go_enter Try.func37, Try.ntmps37
      go_wp2_with fail
      refine HC.out.mono ?_
      rintro e wx ⟨rfl, rfl⟩
      simp only [fiV]
      go_wp2
      rw [HRV.out]
      go_ret2
      exact ⟨rfl, HQ.out⟩
    | some i =>
      rw [hf] at HC
      obtain ⟨v, hv, hvn, _⟩ := findI_some hf
      have hab := abs_some HGD.out.nm hv hvn
      obtain ⟨b, rfl, hb, c0, c1, c2, c3, c4⟩ := H.out.at10 hv
      have him : i < L.length := (List.getElem?_eq_some_iff.1 hv).1
      have i1 : (0 : Int) ≤ (i : Int) := by omega
      have i2 : (i : Int) < (L.length : Int) := by omega
      clear c0 c4
      have HV := Lib.hid hv
      have HVN := Lib.hid hvn
      have hmem := List.mem_of_getElem? hv
      cases hr : v.rule with
      | false =>
        rw [hr] at c1
        have HR : Hid (RES = (absG L N, (v.vl, 0))) := Lib.hid (by rw [← HRES.out]; unfold evalR; rw [show getV (absG L N).vals n = some v.vl from (hab.1 hr).1])
        have HQ : Hid (REnd rb (some ⟨b, 0, none⟩) c (fun L' N' => absG L' N' = RES.1 ∧ Sh L L' ∧ GoodL L' ∧ RES.2.1.length ≤ 1000) w0 w w X) := Lib.hid ⟨L, N, X, H.out, KO.of_below (Below.refl _ _), fun b hb => .inl hb, by rw [HR.out], Sh.refl L, HGD.out, by rw [HR.out]; exact HGD.out.vl v hmem⟩
        have HRV : Hid (ResV RES.2 = .tuple #[.string (B v.vl), .int .i64 0]) := Lib.hid (by rw [HR.out]; rfl)
        clear hf hab hrun hr hmem hv hvn
        go_enter Try.func37, Try.ntmps37
        go_wp2_with fail
        refine HC.out.mono ?_
        rintro e wx ⟨rfl, rfl⟩
        simp only [fiV]
        go_wp2
        rw [HRV.out]
        go_ret2
        exact ⟨rfl, HQ.out⟩
      | true =>
        rw [hr] at c1
        obtain ⟨FIN, hFIN⟩ : ∃ F, needsR (evalR g) (absG L N) [] v.nd = F := ⟨_, rfl⟩
        have HFIN := Lib.hid hFIN
        have HR : Hid (RES = finR FIN n) := Lib.hid (by
          rw [← HRES.out]; unfold evalR
          rw [show getV (absG L N).vals n = none from (hab.2 hr).1]
          simp only
          rw [show findR (absG L N).rules n = some (toR v) from (hab.2 hr).2, ← hFIN]; rfl)
        have hfr : FIN.1.runs ≤ 1000000 := Nat.le_trans (finR_runs FIN n) (by rw [← HR.out]; exact hrun)
        have hdt := H.out.dt v hmem
        have HDT := Lib.hid hdt.1
        have hnl := HGD.out.nd v hmem
        obtain ⟨t, ht⟩ : ∃ t, v.nd.length = t := ⟨_, rfl⟩
        have HT := Lib.hid ht
        rw [ht] at c3 hnl
        have HOKN : Hid (∀ y ∈ v.nd, OkD (rf (absR L)) g y) := Lib.hid (fun y hy => HOK.out v.nd (fN v.F) (by unfold Go.Proofs.Ytbikldmhfaecpaa.rf; rw [(hab.2 hr).2]; rfl) y hy)
        have HRU := Lib.hid hr
        have HFR := Lib.hid hfr
        have HRUN := Lib.hid hrun
        clear hf hab hr hFIN hdt ht hmem hv hvn hfr hrun
        go_enter Try.func37, Try.ntmps37
        go_wp2_with fail
        refine HC.out.mono ?_
        rintro e wx ⟨rfl, rfl⟩
        simp only [fiV]
        go_wp2
        go_loopw [7, 8, 10, 11, 12, 46] (fun v7 v8 _ _ _ v46 wr => ∃ (z ev Nz : Nat) (Lz : List VM) (Xz : Nat → Prop) (acc : List Nm), v46 = .int .i64 z ∧ z ≤ t ∧ v8 = .int .i64 ev ∧ RG rb (some ⟨b, 0, none⟩) c Lz Nz w0 wr Xz ∧ KO (Two rb (some ⟨b, 0, none⟩)) wx wr ∧ TRow wr wx.heap.size v7 acc ∧ acc.length ≤ z ∧ Hid (∀ q, v7.ownBlock = some q → ¬ Xz q) ∧ Hid ((∀ q, Xz q → X q ∨ wx.heap.size ≤ q) ∧ Sh L Lz ∧ GoodL Lz ∧ FIN = (if ev = 0 then needsR (evalR g) (absG Lz Nz) acc (v.nd.drop z) else (absG Lz Nz, .inl ev)) ∧ ∀ x ∈ acc, x.length ≤ 1000)) (fun _ _ _ _ _ z _ => t - (intOf z).toNat)
        case atStart => exact ⟨0, 0, N, L, X, [], rfl, Nat.zero_le _, rfl, H.out, KO.of_below (Below.refl _ _), World.ownsRow_nil _ _ _ _, Nat.le_refl _, Lib.hid (fun q h => by cases h), Lib.hid ⟨fun q hq => .inl hq, Sh.refl L, HGD.out, by rw [if_pos rfl, List.drop_zero]; exact HFIN.out.symm, by simp⟩⟩
        case round =>
          obtain ⟨z, ev, Nz, Lz, Xz, acc, rfl, hz, rfl, hrg, hko, hacc, hal, hnx, hinv⟩ := hrel
          by_cases hlt : z < t
          · obtain ⟨y, hy⟩ := get_of (l := v.nd) (k := z) (by rw [HT.out]; exact hlt)
            have hrd := HDT.out.two hko (fun q hq => (H.out.xs q hq).2)
            rw [HT.out] at hrd
            obtain ⟨g3, o3, hA3, hg3, e0⟩ := hrd.strk hy
            rw [hA3] at c3 ⊢
            have i3 : (0 : Int) ≤ (z : Int) := by omega
            have i4 : (z : Int) < (t : Int) := by omega
            have HRG := Lib.hid hrg
            have HKO := Lib.hid hko
            have HACC := Lib.hid hacc
            have HINV := Lib.hid hinv.out
            have HY := Lib.hid hy
            by_cases hev : ev = 0
            · subst hev
              have hF := HINV.out.2.2.2.1
              rw [if_pos rfl, drop_get1 hy] at hF
              have hRG := IH.out y rb c Nz _ Lz w0 wr Xz HRG.out HINV.out.2.2.1 (by
                rw [show rf (absR Lz) = rf (absR L) from funext (fun q => HINV.out.2.1.rf HGD.out.nm q)]
                exact HOKN.out y (List.mem_of_getElem? hy)) (by
                have h2 := HFR.out
                rw [hF] at h2
                unfold needsR at h2
                split at h2
                · exact Nat.le_trans (needsR_runs (evalR_runs g) _ _ _) h2
                · exact h2)
              obtain ⟨Y, hY⟩ : ∃ Y, evalR g (absG Lz Nz) y = Y := ⟨_, rfl⟩
              rw [hY] at hRG
              have hF2 : FIN = if Y.2.2 = 0 then needsR (evalR g) Y.1 (acc ++ [Y.2.1]) (v.nd.drop (z + 1)) else (Y.1, .inl Y.2.2) := by
                rw [hF]
                show (if (evalR g (absG Lz Nz) y).2.2 = 0 then _ else _) = _
                rw [hY]
              obtain ⟨S1, s, f⟩ := Y
              simp only [ResV] at hRG hF2
              have HE := Lib.hid hRG
              have HF2 := Lib.hid hF2
              have HNX := Lib.hid hnx.out
              have hs1 := H.out.b.size
              clear hrg hko hacc hinv hy hF hRG hY hF2 hrd
              go_wp2_with fail
              refine HE.out.mono ?_
              rintro e w3 ⟨rfl, L1, N1, X1, rg1, ko1, x1, abs1, sh1, gd1, len1⟩
              subst abs1
              have hrow3 := ko1.row (fun q hq => two_lt H.out q hq) HACC.out
              have hsz3 : wx.heap.size ≤ w3.heap.size := Nat.le_trans HKO.out.2 ko1.2
              have HRG1 := Lib.hid rg1
              have HKO1 := Lib.hid (HKO.out.trans ko1)
              have HINV1 : Hid ((∀ q, X1 q → X q ∨ wx.heap.size ≤ q) ∧ Sh L L1 ∧ GoodL L1) := Lib.hid ⟨fun q hq => by
                rcases x1 q hq with h | h
                · exact HINV.out.1 q h
                · exact .inr (Nat.le_trans HKO.out.2 h), HINV.out.2.1.trans sh1, gd1⟩
              have HN1 : Hid (∀ q, u7.ownBlock = some q → ¬ X1 q) := Lib.hid (fun q hq hx => by
                rcases x1 q hx with h | h
                · exact HNX.out q hq h
                · have := (HACC.out.lt q hq).2; omega)
              have HL1 := Lib.hid len1
              have HR3 := Lib.hid hrow3
              clear rg1 ko1 x1 sh1 gd1 len1 hrow3 HE HNX hnx
              go_wp2_with (refine wpList_appL rfl (.tmp 58) (.tmp 60) rfl w3 s wx.heap.size _ acc.length acc HR3.out rfl rfl (by omega) hsz3 ?_)
              intro g9 cap9 w9 ho9 hg9 hb9 hl9
              have HRG9 := Lib.hid (HRG1.out.keep (w' := w9) (HRG1.out.b.trans (hb9.mono hs1)) ⟨fun q hq => hg9.block q (HRG1.out.xs q hq).2 (fun e => HN1.out q e.symm hq), hg9.size⟩)
              have HKO9 : Hid (KO (Two rb (some ⟨b, 0, none⟩)) wx w9) := Lib.hid ⟨fun q hq ht => (hb9.block q hq).trans (HKO1.out.1 q hq ht), Nat.le_trans hsz3 hg9.size⟩
              have HO9 : Hid (TRow w9 wx.heap.size (.slice (some ⟨g9, 0, none⟩) (acc.length + 1) cap9) (acc ++ [s])) := Lib.hid (by unfold TRow; rw [List.length_append]; exact ho9)
              have HN9 : Hid (∀ q, (Value.slice (some ⟨g9, 0, none⟩) (acc.length + 1) cap9).ownBlock = some q → ¬ X1 q) := Lib.hid (fun q hq hx => by
                have hq : some g9 = some q := hq
                injection hq with hq; subst hq
                rcases hl9 with h | h
                · exact HN1.out g9 h hx
                · have := (HRG1.out.xs g9 hx).2; omega)
              have HS9 : Hid (∀ x ∈ acc ++ [s], x.length ≤ 1000) := Lib.hid (fun x hx => by
                rcases List.mem_append.1 hx with hx | hx
                · exact HINV.out.2.2.2.2 x hx
                · rw [List.mem_singleton] at hx; subst hx; exact HL1.out)
              have hal9 : (acc ++ [s]).length ≤ z + 1 := by simp; omega
              clear ho9 hg9 hb9 hl9 hsz3
              go_wp2
              go_roundw
              case rel => exact ⟨z + 1, f, N1, L1, X1, acc ++ [s], by go_num, by omega, rfl, HRG9.out, HKO9.out, HO9.out, hal9, HN9, Lib.hid ⟨HINV1.out.1, HINV1.out.2.1, HINV1.out.2.2, HF2.out, HS9.out⟩⟩
              case measure => simp [intOf]; omega
            · have hev2 : ((ev : Int) == 0) = false := by rw [beq_eq_false_iff_ne]; omega
              have HF3 : Hid (FIN = if ev = 0 then needsR (evalR g) (absG Lz Nz) acc (v.nd.drop (z + 1)) else (absG Lz Nz, .inl ev)) := Lib.hid (by rw [HINV.out.2.2.2.1, if_neg hev, if_neg hev])
              have HNX := Lib.hid hnx.out
              clear hrg hko hacc hinv hy hrd hev
              go_wp2
              go_roundw
              case rel => exact ⟨z + 1, ev, Nz, Lz, Xz, acc, by go_num, by omega, rfl, HRG.out, HKO.out, HACC.out, by omega, HNX, Lib.hid ⟨HINV.out.1, HINV.out.2.1, HINV.out.2.2.1, HF3.out, HINV.out.2.2.2.2⟩⟩
              case measure => simp [intOf]; omega
          · obtain rfl : z = t := by omega
            obtain ⟨A7, c7, rfl, _⟩ := own_form hacc
            have hF := hinv.out.2.2.2.1
            rw [List.drop_eq_nil_of_le (by rw [HT.out]; exact Nat.le_refl _)] at hF
            have HFF : Hid (FIN = if ev = 0 then (absG Lz Nz, .inr acc) else (absG Lz Nz, .inl ev)) := Lib.hid hF
            obtain ⟨v1, a1, a2, a3, a4, a5, a6⟩ := hinv.out.2.1.2 i v HV.out
            have hr1 : v1.rule = true := by rw [a3]; exact HRU.out
            have hn1 : v1.nm = n := a2.trans HVN.out
            have hgz := hinv.out.2.2.1
            have hll := hinv.out.2.1.1
            have HV1 := Lib.hid a1
            have hil1 : i < Lz.length := (List.getElem?_eq_some_iff.1 a1).1
            have k1 := hrg.h0
            rw [hll] at k1
            obtain ⟨b', hbb, _, d0, d1, d2, d3, d4, d5, d6, d7, d8, d9⟩ := hrg.at10 a1
            injection hbb with hbb; injection hbb with hbb
            subst hbb
            have f9 := hrg.free (i * 10 + 9)
            have hd1 := hrg.dt v1 (List.mem_of_getElem? a1)
            have HSETL : Hid (∀ u : VM, (Lz.set i u)[i]? = some u) := Lib.hid (fun u => List.getElem?_set_self hil1)
            have hp2 := hrg.put a1 (j := 9) (v' := { v1 with fresh := true }) (u := .bool true) (by decide) rfl hd1
            have HABS : Hid (∀ (u : VM) (f : RuleS → RuleS), u.nm = v1.nm → u.rule = true → toR u = f (toR v1) → ∀ M, absG (Lz.set i u) M = { absG Lz Nz with rules := modR n f (absG Lz Nz).rules, runs := M }) := Lib.hid (fun u f h1 h2 h3 M => by
              have hs := abs_set hgz.nm a1 hr1 h2 h1
              have hf := (abs_some hgz.nm a1 rfl).2 hr1
              have hc := modR_const (g := f) (absR_names hgz.nm) hf.2
              unfold absG
              rw [hs.1, hs.2, h3, hc, hn1])
            have HB2 : Hid (absG (Lz.set i { v1 with fresh := true }) Nz = freshX (absG Lz Nz) n) := Lib.hid (by
              rw [HABS.out { v1 with fresh := true } (fun r => { r with stale := false }) rfl hr1 rfl Nz]; rfl)
            have HFIND : Hid (findR (freshX (absG Lz Nz) n).rules n = some (toR { v1 with fresh := true })) := Lib.hid (by
              rw [← HB2.out]
              have hg2 : ((Lz.set i { v1 with fresh := true }).map (·.nm)).Nodup := by rw [(Sh.set a1 ⟨rfl, rfl, rfl, rfl, rfl⟩ : Sh Lz (Lz.set i { v1 with fresh := true })).map (·.nm) (fun v v' e _ _ _ _ => e)]; exact hgz.nm
              exact ((abs_some hg2 (HSETL.out _) hn1).2 hr1).2)
            have HSH : Hid (∀ u : VM, u.nm = v1.nm ∧ u.rule = v1.rule ∧ u.nd = v1.nd ∧ u.F = v1.F ∧ u.vl = v1.vl → Sh L (Lz.set i u)) := Lib.hid (fun u e => hinv.out.2.1.trans (Sh.set a1 e))
            have HGL : Hid (∀ u : VM, u.nm = v1.nm → u.nd = v1.nd → u.F = v1.F → u.vl = v1.vl → u.out.length ≤ 1000 → u.inn.length ≤ 10000 → GoodL (Lz.set i u)) := Lib.hid (fun u e1 e2 e3 e4 e5 e6 => hgz.set a1 e1 (by rw [e2]; exact hgz.nd v1 (List.mem_of_getElem? a1)) (fun _ => by rw [e3]; exact hgz.F v1 (List.mem_of_getElem? a1) hr1) (by rw [e4]; exact hgz.vl v1 (List.mem_of_getElem? a1)) e5 e6)
            have ho1 := hgz.out v1 (List.mem_of_getElem? a1)
            have hi1 := hgz.inn v1 (List.mem_of_getElem? a1)
            have hF0 := hgz.F v1 (List.mem_of_getElem? a1) hr1
            have HRG2 := Lib.hid hp2
            have HXZ := Lib.hid hinv.out.1
            have HSM := Lib.hid hinv.out.2.2.2.2
            have hbx : Two rb (some ⟨b, 0, none⟩) b := .inr rfl
            have hrbx : Two rb (some ⟨b, 0, none⟩) rb := .inl rfl
            have HKO2 := Lib.hid (hko.trans (KO.put (w := wr) (g := b) (i := i * 10 + 9) (u := .bool true) hbx))
            have HKP := Lib.hid (KO.put (X := Two rb (some ⟨b, 0, none⟩)) (w := wr) (g := b) (i := i * 10 + 9) (u := .bool true) hbx)
            have HTW := Lib.hid (fun q hq => two_lt H.out (A := some ⟨b, 0, none⟩) q hq)
            have HIN2 := Lib.hid (HKP.out.row HTW.out hacc)
            have HHI := Lib.hid (And.intro ho1 (And.intro hi1 hF0))
            have HHR := Lib.hid (And.intro hr1 (And.intro hn1 hll))
            clear hrg hko hinv hF a1 a2 a3 a4 a5 a6 hgz hd1 hp2 d0 d1 d2 d3 d4 d5 d6 d7 d8 ho1 hi1 hF0 hr1 hn1 hil1
            go_upto_region 17 with fail
            generalize wr.setCell ⟨b, i * 10 + 9, none⟩ (.bool true) = w2 at *
            clear hacc k1 d9 f9 hll
            by_cases hev : ev = 0
            · subst hev
              have HRS : Hid (RES = callX (freshX (absG Lz Nz) n) n acc) := Lib.hid (by rw [HR.out, HFF.out, if_pos rfl]; rfl)
              have k2 := HRG2.out.h0
              rw [List.length_set, HHR.out.2.2] at k2
              obtain ⟨b', hbb, _, d0, d1, d2, d3, d4, d5, d6, d7, d8, d9⟩ := HRG2.out.at10 (HSETL.out _)
              injection hbb with hbb; injection hbb with hbb
              subst hbb
              clear d0 d1 d2 d3 d9
              have hdt2 := HRG2.out.dt _ (List.mem_of_getElem? (HSETL.out { v1 with fresh := true }))
              have hi1 : v1.inn.length ≤ 10000 := HHI.out.2.1
              simp only at d5 d6 d7 d8 d4 hdt2
              by_cases hcl : v1.called = true
              · rw [hcl] at d5
                have HSAME := Lib.hid (sameR_any v1.iA A7 v1.inn.length v1.ic acc.length c7 v1.inn acc w2 hdt2.2.1 (Rd.of_own HIN2.out) (by omega) (by omega))
                by_cases hsa : v1.inn = acc
                · have x1 : decide (v1.inn = acc) = true := decide_eq_true hsa
                  rw [x1] at HSAME
                  have HRS2 : Hid (RES = (freshX (absG Lz Nz) n, (v1.out, v1.e))) := Lib.hid (by
                    rw [HRS.out]; unfold callX; rw [HFIND.out]; simp only
                    rw [if_pos ⟨hcl, hsa.symm⟩]; rfl)
                  clear x1 hsa hcl hdt2
                  go_wp2_with fail
                  refine HSAME.out.mono ?_
                  rintro e w3 ⟨rfl, hb3⟩
                  have HRG3 := Lib.hid (HRG2.out.below hb3)
                  have HQ : Hid (REnd rb (some ⟨b, 0, none⟩) c (fun L' N' => absG L' N' = RES.1 ∧ Sh L L' ∧ GoodL L' ∧ RES.2.1.length ≤ 1000) w0 wx w3 X) := Lib.hid ⟨_, _, _, HRG3.out, HKO2.out.trans (KO.of_below hb3), HXZ.out, by rw [HRS2.out]; exact HB2.out, HSH.out _ ⟨rfl, rfl, rfl, rfl, rfl⟩, HGL.out _ rfl rfl rfl rfl HHI.out.1 HHI.out.2.1, by rw [HRS2.out]; exact HHI.out.1⟩
                  have HRV : Hid (ResV RES.2 = .tuple #[.string (B v1.out), .int .i64 (v1.e : Int)]) := Lib.hid (by rw [HRS2.out]; rfl)
                  have k3 := HRG3.out.h0
                  rw [List.length_set, HHR.out.2.2] at k3
                  obtain ⟨b', hbb, _, q0, q1, q2, q3, q4, q5, q6, q7, q8, q9⟩ := HRG3.out.at10 (HSETL.out _)
                  injection hbb with hbb; injection hbb with hbb
                  subst hbb
                  simp only at q7 q8
                  clear q0 q1 q2 q3 q4 q5 q6 q9 hb3 d4 d5 d6 d7 d8 k2 HSAME
                  go_wp2_with fail
                  go_quiet (fail)
                  go_wp2
                  rw [HRV.out]
                  go_ret2
                  obtain ⟨L9, N9, X9, r1, r2, r3, r4⟩ := HQ.out
                  exact ⟨rfl, L9, N9, X9, r1.below (below_dn (Below.refl _ _) _), r2.trans (KO.of_below (below_dn (Below.refl _ _) _)), r3, r4⟩
                · have x1 : decide (v1.inn = acc) = false := decide_eq_false hsa
                  rw [x1] at HSAME
                  clear x1
                  go_wp2_with fail
                  refine HSAME.out.mono ?_
                  rintro e w2b ⟨rfl, hb2b⟩
                  have HRG2b := Lib.hid (HRG2.out.below hb2b)
                  have HKO2b := Lib.hid (HKO2.out.trans (KO.of_below hb2b))
                  have HIN2b := Lib.hid (own_below HIN2.out hb2b)
                  have k2b := HRG2b.out.h0
                  clear d4 d5 d6 d7 d8 k2 HSAME hdt2 hb2b
                  have HRS2 : Hid (RES = ({ freshX (absG Lz Nz) n with runs := Nz + 1, rules := modR n (fun r => { r with called := true, inn := acc, val := (applyV r.f acc).1, e := (applyV r.f acc).2 }) (freshX (absG Lz Nz) n).rules }, applyV (fN v1.F) acc)) := Lib.hid (by
                    rw [HRS.out]; unfold callX; rw [HFIND.out]; simp only
                    rw [if_neg (fun h => hsa h.2.symm)]; rfl)
                  have hrunb : Nz + 1 ≤ 1000000 := by have h := HRUN.out; rw [HRS2.out] at h; exact h
                  have hsm : (IntKind.i64.wrap ((Nz : Int) + 1)) = (Nz : Int) + 1 := IntWalk.i64_in _ (by omega)
                  have hcc : ((Nz + 1 : Nat) : Int) = (Nz : Int) + 1 := by omega
                  have kN := HRG2b.out.h1
                  have fN1 := HRG2b.out.hfree 1
                  have HRG3 := Lib.hid ((HRG2b.out.runs (Nz + 1)).more (Y := fun q => Xz q ∨ (wx.heap.size ≤ q ∧ q < w2b.heap.size)) (fun q hq => .inl hq) (fun q hq => by
                    rcases hq with hq | hq
                    · exact ⟨(HRG2b.out.xs q hq).1, by have := (HRG2b.out.xs q hq).2; simpa [World.setCell] using this⟩
                    · exact ⟨Nat.le_trans H.out.b.size hq.1, by simpa [World.setCell] using hq.2⟩))
                  have HKO3 := Lib.hid (HKO2b.out.trans (KO.put (w := w2b) (g := rb) (i := 1) (u := .int .i64 ((Nz + 1 : Nat) : Int)) hrbx))
                  have HIN3 := Lib.hid ((KO.put (X := Two rb (some ⟨b, 0, none⟩)) (w := w2b) (g := rb) (i := 1) (u := .int .i64 ((Nz + 1 : Nat) : Int)) hrbx).row HTW.out HIN2b.out)
                  have HINX : Hid (∀ q, (Value.slice A7 acc.length c7).ownBlock = some q → (Xz q ∨ (wx.heap.size ≤ q ∧ q < w2b.heap.size)) ∧ q ≠ rb ∧ some b ≠ some q) := Lib.hid (fun q hq => by
                    obtain ⟨x1, x2⟩ := HIN2b.out.lt q hq
                    have y1 := HTW.out rb hrbx
                    have y2 := HTW.out b hbx
                    exact ⟨.inr ⟨x1, x2⟩, by omega, fun e => by injection e with e; omega⟩)
                  rw [hcc] at HRG3 HKO3 HIN3
                  go_upto_region 21 with fail
                  generalize w2b.setCell ⟨rb, 1, none⟩ (.int .i64 ((Nz : Int) + 1)) = w3 at *
                  clear hcc
                  have k3 := HRG3.out.h0
                  rw [List.length_set, HHR.out.2.2] at k3
                  obtain ⟨b', hbb, _, q0, q1, q2, q3, q4, q5, q6, q7, q8, q9⟩ := HRG3.out.at10 (HSETL.out _)
                  injection hbb with hbb; injection hbb with hbb
                  subst hbb
                  clear q0 q1 q2 q3 q5 q6 q7 q8 q9
                  have HVAL := Lib.hid (value_all v1.F A7 acc.length c7 acc w3 (Rd.of_own HIN3.out) (by omega) HSM.out HHI.out.2.2)
                  have HAPV : Hid (applyV (fN v1.F) acc = if (valueX (fN v1.F) acc).2 = 0 then valueX (fN v1.F) acc else ([], (valueX (fN v1.F) acc).2)) := Lib.hid rfl
                  obtain ⟨Y, hYY⟩ : ∃ Y, valueX (fN v1.F) acc = Y := ⟨_, rfl⟩
                  rw [hYY] at HVAL HAPV
                  obtain ⟨vs, fs⟩ := Y
                  simp only [ResV] at HVAL HAPV
                  clear kN fN1 hYY
                  go_wp2_with fail
                  refine HVAL.out.mono ?_
                  rintro e w4 ⟨rfl, hb4⟩
                  have HRG4 := Lib.hid (HRG3.out.below hb4)
                  have HKO4 := Lib.hid (HKO3.out.trans (KO.of_below hb4))
                  have HIN4 := Lib.hid (own_below HIN3.out hb4)
                  clear hb4 k3 q4 HVAL HRG3 HKO3 HIN3
                  by_cases hfs : fs = 0
                  · subst hfs
                    have HAP2 : Hid (applyV (fN v1.F) acc = (vs, 0)) := Lib.hid (by rw [HAPV.out, if_pos rfl])
                    have k4 := HRG4.out.h0
                    rw [List.length_set, HHR.out.2.2] at k4
                    have g4 := HRG4.out.free (i * 10 + 5)
                    obtain ⟨b', hbb, _, q0, q1, q2, q3, q4, q5, q6, q7, q8, q9⟩ := HRG4.out.at10 (HSETL.out _)
                    injection hbb with hbb; injection hbb with hbb
                    subst hbb
                    have x4 := q5
                    clear q0 q1 q2 q3 q4 q5 q6 q7 q8 q9
                    have hdk := HRG4.out.dt _ (List.mem_of_getElem? (HSETL.out _))
                    have hpk := HRG4.out.put (HSETL.out _) (j := 5) (v' := { v1 with fresh := true, called := true }) (u := .bool true) (by decide) rfl hdk
                    rw [List.set_set] at hpk
                    have HRG5 := Lib.hid hpk
                    have HKO5 := Lib.hid (HKO4.out.trans (KO.put (w := w4) (g := b) (i := i * 10 + 5) (u := .bool true) hbx))
                    have HIN5 := Lib.hid ((KO.put (X := Two rb (some ⟨b, 0, none⟩)) (w := w4) (g := b) (i := i * 10 + 5) (u := .bool true) hbx).row HTW.out HIN4.out)
                    clear hdk hpk
                    go_upto_region 25 with fail
                    generalize w4.setCell ⟨b, i * 10 + 5, none⟩ (.bool true) = w5 at *
                    clear k4 g4 x4
                    have k5 := HRG5.out.h0
                    rw [List.length_set, HHR.out.2.2] at k5
                    have g5 := HRG5.out.free (i * 10 + 6)
                    obtain ⟨b', hbb, _, q0, q1, q2, q3, q4, q5, q6, q7, q8, q9⟩ := HRG5.out.at10 (HSETL.out _)
                    injection hbb with hbb; injection hbb with hbb
                    subst hbb
                    have x5 := q6
                    clear q0 q1 q2 q3 q4 q5 q6 q7 q8 q9
                    have hdk := HRG5.out.dt _ (List.mem_of_getElem? (HSETL.out _))
                    have hpk := HRG5.out.put (HSETL.out _) (j := 6) (v' := { v1 with fresh := true, called := true, inn := acc, iA := A7, ic := c7 }) (u := .slice A7 acc.length c7) (by decide) rfl ⟨hdk.1, Rd.of_own HIN5.out, fun ad e hn => HINX.out ad.block (by have e : A7 = some ad := e; rw [e]; rfl)⟩
                    rw [List.set_set] at hpk
                    have HRG6 := Lib.hid hpk
                    have HKO6 := Lib.hid (HKO5.out.trans (KO.put (w := w5) (g := b) (i := i * 10 + 6) (u := .slice A7 acc.length c7) hbx))
                    have HIN6 := Lib.hid ((KO.put (X := Two rb (some ⟨b, 0, none⟩)) (w := w5) (g := b) (i := i * 10 + 6) (u := .slice A7 acc.length c7) hbx).row HTW.out HIN5.out)
                    clear hdk hpk
                    go_upto_region 26 with fail
                    generalize w5.setCell ⟨b, i * 10 + 6, none⟩ (.slice A7 acc.length c7) = w6 at *
                    clear k5 g5 x5
                    have k6 := HRG6.out.h0
                    rw [List.length_set, HHR.out.2.2] at k6
                    have g6 := HRG6.out.free (i * 10 + 7)
                    obtain ⟨b', hbb, _, q0, q1, q2, q3, q4, q5, q6, q7, q8, q9⟩ := HRG6.out.at10 (HSETL.out _)
                    injection hbb with hbb; injection hbb with hbb
                    subst hbb
                    have x6 := q7
                    clear q0 q1 q2 q3 q4 q5 q6 q7 q8 q9
                    have hdk := HRG6.out.dt _ (List.mem_of_getElem? (HSETL.out _))
                    have hpk := HRG6.out.put (HSETL.out _) (j := 7) (v' := { v1 with fresh := true, called := true, inn := acc, iA := A7, ic := c7, out := vs }) (u := .string (B vs)) (by decide) rfl hdk
                    rw [List.set_set] at hpk
                    have HRG7 := Lib.hid hpk
                    have HKO7 := Lib.hid (HKO6.out.trans (KO.put (w := w6) (g := b) (i := i * 10 + 7) (u := .string (B vs)) hbx))
                    have HIN7 := Lib.hid ((KO.put (X := Two rb (some ⟨b, 0, none⟩)) (w := w6) (g := b) (i := i * 10 + 7) (u := .string (B vs)) hbx).row HTW.out HIN6.out)
                    clear hdk hpk
                    go_upto_region 27 with fail
                    generalize w6.setCell ⟨b, i * 10 + 7, none⟩ (.string (B vs)) = w7 at *
                    clear k6 g6 x6
                    have k7 := HRG7.out.h0
                    rw [List.length_set, HHR.out.2.2] at k7
                    have g7 := HRG7.out.free (i * 10 + 8)
                    obtain ⟨b', hbb, _, q0, q1, q2, q3, q4, q5, q6, q7, q8, q9⟩ := HRG7.out.at10 (HSETL.out _)
                    injection hbb with hbb; injection hbb with hbb
                    subst hbb
                    have x7 := q8
                    clear q0 q1 q2 q3 q4 q5 q6 q7 q8 q9
                    have hdk := HRG7.out.dt _ (List.mem_of_getElem? (HSETL.out _))
                    have hpk := HRG7.out.put (HSETL.out _) (j := 8) (v' := { v1 with fresh := true, called := true, inn := acc, iA := A7, ic := c7, out := vs, e := 0 }) (u := .int .i64 0) (by decide) rfl hdk
                    rw [List.set_set] at hpk
                    have HRG8 := Lib.hid hpk
                    have HKO8 := Lib.hid (HKO7.out.trans (KO.put (w := w7) (g := b) (i := i * 10 + 8) (u := .int .i64 0) hbx))
                    have HIN8 := Lib.hid ((KO.put (X := Two rb (some ⟨b, 0, none⟩)) (w := w7) (g := b) (i := i * 10 + 8) (u := .int .i64 0) hbx).row HTW.out HIN7.out)
                    clear hdk hpk
                    go_upto_region 28 with fail
                    generalize w7.setCell ⟨b, i * 10 + 8, none⟩ (.int .i64 0) = w8 at *
                    clear k7 g7 x7
                    have k8 := HRG8.out.h0
                    rw [List.length_set, HHR.out.2.2] at k8
                    obtain ⟨b', hbb, _, q0, q1, q2, q3, q4, q5, q6, q7, q8, q9⟩ := HRG8.out.at10 (HSETL.out _)
                    injection hbb with hbb; injection hbb with hbb
                    subst hbb
                    clear q0 q1 q2 q3 q4 q5 q6 q9
                    simp only at q7 q8
                    have HAB8 : Hid (absG (Lz.set i { v1 with fresh := true, called := true, inn := acc, iA := A7, ic := c7, out := vs, e := 0 }) (Nz + 1) = RES.1) := Lib.hid (by
                      rw [HRS2.out]
                      rw [HABS.out { v1 with fresh := true, called := true, inn := acc, iA := A7, ic := c7, out := vs, e := 0 } (fun r => { r with stale := false, called := true, inn := acc, val := (applyV r.f acc).1, e := (applyV r.f acc).2 }) rfl HHR.out.1 (by unfold toR; rw [HAP2.out]; rfl) (Nz + 1)]
                      unfold freshX
                      simp only
                      rw [modR_modR _ _ (fun r : RuleS => { r with stale := false }) (fun r : RuleS => { r with called := true, inn := acc, val := (applyV r.f acc).1, e := (applyV r.f acc).2 }) (fun _ => rfl)])
                    have HRES2 : Hid (RES.2 = (vs, 0)) := Lib.hid (by rw [HRS2.out, ← HAP2.out])
                    have HVL : Hid ((vs : Nm).length ≤ 1000) := Lib.hid (by have := applyV_small (fN v1.F) acc; rw [HAP2.out] at this; exact this)
                    have HQ : Hid (REnd rb (some ⟨b, 0, none⟩) c (fun L' N' => absG L' N' = RES.1 ∧ Sh L L' ∧ GoodL L' ∧ RES.2.1.length ≤ 1000) w0 wx w8 X) := Lib.hid ⟨_, _, _, HRG8.out, HKO8.out, fun q hq => by
                      rcases hq with hq | hq
                      · exact HXZ.out q hq
                      · exact .inr hq.1, HAB8.out, HSH.out _ ⟨rfl, rfl, rfl, rfl, rfl⟩, HGL.out _ rfl rfl rfl rfl HVL.out (by simp only; omega), by rw [HRES2.out]; exact HVL.out⟩
                    have HRV : Hid (ResV RES.2 = .tuple #[.string (B vs), .int .i64 ((0 : Nat) : Int)]) := Lib.hid (by rw [HRES2.out]; rfl)
                    clear HAB8 HRG8 HKO8 HIN8
                    go_wp2_with fail
                    go_quiet (fail)
                    go_wp2
                    rw [HRV.out]
                    go_ret2
                    obtain ⟨L9, N9, X9, r1, r2, r3, r4⟩ := HQ.out
                    exact ⟨rfl, L9, N9, X9, r1.below (below_dn (Below.refl _ _) _), r2.trans (KO.of_below (below_dn (Below.refl _ _) _)), r3, r4⟩
                  · have hfs2 : ((fs : Int) == 0) = false := by rw [beq_eq_false_iff_ne]; omega
                    have HAP2 : Hid (applyV (fN v1.F) acc = ([], fs)) := Lib.hid (by rw [HAPV.out, if_neg hfs])
                    have k4 := HRG4.out.h0
                    rw [List.length_set, HHR.out.2.2] at k4
                    have g4 := HRG4.out.free (i * 10 + 5)
                    obtain ⟨b', hbb, _, q0, q1, q2, q3, q4, q5, q6, q7, q8, q9⟩ := HRG4.out.at10 (HSETL.out _)
                    injection hbb with hbb; injection hbb with hbb
                    subst hbb
                    have x4 := q5
                    clear q0 q1 q2 q3 q4 q5 q6 q7 q8 q9
                    have hdk := HRG4.out.dt _ (List.mem_of_getElem? (HSETL.out _))
                    have hpk := HRG4.out.put (HSETL.out _) (j := 5) (v' := { v1 with fresh := true, called := true }) (u := .bool true) (by decide) rfl hdk
                    rw [List.set_set] at hpk
                    have HRG5 := Lib.hid hpk
                    have HKO5 := Lib.hid (HKO4.out.trans (KO.put (w := w4) (g := b) (i := i * 10 + 5) (u := .bool true) hbx))
                    have HIN5 := Lib.hid ((KO.put (X := Two rb (some ⟨b, 0, none⟩)) (w := w4) (g := b) (i := i * 10 + 5) (u := .bool true) hbx).row HTW.out HIN4.out)
                    clear hdk hpk
                    go_upto_region 25 with fail
                    generalize w4.setCell ⟨b, i * 10 + 5, none⟩ (.bool true) = w5 at *
                    clear k4 g4 x4
                    have k5 := HRG5.out.h0
                    rw [List.length_set, HHR.out.2.2] at k5
                    have g5 := HRG5.out.free (i * 10 + 6)
                    obtain ⟨b', hbb, _, q0, q1, q2, q3, q4, q5, q6, q7, q8, q9⟩ := HRG5.out.at10 (HSETL.out _)
                    injection hbb with hbb; injection hbb with hbb
                    subst hbb
                    have x5 := q6
                    clear q0 q1 q2 q3 q4 q5 q6 q7 q8 q9
                    have hdk := HRG5.out.dt _ (List.mem_of_getElem? (HSETL.out _))
                    have hpk := HRG5.out.put (HSETL.out _) (j := 6) (v' := { v1 with fresh := true, called := true, inn := acc, iA := A7, ic := c7 }) (u := .slice A7 acc.length c7) (by decide) rfl ⟨hdk.1, Rd.of_own HIN5.out, fun ad e hn => HINX.out ad.block (by have e : A7 = some ad := e; rw [e]; rfl)⟩
                    rw [List.set_set] at hpk
                    have HRG6 := Lib.hid hpk
                    have HKO6 := Lib.hid (HKO5.out.trans (KO.put (w := w5) (g := b) (i := i * 10 + 6) (u := .slice A7 acc.length c7) hbx))
                    have HIN6 := Lib.hid ((KO.put (X := Two rb (some ⟨b, 0, none⟩)) (w := w5) (g := b) (i := i * 10 + 6) (u := .slice A7 acc.length c7) hbx).row HTW.out HIN5.out)
                    clear hdk hpk
                    go_upto_region 26 with fail
                    generalize w5.setCell ⟨b, i * 10 + 6, none⟩ (.slice A7 acc.length c7) = w6 at *
                    clear k5 g5 x5
                    have k6 := HRG6.out.h0
                    rw [List.length_set, HHR.out.2.2] at k6
                    have g6 := HRG6.out.free (i * 10 + 7)
                    obtain ⟨b', hbb, _, q0, q1, q2, q3, q4, q5, q6, q7, q8, q9⟩ := HRG6.out.at10 (HSETL.out _)
                    injection hbb with hbb; injection hbb with hbb
                    subst hbb
                    have x6 := q7
                    clear q0 q1 q2 q3 q4 q5 q6 q7 q8 q9
                    have hdk := HRG6.out.dt _ (List.mem_of_getElem? (HSETL.out _))
                    have hpk := HRG6.out.put (HSETL.out _) (j := 7) (v' := { v1 with fresh := true, called := true, inn := acc, iA := A7, ic := c7, out := [] }) (u := .string ⟨#[]⟩) (by decide) rfl hdk
                    rw [List.set_set] at hpk
                    have HRG7 := Lib.hid hpk
                    have HKO7 := Lib.hid (HKO6.out.trans (KO.put (w := w6) (g := b) (i := i * 10 + 7) (u := .string ⟨#[]⟩) hbx))
                    have HIN7 := Lib.hid ((KO.put (X := Two rb (some ⟨b, 0, none⟩)) (w := w6) (g := b) (i := i * 10 + 7) (u := .string ⟨#[]⟩) hbx).row HTW.out HIN6.out)
                    clear hdk hpk
                    go_upto_region 27 with fail
                    generalize w6.setCell ⟨b, i * 10 + 7, none⟩ (.string ⟨#[]⟩) = w7 at *
                    clear k6 g6 x6
                    have k7 := HRG7.out.h0
                    rw [List.length_set, HHR.out.2.2] at k7
                    have g7 := HRG7.out.free (i * 10 + 8)
                    obtain ⟨b', hbb, _, q0, q1, q2, q3, q4, q5, q6, q7, q8, q9⟩ := HRG7.out.at10 (HSETL.out _)
                    injection hbb with hbb; injection hbb with hbb
                    subst hbb
                    have x7 := q8
                    clear q0 q1 q2 q3 q4 q5 q6 q7 q8 q9
                    have hdk := HRG7.out.dt _ (List.mem_of_getElem? (HSETL.out _))
                    have hpk := HRG7.out.put (HSETL.out _) (j := 8) (v' := { v1 with fresh := true, called := true, inn := acc, iA := A7, ic := c7, out := [], e := fs }) (u := .int .i64 (fs : Int)) (by decide) rfl hdk
                    rw [List.set_set] at hpk
                    have HRG8 := Lib.hid hpk
                    have HKO8 := Lib.hid (HKO7.out.trans (KO.put (w := w7) (g := b) (i := i * 10 + 8) (u := .int .i64 (fs : Int)) hbx))
                    have HIN8 := Lib.hid ((KO.put (X := Two rb (some ⟨b, 0, none⟩)) (w := w7) (g := b) (i := i * 10 + 8) (u := .int .i64 (fs : Int)) hbx).row HTW.out HIN7.out)
                    clear hdk hpk
                    go_upto_region 28 with fail
                    generalize w7.setCell ⟨b, i * 10 + 8, none⟩ (.int .i64 (fs : Int)) = w8 at *
                    clear k7 g7 x7
                    have k8 := HRG8.out.h0
                    rw [List.length_set, HHR.out.2.2] at k8
                    obtain ⟨b', hbb, _, q0, q1, q2, q3, q4, q5, q6, q7, q8, q9⟩ := HRG8.out.at10 (HSETL.out _)
                    injection hbb with hbb; injection hbb with hbb
                    subst hbb
                    clear q0 q1 q2 q3 q4 q5 q6 q9
                    simp only at q7 q8
                    have HAB8 : Hid (absG (Lz.set i { v1 with fresh := true, called := true, inn := acc, iA := A7, ic := c7, out := [], e := fs }) (Nz + 1) = RES.1) := Lib.hid (by
                      rw [HRS2.out]
                      rw [HABS.out { v1 with fresh := true, called := true, inn := acc, iA := A7, ic := c7, out := [], e := fs } (fun r => { r with stale := false, called := true, inn := acc, val := (applyV r.f acc).1, e := (applyV r.f acc).2 }) rfl HHR.out.1 (by unfold toR; rw [HAP2.out]; rfl) (Nz + 1)]
                      unfold freshX
                      simp only
                      rw [modR_modR _ _ (fun r : RuleS => { r with stale := false }) (fun r : RuleS => { r with called := true, inn := acc, val := (applyV r.f acc).1, e := (applyV r.f acc).2 }) (fun _ => rfl)])
                    have HRES2 : Hid (RES.2 = ([], fs)) := Lib.hid (by rw [HRS2.out, ← HAP2.out])
                    have HVL : Hid (([] : Nm).length ≤ 1000) := Lib.hid (by have := applyV_small (fN v1.F) acc; rw [HAP2.out] at this; exact this)
                    have HQ : Hid (REnd rb (some ⟨b, 0, none⟩) c (fun L' N' => absG L' N' = RES.1 ∧ Sh L L' ∧ GoodL L' ∧ RES.2.1.length ≤ 1000) w0 wx w8 X) := Lib.hid ⟨_, _, _, HRG8.out, HKO8.out, fun q hq => by
                      rcases hq with hq | hq
                      · exact HXZ.out q hq
                      · exact .inr hq.1, HAB8.out, HSH.out _ ⟨rfl, rfl, rfl, rfl, rfl⟩, HGL.out _ rfl rfl rfl rfl HVL.out (by simp only; omega), by rw [HRES2.out]; exact HVL.out⟩
                    have HRV : Hid (ResV RES.2 = .tuple #[.string (B []), .int .i64 ((fs : Nat) : Int)]) := Lib.hid (by rw [HRES2.out]; rfl)
                    clear HAB8 HRG8 HKO8 HIN8
                    go_wp2_with fail
                    go_quiet (fail)
                    go_wp2
                    rw [HRV.out]
                    go_ret2
                    obtain ⟨L9, N9, X9, r1, r2, r3, r4⟩ := HQ.out
                    exact ⟨rfl, L9, N9, X9, r1.below (below_dn (Below.refl _ _) _), r2.trans (KO.of_below (below_dn (Below.refl _ _) _)), r3, r4⟩
              · have hcl2 : v1.called = false := by simpa using hcl
                rw [hcl2] at d5
                clear hdt2
                have HRS2 : Hid (RES = ({ freshX (absG Lz Nz) n with runs := Nz + 1, rules := modR n (fun r => { r with called := true, inn := acc, val := (applyV r.f acc).1, e := (applyV r.f acc).2 }) (freshX (absG Lz Nz) n).rules }, applyV (fN v1.F) acc)) := Lib.hid (by
                  rw [HRS.out]; unfold callX; rw [HFIND.out]; simp only
                  rw [if_neg (fun h => hcl h.1)]; rfl)
                have hrunb : Nz + 1 ≤ 1000000 := by have h := HRUN.out; rw [HRS2.out] at h; exact h
                have hsm : (IntKind.i64.wrap ((Nz : Int) + 1)) = (Nz : Int) + 1 := IntWalk.i64_in _ (by omega)
                have hcc : ((Nz + 1 : Nat) : Int) = (Nz : Int) + 1 := by omega
                have kN := HRG2.out.h1
                have fN1 := HRG2.out.hfree 1
                have HRG3 := Lib.hid ((HRG2.out.runs (Nz + 1)).more (Y := fun q => Xz q ∨ (wx.heap.size ≤ q ∧ q < w2.heap.size)) (fun q hq => .inl hq) (fun q hq => by
                  rcases hq with hq | hq
                  · exact ⟨(HRG2.out.xs q hq).1, by have := (HRG2.out.xs q hq).2; simpa [World.setCell] using this⟩
                  · exact ⟨Nat.le_trans H.out.b.size hq.1, by simpa [World.setCell] using hq.2⟩))
                have HKO3 := Lib.hid (HKO2.out.trans (KO.put (w := w2) (g := rb) (i := 1) (u := .int .i64 ((Nz + 1 : Nat) : Int)) hrbx))
                have HIN3 := Lib.hid ((KO.put (X := Two rb (some ⟨b, 0, none⟩)) (w := w2) (g := rb) (i := 1) (u := .int .i64 ((Nz + 1 : Nat) : Int)) hrbx).row HTW.out HIN2.out)
                have HINX : Hid (∀ q, (Value.slice A7 acc.length c7).ownBlock = some q → (Xz q ∨ (wx.heap.size ≤ q ∧ q < w2.heap.size)) ∧ q ≠ rb ∧ some b ≠ some q) := Lib.hid (fun q hq => by
                  obtain ⟨x1, x2⟩ := HIN2.out.lt q hq
                  have y1 := HTW.out rb hrbx
                  have y2 := HTW.out b hbx
                  exact ⟨.inr ⟨x1, x2⟩, by omega, fun e => by injection e with e; omega⟩)
                rw [hcc] at HRG3 HKO3 HIN3
                go_upto_region 21 with fail
                generalize w2.setCell ⟨rb, 1, none⟩ (.int .i64 ((Nz : Int) + 1)) = w3 at *
                clear hcc
                have k3 := HRG3.out.h0
                rw [List.length_set, HHR.out.2.2] at k3
                obtain ⟨b', hbb, _, q0, q1, q2, q3, q4, q5, q6, q7, q8, q9⟩ := HRG3.out.at10 (HSETL.out _)
                injection hbb with hbb; injection hbb with hbb
                subst hbb
                clear q0 q1 q2 q3 q5 q6 q7 q8 q9
                have HVAL := Lib.hid (value_all v1.F A7 acc.length c7 acc w3 (Rd.of_own HIN3.out) (by omega) HSM.out HHI.out.2.2)
                have HAPV : Hid (applyV (fN v1.F) acc = if (valueX (fN v1.F) acc).2 = 0 then valueX (fN v1.F) acc else ([], (valueX (fN v1.F) acc).2)) := Lib.hid rfl
                obtain ⟨Y, hYY⟩ : ∃ Y, valueX (fN v1.F) acc = Y := ⟨_, rfl⟩
                rw [hYY] at HVAL HAPV
                obtain ⟨vs, fs⟩ := Y
                simp only [ResV] at HVAL HAPV
                clear kN fN1 hYY
                go_wp2_with fail
                refine HVAL.out.mono ?_
                rintro e w4 ⟨rfl, hb4⟩
                have HRG4 := Lib.hid (HRG3.out.below hb4)
                have HKO4 := Lib.hid (HKO3.out.trans (KO.of_below hb4))
                have HIN4 := Lib.hid (own_below HIN3.out hb4)
                clear hb4 k3 q4 HVAL HRG3 HKO3 HIN3
                by_cases hfs : fs = 0
                · subst hfs
                  have HAP2 : Hid (applyV (fN v1.F) acc = (vs, 0)) := Lib.hid (by rw [HAPV.out, if_pos rfl])
                  have k4 := HRG4.out.h0
                  rw [List.length_set, HHR.out.2.2] at k4
                  have g4 := HRG4.out.free (i * 10 + 5)
                  obtain ⟨b', hbb, _, q0, q1, q2, q3, q4, q5, q6, q7, q8, q9⟩ := HRG4.out.at10 (HSETL.out _)
                  injection hbb with hbb; injection hbb with hbb
                  subst hbb
                  have x4 := q5
                  clear q0 q1 q2 q3 q4 q5 q6 q7 q8 q9
                  have hdk := HRG4.out.dt _ (List.mem_of_getElem? (HSETL.out _))
                  have hpk := HRG4.out.put (HSETL.out _) (j := 5) (v' := { v1 with fresh := true, called := true }) (u := .bool true) (by decide) rfl hdk
                  rw [List.set_set] at hpk
                  have HRG5 := Lib.hid hpk
                  have HKO5 := Lib.hid (HKO4.out.trans (KO.put (w := w4) (g := b) (i := i * 10 + 5) (u := .bool true) hbx))
                  have HIN5 := Lib.hid ((KO.put (X := Two rb (some ⟨b, 0, none⟩)) (w := w4) (g := b) (i := i * 10 + 5) (u := .bool true) hbx).row HTW.out HIN4.out)
                  clear hdk hpk
                  go_upto_region 25 with fail
                  generalize w4.setCell ⟨b, i * 10 + 5, none⟩ (.bool true) = w5 at *
                  clear k4 g4 x4
                  have k5 := HRG5.out.h0
                  rw [List.length_set, HHR.out.2.2] at k5
                  have g5 := HRG5.out.free (i * 10 + 6)
                  obtain ⟨b', hbb, _, q0, q1, q2, q3, q4, q5, q6, q7, q8, q9⟩ := HRG5.out.at10 (HSETL.out _)
                  injection hbb with hbb; injection hbb with hbb
                  subst hbb
                  have x5 := q6
                  clear q0 q1 q2 q3 q4 q5 q6 q7 q8 q9
                  have hdk := HRG5.out.dt _ (List.mem_of_getElem? (HSETL.out _))
                  have hpk := HRG5.out.put (HSETL.out _) (j := 6) (v' := { v1 with fresh := true, called := true, inn := acc, iA := A7, ic := c7 }) (u := .slice A7 acc.length c7) (by decide) rfl ⟨hdk.1, Rd.of_own HIN5.out, fun ad e hn => HINX.out ad.block (by have e : A7 = some ad := e; rw [e]; rfl)⟩
                  rw [List.set_set] at hpk
                  have HRG6 := Lib.hid hpk
                  have HKO6 := Lib.hid (HKO5.out.trans (KO.put (w := w5) (g := b) (i := i * 10 + 6) (u := .slice A7 acc.length c7) hbx))
                  have HIN6 := Lib.hid ((KO.put (X := Two rb (some ⟨b, 0, none⟩)) (w := w5) (g := b) (i := i * 10 + 6) (u := .slice A7 acc.length c7) hbx).row HTW.out HIN5.out)
                  clear hdk hpk
                  go_upto_region 26 with fail
                  generalize w5.setCell ⟨b, i * 10 + 6, none⟩ (.slice A7 acc.length c7) = w6 at *
                  clear k5 g5 x5
                  have k6 := HRG6.out.h0
                  rw [List.length_set, HHR.out.2.2] at k6
                  have g6 := HRG6.out.free (i * 10 + 7)
                  obtain ⟨b', hbb, _, q0, q1, q2, q3, q4, q5, q6, q7, q8, q9⟩ := HRG6.out.at10 (HSETL.out _)
                  injection hbb with hbb; injection hbb with hbb
                  subst hbb
                  have x6 := q7
                  clear q0 q1 q2 q3 q4 q5 q6 q7 q8 q9
                  have hdk := HRG6.out.dt _ (List.mem_of_getElem? (HSETL.out _))
                  have hpk := HRG6.out.put (HSETL.out _) (j := 7) (v' := { v1 with fresh := true, called := true, inn := acc, iA := A7, ic := c7, out := vs }) (u := .string (B vs)) (by decide) rfl hdk
                  rw [List.set_set] at hpk
                  have HRG7 := Lib.hid hpk
                  have HKO7 := Lib.hid (HKO6.out.trans (KO.put (w := w6) (g := b) (i := i * 10 + 7) (u := .string (B vs)) hbx))
                  have HIN7 := Lib.hid ((KO.put (X := Two rb (some ⟨b, 0, none⟩)) (w := w6) (g := b) (i := i * 10 + 7) (u := .string (B vs)) hbx).row HTW.out HIN6.out)
                  clear hdk hpk
                  go_upto_region 27 with fail
                  generalize w6.setCell ⟨b, i * 10 + 7, none⟩ (.string (B vs)) = w7 at *
                  clear k6 g6 x6
                  have k7 := HRG7.out.h0
                  rw [List.length_set, HHR.out.2.2] at k7
                  have g7 := HRG7.out.free (i * 10 + 8)
                  obtain ⟨b', hbb, _, q0, q1, q2, q3, q4, q5, q6, q7, q8, q9⟩ := HRG7.out.at10 (HSETL.out _)
                  injection hbb with hbb; injection hbb with hbb
                  subst hbb
                  have x7 := q8
                  clear q0 q1 q2 q3 q4 q5 q6 q7 q8 q9
                  have hdk := HRG7.out.dt _ (List.mem_of_getElem? (HSETL.out _))
                  have hpk := HRG7.out.put (HSETL.out _) (j := 8) (v' := { v1 with fresh := true, called := true, inn := acc, iA := A7, ic := c7, out := vs, e := 0 }) (u := .int .i64 0) (by decide) rfl hdk
                  rw [List.set_set] at hpk
                  have HRG8 := Lib.hid hpk
                  have HKO8 := Lib.hid (HKO7.out.trans (KO.put (w := w7) (g := b) (i := i * 10 + 8) (u := .int .i64 0) hbx))
                  have HIN8 := Lib.hid ((KO.put (X := Two rb (some ⟨b, 0, none⟩)) (w := w7) (g := b) (i := i * 10 + 8) (u := .int .i64 0) hbx).row HTW.out HIN7.out)
                  clear hdk hpk
                  go_upto_region 28 with fail
                  generalize w7.setCell ⟨b, i * 10 + 8, none⟩ (.int .i64 0) = w8 at *
                  clear k7 g7 x7
                  have k8 := HRG8.out.h0
                  rw [List.length_set, HHR.out.2.2] at k8
                  obtain ⟨b', hbb, _, q0, q1, q2, q3, q4, q5, q6, q7, q8, q9⟩ := HRG8.out.at10 (HSETL.out _)
                  injection hbb with hbb; injection hbb with hbb
                  subst hbb
                  clear q0 q1 q2 q3 q4 q5 q6 q9
                  simp only at q7 q8
                  have HAB8 : Hid (absG (Lz.set i { v1 with fresh := true, called := true, inn := acc, iA := A7, ic := c7, out := vs, e := 0 }) (Nz + 1) = RES.1) := Lib.hid (by
                    rw [HRS2.out]
                    rw [HABS.out { v1 with fresh := true, called := true, inn := acc, iA := A7, ic := c7, out := vs, e := 0 } (fun r => { r with stale := false, called := true, inn := acc, val := (applyV r.f acc).1, e := (applyV r.f acc).2 }) rfl HHR.out.1 (by unfold toR; rw [HAP2.out]; rfl) (Nz + 1)]
                    unfold freshX
                    simp only
                    rw [modR_modR _ _ (fun r : RuleS => { r with stale := false }) (fun r : RuleS => { r with called := true, inn := acc, val := (applyV r.f acc).1, e := (applyV r.f acc).2 }) (fun _ => rfl)])
                  have HRES2 : Hid (RES.2 = (vs, 0)) := Lib.hid (by rw [HRS2.out, ← HAP2.out])
                  have HVL : Hid ((vs : Nm).length ≤ 1000) := Lib.hid (by have := applyV_small (fN v1.F) acc; rw [HAP2.out] at this; exact this)
                  have HQ : Hid (REnd rb (some ⟨b, 0, none⟩) c (fun L' N' => absG L' N' = RES.1 ∧ Sh L L' ∧ GoodL L' ∧ RES.2.1.length ≤ 1000) w0 wx w8 X) := Lib.hid ⟨_, _, _, HRG8.out, HKO8.out, fun q hq => by
                    rcases hq with hq | hq
                    · exact HXZ.out q hq
                    · exact .inr hq.1, HAB8.out, HSH.out _ ⟨rfl, rfl, rfl, rfl, rfl⟩, HGL.out _ rfl rfl rfl rfl HVL.out (by simp only; omega), by rw [HRES2.out]; exact HVL.out⟩
                  have HRV : Hid (ResV RES.2 = .tuple #[.string (B vs), .int .i64 ((0 : Nat) : Int)]) := Lib.hid (by rw [HRES2.out]; rfl)
                  clear HAB8 HRG8 HKO8 HIN8
                  go_wp2_with fail
                  go_quiet (fail)
                  go_wp2
                  rw [HRV.out]
                  go_ret2
                  obtain ⟨L9, N9, X9, r1, r2, r3, r4⟩ := HQ.out
                  exact ⟨rfl, L9, N9, X9, r1.below (below_dn (Below.refl _ _) _), r2.trans (KO.of_below (below_dn (Below.refl _ _) _)), r3, r4⟩
                · have hfs2 : ((fs : Int) == 0) = false := by rw [beq_eq_false_iff_ne]; omega
                  have HAP2 : Hid (applyV (fN v1.F) acc = ([], fs)) := Lib.hid (by rw [HAPV.out, if_neg hfs])
                  have k4 := HRG4.out.h0
                  rw [List.length_set, HHR.out.2.2] at k4
                  have g4 := HRG4.out.free (i * 10 + 5)
                  obtain ⟨b', hbb, _, q0, q1, q2, q3, q4, q5, q6, q7, q8, q9⟩ := HRG4.out.at10 (HSETL.out _)
                  injection hbb with hbb; injection hbb with hbb
                  subst hbb
                  have x4 := q5
                  clear q0 q1 q2 q3 q4 q5 q6 q7 q8 q9
                  have hdk := HRG4.out.dt _ (List.mem_of_getElem? (HSETL.out _))
                  have hpk := HRG4.out.put (HSETL.out _) (j := 5) (v' := { v1 with fresh := true, called := true }) (u := .bool true) (by decide) rfl hdk
                  rw [List.set_set] at hpk
                  have HRG5 := Lib.hid hpk
                  have HKO5 := Lib.hid (HKO4.out.trans (KO.put (w := w4) (g := b) (i := i * 10 + 5) (u := .bool true) hbx))
                  have HIN5 := Lib.hid ((KO.put (X := Two rb (some ⟨b, 0, none⟩)) (w := w4) (g := b) (i := i * 10 + 5) (u := .bool true) hbx).row HTW.out HIN4.out)
                  clear hdk hpk
                  go_upto_region 25 with fail
                  generalize w4.setCell ⟨b, i * 10 + 5, none⟩ (.bool true) = w5 at *
                  clear k4 g4 x4
                  have k5 := HRG5.out.h0
                  rw [List.length_set, HHR.out.2.2] at k5
                  have g5 := HRG5.out.free (i * 10 + 6)
                  obtain ⟨b', hbb, _, q0, q1, q2, q3, q4, q5, q6, q7, q8, q9⟩ := HRG5.out.at10 (HSETL.out _)
                  injection hbb with hbb; injection hbb with hbb
                  subst hbb
                  have x5 := q6
                  clear q0 q1 q2 q3 q4 q5 q6 q7 q8 q9
                  have hdk := HRG5.out.dt _ (List.mem_of_getElem? (HSETL.out _))
                  have hpk := HRG5.out.put (HSETL.out _) (j := 6) (v' := { v1 with fresh := true, called := true, inn := acc, iA := A7, ic := c7 }) (u := .slice A7 acc.length c7) (by decide) rfl ⟨hdk.1, Rd.of_own HIN5.out, fun ad e hn => HINX.out ad.block (by have e : A7 = some ad := e; rw [e]; rfl)⟩
                  rw [List.set_set] at hpk
                  have HRG6 := Lib.hid hpk
                  have HKO6 := Lib.hid (HKO5.out.trans (KO.put (w := w5) (g := b) (i := i * 10 + 6) (u := .slice A7 acc.length c7) hbx))
                  have HIN6 := Lib.hid ((KO.put (X := Two rb (some ⟨b, 0, none⟩)) (w := w5) (g := b) (i := i * 10 + 6) (u := .slice A7 acc.length c7) hbx).row HTW.out HIN5.out)
                  clear hdk hpk
                  go_upto_region 26 with fail
                  generalize w5.setCell ⟨b, i * 10 + 6, none⟩ (.slice A7 acc.length c7) = w6 at *
                  clear k5 g5 x5
                  have k6 := HRG6.out.h0
                  rw [List.length_set, HHR.out.2.2] at k6
                  have g6 := HRG6.out.free (i * 10 + 7)
                  obtain ⟨b', hbb, _, q0, q1, q2, q3, q4, q5, q6, q7, q8, q9⟩ := HRG6.out.at10 (HSETL.out _)
                  injection hbb with hbb; injection hbb with hbb
                  subst hbb
                  have x6 := q7
                  clear q0 q1 q2 q3 q4 q5 q6 q7 q8 q9
                  have hdk := HRG6.out.dt _ (List.mem_of_getElem? (HSETL.out _))
                  have hpk := HRG6.out.put (HSETL.out _) (j := 7) (v' := { v1 with fresh := true, called := true, inn := acc, iA := A7, ic := c7, out := [] }) (u := .string ⟨#[]⟩) (by decide) rfl hdk
                  rw [List.set_set] at hpk
                  have HRG7 := Lib.hid hpk
                  have HKO7 := Lib.hid (HKO6.out.trans (KO.put (w := w6) (g := b) (i := i * 10 + 7) (u := .string ⟨#[]⟩) hbx))
                  have HIN7 := Lib.hid ((KO.put (X := Two rb (some ⟨b, 0, none⟩)) (w := w6) (g := b) (i := i * 10 + 7) (u := .string ⟨#[]⟩) hbx).row HTW.out HIN6.out)
                  clear hdk hpk
                  go_upto_region 27 with fail
                  generalize w6.setCell ⟨b, i * 10 + 7, none⟩ (.string ⟨#[]⟩) = w7 at *
                  clear k6 g6 x6
                  have k7 := HRG7.out.h0
                  rw [List.length_set, HHR.out.2.2] at k7
                  have g7 := HRG7.out.free (i * 10 + 8)
                  obtain ⟨b', hbb, _, q0, q1, q2, q3, q4, q5, q6, q7, q8, q9⟩ := HRG7.out.at10 (HSETL.out _)
                  injection hbb with hbb; injection hbb with hbb
                  subst hbb
                  have x7 := q8
                  clear q0 q1 q2 q3 q4 q5 q6 q7 q8 q9
                  have hdk := HRG7.out.dt _ (List.mem_of_getElem? (HSETL.out _))
                  have hpk := HRG7.out.put (HSETL.out _) (j := 8) (v' := { v1 with fresh := true, called := true, inn := acc, iA := A7, ic := c7, out := [], e := fs }) (u := .int .i64 (fs : Int)) (by decide) rfl hdk
                  rw [List.set_set] at hpk
                  have HRG8 := Lib.hid hpk
                  have HKO8 := Lib.hid (HKO7.out.trans (KO.put (w := w7) (g := b) (i := i * 10 + 8) (u := .int .i64 (fs : Int)) hbx))
                  have HIN8 := Lib.hid ((KO.put (X := Two rb (some ⟨b, 0, none⟩)) (w := w7) (g := b) (i := i * 10 + 8) (u := .int .i64 (fs : Int)) hbx).row HTW.out HIN7.out)
                  clear hdk hpk
                  go_upto_region 28 with fail
                  generalize w7.setCell ⟨b, i * 10 + 8, none⟩ (.int .i64 (fs : Int)) = w8 at *
                  clear k7 g7 x7
                  have k8 := HRG8.out.h0
                  rw [List.length_set, HHR.out.2.2] at k8
                  obtain ⟨b', hbb, _, q0, q1, q2, q3, q4, q5, q6, q7, q8, q9⟩ := HRG8.out.at10 (HSETL.out _)
                  injection hbb with hbb; injection hbb with hbb
                  subst hbb
                  clear q0 q1 q2 q3 q4 q5 q6 q9
                  simp only at q7 q8
                  have HAB8 : Hid (absG (Lz.set i { v1 with fresh := true, called := true, inn := acc, iA := A7, ic := c7, out := [], e := fs }) (Nz + 1) = RES.1) := Lib.hid (by
                    rw [HRS2.out]
                    rw [HABS.out { v1 with fresh := true, called := true, inn := acc, iA := A7, ic := c7, out := [], e := fs } (fun r => { r with stale := false, called := true, inn := acc, val := (applyV r.f acc).1, e := (applyV r.f acc).2 }) rfl HHR.out.1 (by unfold toR; rw [HAP2.out]; rfl) (Nz + 1)]
                    unfold freshX
                    simp only
                    rw [modR_modR _ _ (fun r : RuleS => { r with stale := false }) (fun r : RuleS => { r with called := true, inn := acc, val := (applyV r.f acc).1, e := (applyV r.f acc).2 }) (fun _ => rfl)])
                  have HRES2 : Hid (RES.2 = ([], fs)) := Lib.hid (by rw [HRS2.out, ← HAP2.out])
                  have HVL : Hid (([] : Nm).length ≤ 1000) := Lib.hid (by have := applyV_small (fN v1.F) acc; rw [HAP2.out] at this; exact this)
                  have HQ : Hid (REnd rb (some ⟨b, 0, none⟩) c (fun L' N' => absG L' N' = RES.1 ∧ Sh L L' ∧ GoodL L' ∧ RES.2.1.length ≤ 1000) w0 wx w8 X) := Lib.hid ⟨_, _, _, HRG8.out, HKO8.out, fun q hq => by
                    rcases hq with hq | hq
                    · exact HXZ.out q hq
                    · exact .inr hq.1, HAB8.out, HSH.out _ ⟨rfl, rfl, rfl, rfl, rfl⟩, HGL.out _ rfl rfl rfl rfl HVL.out (by simp only; omega), by rw [HRES2.out]; exact HVL.out⟩
                  have HRV : Hid (ResV RES.2 = .tuple #[.string (B []), .int .i64 ((fs : Nat) : Int)]) := Lib.hid (by rw [HRES2.out]; rfl)
                  clear HAB8 HRG8 HKO8 HIN8
                  go_wp2_with fail
                  go_quiet (fail)
                  go_wp2
                  rw [HRV.out]
                  go_ret2
                  obtain ⟨L9, N9, X9, r1, r2, r3, r4⟩ := HQ.out
                  exact ⟨rfl, L9, N9, X9, r1.below (below_dn (Below.refl _ _) _), r2.trans (KO.of_below (below_dn (Below.refl _ _) _)), r3, r4⟩
            · have hev2 : ((ev : Int) == 0) = false := by rw [beq_eq_false_iff_ne]; omega
              have HRS : Hid (RES = (freshX (absG Lz Nz) n, ([], ev))) := Lib.hid (by rw [HR.out, HFF.out, if_neg hev]; rfl)
              have HQ : Hid (REnd rb (some ⟨b, 0, none⟩) c (fun L' N' => absG L' N' = RES.1 ∧ Sh L L' ∧ GoodL L' ∧ RES.2.1.length ≤ 1000) w0 wx w2 X) := Lib.hid ⟨_, _, _, HRG2.out, HKO2.out, HXZ.out, by rw [HRS.out]; exact HB2.out, HSH.out _ ⟨rfl, rfl, rfl, rfl, rfl⟩, HGL.out _ rfl rfl rfl rfl HHI.out.1 HHI.out.2.1, by rw [HRS.out]; simp⟩
              have HRV : Hid (ResV RES.2 = .tuple #[.string ⟨#[]⟩, .int .i64 (ev : Int)]) := Lib.hid (by rw [HRS.out]; rfl)
              clear hev
              go_wp2
              rw [HRV.out]
              go_ret2
              exact ⟨rfl, HQ.out⟩
end Go.Proofs.Ytbikldmhfaecpaa
