/-
  Layer 48 (graph), the reference: Set (the walk).
-/
import Derived.Test.YtbikldmhfaecpaaGrRd
namespace Go.Proofs.Ytbikldmhfaecpaa
open Go.RowKit
set_option linter.unusedVariables false
set_option linter.unusedSimpArgs false
attribute [local go_sem] B_data B_size

/-- a graph of the reference after a call -/
def RSt (rb : Nat) (P : List VM → Nat → Prop) (w0 w w' : World) (X : Nat → Prop) : Prop := ∃ A c L N X', RG rb A c L N w0 w' X' ∧ RPost X w w' X' ∧ P L N
theorem RPost.same {X : Nat → Prop} {w w' : World} (h : KO X w w') : RPost X w w' X := ⟨h, fun b hb => .inl hb⟩
theorem KO.wide {X X' : Nat → Prop} {a b c : World} (h : KO X a b) (k : KO X' b c) (hx : ∀ q, X' q → X q ∨ a.heap.size ≤ q) : KO X a c :=
  ⟨fun q hq hn => (k.1 q (Nat.lt_of_lt_of_le hq h.2) (fun h2 => by
    rcases hx q h2 with h3 | h3
    · exact hn h3
    · omega)).trans (h.1 q hq hn), Nat.le_trans h.2 k.2⟩
theorem KO.of_grown {X : Nat → Prop} {w w' : World} {row : Option Nat} (h : w.grownBy w' row) (hr : ∀ q, row = some q → X q) : KO X w w' :=
  ⟨fun b hb hx => h.block b hb (fun e => hx (hr b e.symm)), h.size⟩
theorem Dt.nil {w : World} {X : Nat → Prop} {r1 : Nat} {r2 : Option Nat} {A : Option Addr} : Dt w X r1 r2 A [] := ⟨Rd.nil, fun ad _ h => absurd h (by simp)⟩
theorem stStr : (fun (s : List UInt8) => B s) [] = ⟨#[]⟩ := rfl
set_option maxHeartbeats 16000000 in
set_option maxRecDepth 100000 in
theorem rset_any {rb c N : Nat} {A : Option Addr} {L : List VM} {w0 : World} {X : Nat → Prop} (n v : Nm) (w : World) (h : RG rb A c L N w0 w X) (hl : L.length ≤ 5000) (hnd : ∀ v ∈ L, v.nd.length ≤ 10000) :
    Calls Try.prog 14 #[.pointer (some ⟨rb, 0, none⟩), .string (B n), .string (B v)] w fun e w' => ∃ code, e = .returned (.int .i64 ((code : Nat) : Int)) ∧ RSt rb (fun L' N' => SetR L n v code L' ∧ N' = N) w0 w w' X := by
  obtain ⟨m, hm⟩ : ∃ m, L.length = m := ⟨_, rfl⟩
  have HM := Lib.hid hm
  have H := Lib.hid h
  have HND := Lib.hid hnd
  rw [hm] at hl
  have k0 := h.h0
  rw [hm] at k0
  have hfr := h.hfree 0
  clear hm h hnd
  go_enter Try.func14, Try.ntmps14
  by_cases hn : n = []
  · subst hn
    have HQ : Hid (RSt rb (fun L' N' => SetR L [] v 6 L' ∧ N' = N) w0 w w X) := Lib.hid ⟨A, c, L, N, X, H.out, RPost.same (KO.of_below (Below.refl _ _)), .inl ⟨rfl, rfl, rfl⟩, rfl⟩
    clear k0 hfr
    go_wp2
    go_ret
    exact ⟨6, rfl, HQ.out⟩
  have hn2 : (n == []) = false := beq_eq_false_iff_ne.2 hn
  have HC := Lib.hid (find_any n w H.out (by rw [HM.out]; omega))
  have HN := Lib.hid hn
  cases hf : findI L n with
  | none =>
    rw [hf] at HC
    have HF := Lib.hid hf
    clear hf
    by_cases hm2 : 1024 ≤ m
    · have HQ : Hid (RSt rb (fun L' N' => SetR L n v 3 L' ∧ N' = N) w0 w w X) := Lib.hid ⟨A, c, L, N, X, H.out, RPost.same (KO.of_below (Below.refl _ _)), .inr (.inr ⟨HN.out, HF.out, .inl ⟨by rw [HM.out]; exact hm2, rfl, rfl⟩⟩), rfl⟩
      clear hn
      go_wp2_with fail
      refine HC.out.mono ?_
      rintro e wx ⟨rfl, rfl⟩
      simp only [fiV]
      go_wp2
      go_ret
      exact ⟨3, rfl, HQ.out⟩
    · clear hn
      go_wp2_with fail
      refine HC.out.mono ?_
      rintro e wx ⟨rfl, rfl⟩
      simp only [fiV]
      have hrow := H.out.row
      rw [HM.out] at hrow
      have hs0 := H.out.b.size
      have HR := Lib.hid hrow
      clear hrow HC
      go_wp2_with (refine wpList_appV rfl (.tmp 43) (.tmp 47) rfl wx (valV n v) w0.heap.size _ m _ HR.out rfl rfl (by omega) hs0 ?_)
      intro g cap w2 ho2 hg2 hb2 hl2 hs2
      have hg2' : wx.grownBy w2 (Value.slice A L.length c).ownBlock := by rw [HM.out]; exact hg2
      have hl2' : (Value.slice A L.length c).ownBlock = some g ∨ wx.heap.size ≤ g := by rw [HM.out]; exact hl2
      have ho2' : w2.ownsRow w0.heap.size 59 10 (.slice (some ⟨g, 0, none⟩) (L.length + 1) cap) (L.length + 1) (L.flatMap vmF ++ vmF (valV n v)) := by rw [HM.out]; exact ho2
      have hp := H.out.push ho2' hg2' hb2 hl2' hs2 (v := valV n v) ⟨Dt.nil, Dt.nil⟩
      have hhd : w2.heap[rb]? = some (.cells #[.slice A m c, .int .i64 (N : Int)] 53 (0, 0)) := by
        rw [← HM.out]
        exact (hg2'.block rb (H.out.xs rb H.out.xr).2 (fun e => (H.out.rx rb e.symm).2 rfl)).trans H.out.hd
      have k2 : w2.cell? ⟨rb, 0, none⟩ = some (.slice A m c) := by simp [World.cell?, hhd]
      have f2 : w2.frozen? ⟨rb, 0, none⟩ = false := by simp [World.frozen?, hhd]
      have HKO := Lib.hid ((KO.of_grown hg2' (fun q e => (H.out.rx q e).1)).trans (KO.put (g := rb) (i := 0) (u := .slice (some ⟨g, 0, none⟩) (L.length + 1) cap) H.out.xr))
      have HP := Lib.hid hp
      rw [HM.out] at HP HKO
      have hlen : (L ++ [valV n v]).length ≤ 100000 := by have := HM.out; simp; omega
      have HST := Lib.hid (rstale_any n _ HP.out hlen (fun a ha => by
        rcases List.mem_append.1 ha with ha | ha
        · exact HND.out a ha
        · rw [List.mem_singleton] at ha; subst ha; simp [valV]))
      have HSZ := Lib.hid hg2.size
      clear hg2 hg2' ho2 ho2' hb2 hl2 hl2' hs2 hp hhd hlen
      go_wp2_with fail
      refine HST.out.mono ?_
      rintro e w3 ⟨rfl, h3, k3⟩
      have HQ : Hid (RSt rb (fun L' N' => SetR L n v 0 L' ∧ N' = N) w0 wx w3 X) := Lib.hid ⟨_, _, _, _, _, h3, ⟨HKO.out.wide k3 (fun q hq => by
        rcases hq with hq | hq
        · exact .inl hq
        · exact .inr hq.1), fun b hb => by
        rcases hb with hb | hb
        · exact .inl hb
        · exact .inr hb.1⟩, .inr (.inr ⟨HN.out, HF.out, .inr ⟨by rw [HM.out]; omega, rfl, rfl⟩⟩), rfl⟩
      clear h3 k3 HST HP HKO
      go_wp2
      go_ret
      exact ⟨0, rfl, HQ.out⟩
  | some i =>
    rw [hf] at HC
    have HF := Lib.hid hf
    obtain ⟨v0, hv0, hvn, _⟩ := findI_some hf
    have him : i < m := by have := (List.getElem?_eq_some_iff.1 hv0).1; rw [HM.out] at this; exact this
    have HV := Lib.hid hv0
    obtain ⟨g, rfl, hg, c0, c1, c2, c3, c4⟩ := H.out.at10 hv0
    clear c3 c4 c0
    have i1 : (0 : Int) ≤ (i : Int) := by omega
    have i2 : (i : Int) < (m : Int) := by omega
    have hfz := H.out.free (i * 10 + 2)
    clear hf hv0 hn hvn
    cases hr : v0.rule with
    | true =>
      rw [hr] at c1
      have HQ : Hid (RSt rb (fun L' N' => SetR L n v 7 L' ∧ N' = N) w0 w w X) := Lib.hid ⟨_, c, L, N, X, H.out, RPost.same (KO.of_below (Below.refl _ _)), .inr (.inl ⟨HN.out, i, v0, HF.out, HV.out, .inl ⟨hr, rfl, rfl⟩⟩), rfl⟩
      clear hr
      go_wp2_with fail
      refine HC.out.mono ?_
      rintro e wx ⟨rfl, rfl⟩
      simp only [fiV]
      go_wp2
      go_ret
      exact ⟨7, rfl, HQ.out⟩
    | false =>
      rw [hr] at c1
      by_cases hvl : v0.vl = v
      · have HQ : Hid (RSt rb (fun L' N' => SetR L n v 0 L' ∧ N' = N) w0 w w X) := Lib.hid ⟨_, c, L, N, X, H.out, RPost.same (KO.of_below (Below.refl _ _)), .inr (.inl ⟨HN.out, i, v0, HF.out, HV.out, .inr (.inl ⟨hr, hvl, rfl, rfl⟩)⟩), rfl⟩
        rw [hvl] at c2
        clear hr hvl
        go_wp2_with fail
        refine HC.out.mono ?_
        rintro e wx ⟨rfl, rfl⟩
        simp only [fiV]
        go_wp2
        go_ret
        exact ⟨0, rfl, HQ.out⟩
      · have hv2 : (v0.vl == v) = false := beq_eq_false_iff_ne.2 hvl
        have hdt := H.out.dt v0 (List.mem_of_getElem? HV.out)
        have HP := Lib.hid (H.out.put HV.out (j := 2) (v' := { v0 with vl := v }) (u := .string (B v)) (by decide) rfl hdt)
        have hlen : (L.set i { v0 with vl := v }).length ≤ 100000 := by rw [List.length_set, HM.out]; omega
        have HST := Lib.hid (rstale_any n _ HP.out hlen (fun a ha => by
          rcases List.mem_or_eq_of_mem_set ha with ha | rfl
          · exact HND.out a ha
          · exact HND.out v0 (List.mem_of_getElem? HV.out)))
        have HKO := Lib.hid (KO.put (w := w) (g := g) (i := i * 10 + 2) (u := .string (B v)) (H.out.rx g rfl).1)
        have HS : Hid (SetR L n v 0 ((L.set i { v0 with vl := v }).map (mkV (StV (L.set i { v0 with vl := v }) n)))) := Lib.hid (.inr (.inl ⟨HN.out, i, v0, HF.out, HV.out, .inr (.inr ⟨hr, hvl, rfl, rfl⟩)⟩))
        clear hr hvl hdt hlen
        go_wp2_with fail
        refine HC.out.mono ?_
        rintro e wx ⟨rfl, rfl⟩
        simp only [fiV]
        go_wp2_with fail
        refine HST.out.mono ?_
        rintro e w3 ⟨rfl, h3, k3⟩
        have HQ : Hid (RSt rb (fun L' N' => SetR L n v 0 L' ∧ N' = N) w0 wx w3 X) := Lib.hid ⟨_, _, _, _, _, h3, ⟨HKO.out.trans k3, fun b hb => .inl hb⟩, HS.out, rfl⟩
        clear h3 k3 HST HP HKO
        go_wp2
        go_ret
        exact ⟨0, rfl, HQ.out⟩
end Go.Proofs.Ytbikldmhfaecpaa
