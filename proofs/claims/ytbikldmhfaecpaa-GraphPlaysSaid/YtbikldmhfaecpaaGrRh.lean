/-
  Layer 48 (graph), the reference: reach (the walk; printed by gen_grrh.py).
-/
import Derived.Test.YtbikldmhfaecpaaGrRg
namespace Go.Proofs.Ytbikldmhfaecpaa
open Go.RowKit
set_option linter.unusedVariables false
set_option linter.unusedSimpArgs false
attribute [local go_sem] B_data B_size

abbrev TRow (w : World) (base : Nat) (v : Value) (l : List Nm) : Prop := w.ownsRow base 9 1 v l.length (strs l)
def Apart (u v : Value) : Prop := ∀ b, u.ownBlock = some b → v.ownBlock ≠ some b
theorem Apart.kept {w w' : World} {base : Nat} {u v : Value} {l : List Nm} (h : Apart u v) (hu : TRow w base u l) (hg : w.grownBy w' v.ownBlock) : TRow w' base u l :=
  hu.kept hg (by
    cases hb : u.ownBlock with
    | none => exact .inl rfl
    | some b => exact .inr (fun e => h b hb e.symm))
theorem Apart.symm {u v : Value} (h : Apart u v) : Apart v u := fun b h1 h2 => h b h2 h1
theorem Apart.grow {w : World} {base g n cap : Nat} {u v : Value} {l : List Nm} (h : Apart u v) (hu : TRow w base u l) (hl : v.ownBlock = some g ∨ w.heap.size < g) : Apart u (.slice (some ⟨g, 0, none⟩) n cap) := fun b hb e => by
  have e : some g = some b := e
  injection e with e; subst e
  rcases hl with hl | hl
  · exact h g hb hl
  · have := (hu.lt g hb).2; omega
set_option maxHeartbeats 16000000 in
set_option maxRecDepth 100000 in
theorem reach_any {rb c N : Nat} {A : Option Addr} {L : List VM} {w0 : World} {X : Nat → Prop} (a : Nm) (w : World) (h : RG rb A c L N w0 w X) (hl : L.length ≤ 5000) (hnd : ∀ v ∈ L, v.nd.length ≤ 10000) :
    Calls Try.prog 43 #[.pointer (some ⟨rb, 0, none⟩), .string (B a)] w fun e w' => ∃ v out, e = .returned v ∧ TRow w' w.heap.size v out ∧ Below w.heap.size w w' ∧ (∀ x, x ∈ out ↔ ReP L a x) ∧ out.length ≤ 50000000 := by
  obtain ⟨S, hS⟩ : ∃ S, (L.flatMap (·.nd)).length = S := ⟨_, rfl⟩
  have hSb : S ≤ 50000000 := by have := flat_lenV L hnd; omega
  have HS := Lib.hid hS
  have H := Lib.hid h
  have HND := Lib.hid hnd
  have HL := Lib.hid hl
  have HRO : Hid (TRow (w.alloc (.cells #[.string (B a)] 9)) w.heap.size (.slice (some ⟨w.heap.size, 0, none⟩) 1 1) [a]) := Lib.hid (World.ownsRow_lit w #[.string (B a)] 1 (Nat.le_refl _) (by decide) rfl)
  have HB0 := Lib.hid (below_alloc w (.cells #[.string (B a)] 9))
  clear hS h hnd hl
  go_enter Try.func43, Try.ntmps43
  go_wp2
  generalize w.alloc (.cells #[.string (B a)] 9) = w1 at *
  go_loopw [5, 6, 7, 8, 10] (fun v5 v6 v7 _ _ wr => ∃ (k : Nat) (names out : List Nm), v7 = .int .i64 k ∧ k ≤ names.length ∧ Below w.heap.size w wr ∧ TRow wr w.heap.size v5 names ∧ TRow wr w.heap.size v6 out ∧ Hid (Apart v5 v6) ∧ Hid (RI L a names out ∧ RClosed L names out k)) (fun _ _ k _ _ _ => S + 1 - (intOf k).toNat)
  case atStart => exact ⟨0, [a], [], rfl, Nat.zero_le _, HB0.out, HRO.out, World.ownsRow_nil _ _ _ _, Lib.hid (fun b h e => by cases e), Lib.hid ⟨⟨by simp, by simp, by simp, fun x hx => .inl (by simpa using hx), by simp⟩, fun x hx => by simp at hx⟩⟩
  case round =>
    obtain ⟨k, names, out, rfl, hk, hbw, ho1, ho2, hap, hri⟩ := hrel
    have hlen := hri.out.1.nlen
    rw [HS.out] at hlen
    obtain ⟨p, hp⟩ : ∃ p, names.length = p := ⟨_, rfl⟩
    have HP := Lib.hid hp
    have ho1' := ho1
    unfold TRow at ho1'
    rw [hp] at ho1' hk hlen
    obtain ⟨A1, c1, rfl, _⟩ := own_form ho1'
    clear hp
    by_cases hlt : k < p
    · obtain ⟨s, hs⟩ := get_of (l := names) (k := k) (by rw [HP.out]; exact hlt)
      obtain ⟨g1, o1, rfl, hg1, d0⟩ := (Rd.of_own ho1').strk hs
      have i1 : (0 : Int) ≤ (k : Int) := by omega
      have i2 : (k : Int) < (p : Int) := by omega
      have hR := H.out.below hbw
      have HC := Lib.hid (find_any s wr hR (by have := HL.out; omega))
      have HSS := Lib.hid hs
      have HBW := Lib.hid hbw
      have HO1 := Lib.hid ho1
      have HO2 := Lib.hid ho2
      have HRI := Lib.hid hri.out
      clear hs ho1 ho2 ho1' hri
      cases hf : findI L s with
      | none =>
        rw [hf] at HC
        have HCL : Hid (RClosed L names out (k + 1)) := Lib.hid (fun x hx y hy => by
          rw [take_one HSS.out] at hx
          rcases List.mem_append.1 hx with hx | hx
          · exact HRI.out.2 x hx y hy
          · rw [List.mem_singleton] at hx; subst hx; rw [ndV_none hf] at hy; cases hy)
        clear hf hR hbw
        go_wp2_with fail
        refine HC.out.mono ?_
        rintro e wx ⟨rfl, rfl⟩
        simp only [fiV]
        go_wp2
        go_roundw
        case rel => exact ⟨k + 1, names, out, by go_num, by rw [HP.out]; omega, HBW.out, HO1.out, HO2.out, hap, Lib.hid ⟨HRI.out.1, HCL.out⟩⟩
        case measure => simp [intOf]; omega
      | some i =>
        rw [hf] at HC
        obtain ⟨v, hv, _, _⟩ := findI_some hf
        have hndv := ndV_some hf hv
        have hmem := List.mem_of_getElem? hv
        have hnl := HND.out v hmem
        have HNV := Lib.hid hndv
        have HMEM := Lib.hid hmem
        have k0 := hR.h0
        obtain ⟨g, rfl, hg, c0, c1', c2, c3, c4⟩ := hR.at10 hv
        have him : i < L.length := (List.getElem?_eq_some_iff.1 hv).1
        have j1 : (0 : Int) ≤ (i : Int) := by omega
        have j2 : (i : Int) < (L.length : Int) := by omega
        have hLL := HL.out
        obtain ⟨t, ht⟩ : ∃ t, v.nd.length = t := ⟨_, rfl⟩
        have HT := Lib.hid ht
        rw [ht] at c3 hnl
        clear hf hv hndv hmem ht c0 c1' c2 c4 hR hbw
        go_wp2_with fail
        refine HC.out.mono ?_
        rintro e wx ⟨rfl, rfl⟩
        simp only [fiV]
        go_wp2
        go_loopw [5, 6, 10, 36] (fun v5 v6 _ v36 wr => ∃ (z : Nat) (ns ot : List Nm), v36 = .int .i64 z ∧ z ≤ t ∧ k < ns.length ∧ Below w.heap.size w wr ∧ TRow wr w.heap.size v5 ns ∧ TRow wr w.heap.size v6 ot ∧ Hid (Apart v5 v6) ∧ Hid (RI L a ns ot ∧ RClosed L ns ot k ∧ ns[k]? = some s ∧ ∀ y ∈ v.nd.take z, y ∈ ns ∧ y ∈ ot)) (fun _ _ _ z _ => t - (intOf z).toNat)
        case atStart => exact ⟨0, names, out, rfl, Nat.zero_le _, by rw [HP.out]; exact hlt, HBW.out, HO1.out, HO2.out, hap, Lib.hid ⟨HRI.out.1, HRI.out.2, HSS.out, fun y hy => by simp at hy⟩⟩
        case round =>
          obtain ⟨z, ns, ot, rfl, hz, hkn, hbw, ho1, ho2, hap, hinv⟩ := hrel
          by_cases hlt2 : z < t
          · obtain ⟨y, hy⟩ := get_of (l := v.nd) (k := z) (by rw [HT.out]; exact hlt2)
            have hdt := ((H.out.below hbw).dt v HMEM.out).1.1
            rw [HT.out] at hdt
            obtain ⟨g3, o3, hA3, hg3, e0⟩ := hdt.strk hy
            rw [hA3] at c3 ⊢
            have i3 : (0 : Int) ≤ (z : Int) := by omega
            have i4 : (z : Int) < (t : Int) := by omega
            have hnl2 := hinv.out.1.nlen
            have hol2 := hinv.out.1.olen
            rw [HS.out] at hnl2 hol2
            have hyn : y ∈ ndV L s := by rw [HNV.out]; exact List.mem_of_getElem? hy
            have hrep : ReP L a y := ReP.trans1 (hinv.out.1.dep s (List.mem_of_getElem? hinv.out.2.2.1)) hyn
            obtain ⟨A5, c5, rfl, _⟩ := own_form ho1
            obtain ⟨A6, c6, rfl, _⟩ := own_form ho2
            have HC1 := Lib.hid (needs_any A6 ot.length c6 ot y wr (Rd.of_own ho2) (by omega))
            have HI := Lib.hid hinv.out
            have HREP := Lib.hid hrep
            have HY := Lib.hid hy
            have HBX := Lib.hid hbw
            have HX1 := Lib.hid ho1
            have HX2 := Lib.hid ho2
            have hsz := hbw.size
            obtain ⟨q5, hq5⟩ : ∃ q5, ns.length = q5 := ⟨_, rfl⟩
            obtain ⟨q6, hq6⟩ : ∃ q6, ot.length = q6 := ⟨_, rfl⟩
            have HQ5 := Lib.hid hq5
            have HQ6 := Lib.hid hq6
            rw [hq5] at hkn hnl2
            rw [hq6] at hol2 HC1
            unfold TRow at HX1 HX2
            rw [hq5] at HX1 hap ⊢
            rw [hq6] at HX2 hap ⊢
            have HAP := Lib.hid hap.out
            clear hinv hbw ho1 ho2 hap hrep hyn hy hdt hq5 hq6
            by_cases hyo : y ∈ ot
            · have x1 : decide (y ∈ ot) = true := decide_eq_true hyo
              rw [x1] at HC1
              have HOD := Lib.hid HI.out.1.o1
              have HOO := Lib.hid HI.out.1.od
              have HOI : Hid (∀ u, u ∈ ot → u ∈ ot) := Lib.hid (fun u hu => hu)
              have HYO := Lib.hid hyo
              have HO9 : Hid (TRow wr w.heap.size (.slice A6 q6 c6) ot) := Lib.hid (by unfold TRow; rw [HQ6.out]; exact HX2.out)
              clear hyo x1
              go_wp2_with fail
              refine HC1.out.mono ?_
              rintro e wx ⟨rfl, rfl⟩
              have HC2 := Lib.hid (needs_any A5 q5 c5 ns y wx (Rd.of_own HX1.out) (by omega))
              by_cases hyn : y ∈ ns
              · have x2 : decide (y ∈ ns) = true := decide_eq_true hyn
                rw [x2] at HC2
                have HI2 : Hid (RI L a ns ot) := Lib.hid ⟨HI.out.1.n1, HOD.out, HI.out.1.has, HI.out.1.dep, HOO.out⟩
                have HCL2 : Hid (RClosed L ns ot k) := Lib.hid (fun x hx u hu => ⟨(HI.out.2.1 x hx u hu).1, HOI.out u (HI.out.2.1 x hx u hu).2⟩)
                have HNX : Hid (∀ u ∈ v.nd.take (z + 1), u ∈ ns ∧ u ∈ ot) := Lib.hid (all_take (P := fun u => u ∈ ns ∧ u ∈ ot) (fun u hu => ⟨(HI.out.2.2.2 u hu).1, HOI.out u (HI.out.2.2.2 u hu).2⟩) ⟨hyn, HYO.out⟩ HY.out)
                clear hyn x2
                go_wp2_with fail
                refine HC2.out.mono ?_
                rintro e wx ⟨rfl, rfl⟩
                go_wp2
                go_roundw
                case rel => exact ⟨z + 1, ns, ot, by go_num, by omega, by rw [HQ5.out]; exact hkn, HBX.out, by unfold TRow; rw [HQ5.out]; exact HX1.out, HO9.out, HAP, Lib.hid ⟨HI2.out, HCL2.out, HI.out.2.2.1, HNX.out⟩⟩
                case measure => simp [intOf]; omega
              · have x2 : decide (y ∈ ns) = false := decide_eq_false hyn
                rw [x2] at HC2
                have HI2 : Hid (RI L a (ns ++ [y]) ot) := Lib.hid ⟨nodup_snoc HI.out.1.n1 hyn, HOD.out, List.mem_append_left _ HI.out.1.has, fun x hx => by
                  rcases List.mem_append.1 hx with hx | hx
                  · exact HI.out.1.dep x hx
                  · rw [List.mem_singleton] at hx; subst hx; exact .inr HREP.out, HOO.out⟩
                have HCL2 : Hid (RClosed L (ns ++ [y]) ot k) := Lib.hid (fun x hx u hu => by
                  rw [take_snoc (by rw [HQ5.out]; omega)] at hx
                  exact ⟨List.mem_append_left _ (HI.out.2.1 x hx u hu).1, HOI.out u (HI.out.2.1 x hx u hu).2⟩)
                have HNX : Hid (∀ u ∈ v.nd.take (z + 1), u ∈ ns ++ [y] ∧ u ∈ ot) := Lib.hid (all_take (P := fun u => u ∈ ns ++ [y] ∧ u ∈ ot) (fun u hu => ⟨List.mem_append_left _ (HI.out.2.2.2 u hu).1, HOI.out u (HI.out.2.2.2 u hu).2⟩) ⟨by simp, HYO.out⟩ HY.out)
                have hszz := HBX.out.size
                clear hyn x2
                go_wp2_with fail
                refine HC2.out.mono ?_
                rintro e wx ⟨rfl, rfl⟩
                go_wp2_with (refine wpList_appL rfl (.tmp 52) (.tmp 54) rfl _ y w.heap.size _ q5 ns HX1.out rfl rfl (by omega) hszz ?_)
                intro g8 cap8 w8 ho8 hg8 hb8 hl8
                have HN8 : Hid (TRow w8 w.heap.size (.slice (some ⟨g8, 0, none⟩) (q5 + 1) cap8) (ns ++ [y])) := Lib.hid (by unfold TRow; rw [List.length_append, HQ5.out]; exact ho8)
                have HAPP : Hid (Apart (.slice A5 q5 c5) (.slice A6 q6 c6)) := HAP
                have HO8 := Lib.hid (HAPP.out.symm.kept (l := ot) HO9.out hg8)
                have HA8 : Hid (Apart (.slice (some ⟨g8, 0, none⟩) (q5 + 1) cap8) (.slice A6 q6 c6)) := Lib.hid (Apart.symm (HAPP.out.symm.grow (l := ot) HO9.out hl8))
                have HB8 := Lib.hid (HBX.out.trans hb8)
                have hk8 : k < (ns ++ [y]).length := by rw [List.length_append, HQ5.out]; omega
                clear ho8 hg8 hb8 hl8 hszz
                go_wp2
                go_roundw
                case rel => exact ⟨z + 1, ns ++ [y], ot, by go_num, by omega, hk8, HB8.out, HN8.out, HO8.out, HA8, Lib.hid ⟨HI2.out, HCL2.out, get_snoc HI.out.2.2.1, HNX.out⟩⟩
                case measure => simp [intOf]; omega
            · have x1 : decide (y ∈ ot) = false := decide_eq_false hyo
              rw [x1] at HC1
              have HOD := Lib.hid (nodup_snoc HI.out.1.o1 hyo)
              have HOO : Hid (∀ x ∈ ot ++ [y], ReP L a x) := Lib.hid (fun x hx => by
                rcases List.mem_append.1 hx with hx | hx
                · exact HI.out.1.od x hx
                · rw [List.mem_singleton] at hx; subst hx; exact HREP.out)
              have HOI : Hid (∀ u, u ∈ ot → u ∈ ot ++ [y]) := Lib.hid (fun u hu => List.mem_append_left _ hu)
              have HYO : Hid (y ∈ ot ++ [y]) := Lib.hid (by simp)
              clear hyo x1
              go_wp2_with fail
              refine HC1.out.mono ?_
              rintro e wx ⟨rfl, rfl⟩
              go_wp2_with (refine wpList_appL rfl (.tmp 44) (.tmp 46) rfl _ y w.heap.size _ q6 ot HX2.out rfl rfl (by omega) hsz ?_)
              intro g7 cap7 w7 ho7 hg7 hb7 hl7
              have HO9 : Hid (TRow w7 w.heap.size (.slice (some ⟨g7, 0, none⟩) (q6 + 1) cap7) (ot ++ [y])) := Lib.hid (by unfold TRow; rw [List.length_append, HQ6.out]; exact ho7)
              have HT5 : Hid (TRow wx w.heap.size (.slice A5 q5 c5) ns) := Lib.hid (by unfold TRow; rw [HQ5.out]; exact HX1.out)
              have HX7' := HAP.out.kept (l := ns) HT5.out hg7
              unfold TRow at HX7'
              rw [HQ5.out] at HX7'
              have HX7 := Lib.hid HX7'
              have HA7 : Hid (Apart (.slice A5 q5 c5) (.slice (some ⟨g7, 0, none⟩) (q6 + 1) cap7)) := Lib.hid (HAP.out.grow (l := ns) HT5.out hl7)
              have HB7 := Lib.hid (HBX.out.trans hb7)
              clear ho7 hg7 hb7 hl7 HX7' hsz
              have HC2 := Lib.hid (needs_any A5 q5 c5 ns y w7 (Rd.of_own HX7.out) (by omega))
              by_cases hyn : y ∈ ns
              · have x2 : decide (y ∈ ns) = true := decide_eq_true hyn
                rw [x2] at HC2
                have HI2 : Hid (RI L a ns (ot ++ [y])) := Lib.hid ⟨HI.out.1.n1, HOD.out, HI.out.1.has, HI.out.1.dep, HOO.out⟩
                have HCL2 : Hid (RClosed L ns (ot ++ [y]) k) := Lib.hid (fun x hx u hu => ⟨(HI.out.2.1 x hx u hu).1, HOI.out u (HI.out.2.1 x hx u hu).2⟩)
                have HNX : Hid (∀ u ∈ v.nd.take (z + 1), u ∈ ns ∧ u ∈ (ot ++ [y])) := Lib.hid (all_take (P := fun u => u ∈ ns ∧ u ∈ (ot ++ [y])) (fun u hu => ⟨(HI.out.2.2.2 u hu).1, HOI.out u (HI.out.2.2.2 u hu).2⟩) ⟨hyn, HYO.out⟩ HY.out)
                clear hyn x2
                go_wp2_with fail
                refine HC2.out.mono ?_
                rintro e wx ⟨rfl, rfl⟩
                go_wp2
                go_roundw
                case rel => exact ⟨z + 1, ns, (ot ++ [y]), by go_num, by omega, by rw [HQ5.out]; exact hkn, HB7.out, by unfold TRow; rw [HQ5.out]; exact HX7.out, HO9.out, HA7, Lib.hid ⟨HI2.out, HCL2.out, HI.out.2.2.1, HNX.out⟩⟩
                case measure => simp [intOf]; omega
              · have x2 : decide (y ∈ ns) = false := decide_eq_false hyn
                rw [x2] at HC2
                have HI2 : Hid (RI L a (ns ++ [y]) (ot ++ [y])) := Lib.hid ⟨nodup_snoc HI.out.1.n1 hyn, HOD.out, List.mem_append_left _ HI.out.1.has, fun x hx => by
                  rcases List.mem_append.1 hx with hx | hx
                  · exact HI.out.1.dep x hx
                  · rw [List.mem_singleton] at hx; subst hx; exact .inr HREP.out, HOO.out⟩
                have HCL2 : Hid (RClosed L (ns ++ [y]) (ot ++ [y]) k) := Lib.hid (fun x hx u hu => by
                  rw [take_snoc (by rw [HQ5.out]; omega)] at hx
                  exact ⟨List.mem_append_left _ (HI.out.2.1 x hx u hu).1, HOI.out u (HI.out.2.1 x hx u hu).2⟩)
                have HNX : Hid (∀ u ∈ v.nd.take (z + 1), u ∈ ns ++ [y] ∧ u ∈ (ot ++ [y])) := Lib.hid (all_take (P := fun u => u ∈ ns ++ [y] ∧ u ∈ (ot ++ [y])) (fun u hu => ⟨List.mem_append_left _ (HI.out.2.2.2 u hu).1, HOI.out u (HI.out.2.2.2 u hu).2⟩) ⟨by simp, HYO.out⟩ HY.out)
                have hszz := HB7.out.size
                clear hyn x2
                go_wp2_with fail
                refine HC2.out.mono ?_
                rintro e wx ⟨rfl, rfl⟩
                go_wp2_with (refine wpList_appL rfl (.tmp 52) (.tmp 54) rfl _ y w.heap.size _ q5 ns HX7.out rfl rfl (by omega) hszz ?_)
                intro g8 cap8 w8 ho8 hg8 hb8 hl8
                have HN8 : Hid (TRow w8 w.heap.size (.slice (some ⟨g8, 0, none⟩) (q5 + 1) cap8) (ns ++ [y])) := Lib.hid (by unfold TRow; rw [List.length_append, HQ5.out]; exact ho8)
                have HAPP : Hid (Apart (.slice A5 q5 c5) (.slice (some ⟨g7, 0, none⟩) (q6 + 1) cap7)) := HA7
                have HO8 := Lib.hid (HAPP.out.symm.kept (l := (ot ++ [y])) HO9.out hg8)
                have HA8 : Hid (Apart (.slice (some ⟨g8, 0, none⟩) (q5 + 1) cap8) (.slice (some ⟨g7, 0, none⟩) (q6 + 1) cap7)) := Lib.hid (Apart.symm (HAPP.out.symm.grow (l := (ot ++ [y])) HO9.out hl8))
                have HB8 := Lib.hid (HB7.out.trans hb8)
                have hk8 : k < (ns ++ [y]).length := by rw [List.length_append, HQ5.out]; omega
                clear ho8 hg8 hb8 hl8 hszz
                go_wp2
                go_roundw
                case rel => exact ⟨z + 1, ns ++ [y], (ot ++ [y]), by go_num, by omega, hk8, HB8.out, HN8.out, HO8.out, HA8, Lib.hid ⟨HI2.out, HCL2.out, get_snoc HI.out.2.2.1, HNX.out⟩⟩
                case measure => simp [intOf]; omega
          · obtain rfl : z = t := by omega
            have HI := Lib.hid hinv.out
            have HCL : Hid (RClosed L ns ot (k + 1)) := Lib.hid (fun x hx y hy => by
              have h := HI.out.2.2.2
              rw [List.take_of_length_le (by rw [HT.out]; exact Nat.le_refl _)] at h
              rw [take_one HI.out.2.2.1] at hx
              rcases List.mem_append.1 hx with hx | hx
              · exact HI.out.2.1 x hx y hy
              · rw [List.mem_singleton] at hx; subst hx; rw [HNV.out] at hy; exact h y hy)
            have HBX := Lib.hid hbw
            have HX1 := Lib.hid ho1
            have HX2 := Lib.hid ho2
            have HAP := Lib.hid hap.out
            clear hbw ho1 ho2 hap hinv
            go_wp2
            go_roundw
            case rel => exact ⟨k + 1, ns, ot, by go_num, by omega, HBX.out, HX1.out, HX2.out, HAP, Lib.hid ⟨HI.out.1, HCL.out⟩⟩
            case measure => simp [intOf]; omega
    · obtain rfl : k = p := by omega
      have HD := Lib.hid (hri.out.1.done (by rw [HP.out]; exact hri.out.2))
      have hol := hri.out.1.olen
      rw [HS.out] at hol
      have HO2 := Lib.hid ho2
      have HBW := Lib.hid hbw
      have HOL : Hid (out.length ≤ 50000000) := Lib.hid (by omega)
      clear ho1 ho2 ho1' hri hbw hap
      go_wp2
      go_ret
      exact ⟨_, out, rfl, HO2.out, HBW.out, HD.out, HOL.out⟩
end Go.Proofs.Ytbikldmhfaecpaa
