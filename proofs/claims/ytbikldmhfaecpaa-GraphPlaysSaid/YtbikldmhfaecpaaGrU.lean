/-
  Layer 48 (graph): the walk of touch.
-/
import Derived.Test.YtbikldmhfaecpaaGrT
namespace Go.Proofs.Ytbikldmhfaecpaa
open Go.RowKit
set_option linter.unusedVariables false
set_option linter.unusedSimpArgs false
attribute [local go_sem] B_data B_size

set_option maxHeartbeats 4000000 in
set_option maxRecDepth 100000 in
theorem touch_any {own : Own} {id gb : Nat} {vm rm um : Option Nat} {pt : Nm → PtI} {S : GS} {U : Nm → List Nm} (n : Nm) (w : World) (h : GW own id gb vm rm um pt S U w) (hU : ∀ n, U n = usersOf S.rules n) (hr : S.rules.length ≤ 10000) (hc : S.changes ≤ 1000000) :
    Calls Try.prog 28 #[.pointer (some ⟨gb, 0, none⟩), .string (B n)] w fun e w' => e = .returned (.tuple #[]) ∧ GW own id gb vm rm um pt (touchX S n) U w' ∧ Kp own id w w' := by
  have c4 := h.c4
  have z4 := h.free 4
  have i6 : IntKind.i64.wrap ((S.changes : Int) + 1) = (S.changes : Int) + 1 := IntWalk.i64_in _ (by omega)
  have hW := h.changed (S.changes + 1)
  rw [show ((S.changes + 1 : Nat) : Int) = (S.changes : Int) + 1 from by omega] at hW
  have HW := Lib.hid hW
  have HK := Lib.hid ((Kp.refl own id w).setCell (q := gb) (i := 4) (u := .int .i64 ((S.changes : Int) + 1)) (fun _ => ⟨_, h.gt⟩))
  clear hW
  have hmk := run_mkSet
  go_enter Try.func28, Try.ntmps28
  go_upto_region 1 with fail
  generalize hw1 : w.setCell ⟨gb, 4, none⟩ (.int .i64 ((S.changes : Int) + 1)) = w1 at HW HK ⊢
  clear hw1 c4 z4
  generalize hsb : w1.heap.size = sb at *
  have hs1 : (w1.alloc (.map #[] 0)).heap.size = sb + 1 := by simp [hsb]
  have hm0 : SMap ((w1.alloc (.map #[] 0)).alloc (.cells #[.string (B n)] 9)) sb (seenM []) := by rw [← hsb]; exact (SMap.made w1).alloc _
  have hl0 : ((w1.alloc (.map #[] 0)).alloc (.cells #[.string (B n)] 9)).ownsRow (sb + 1) 9 1 (.slice (some ⟨sb + 1, 0, none⟩) 1 1) 1 (strs [n]) := by
    have := World.ownsRow_lit (base := sb + 1) (e := 9) (size := 1) (w1.alloc (.map #[] 0)) #[.string (B n)] 1 (by omega) (by decide) rfl
    rwa [hs1] at this
  have hw0 := (HW.out.alloc (.map #[] 0)).alloc (.cells #[.string (B n)] 9)
  have hk0 := (HK.out.alloc (.map #[] 0)).alloc (.cells #[.string (B n)] 9)
  have HN := Lib.hid (And.intro hU (And.intro h.nd h.fr))
  have hos : ∀ b, sb ≤ b → own b = none := fun b hb => HW.out.fr b (by omega)
  have HOS := Lib.hid hos
  have HS0 := Lib.hid (And.intro hm0 (And.intro hl0 (And.intro hw0 hk0)))
  have HWS : Hid (w.heap.size ≤ sb) := Lib.hid (by have := HK.out.size; omega)
  clear hm0 hl0 hw0 hk0 hU h hos HW HK
  have hsz : ((w1.alloc (.map #[] 0)).alloc (.cells #[.string (B n)] 9)).heap.size = sb + 2 := by simp [hsb]
  go_wp2
  obtain ⟨TX, HT⟩ : ∃ TX, Hid (touchGo S.rules (2 * S.rules.length + 1) [] [n] = TX) := ⟨_, rfl⟩
  have HT1 : Hid (touchX S n = { S with changes := S.changes + 1, rules := markS TX S.rules }) := by rw [← HT.out]; rfl
  go_loopg [5] (2 * S.rules.length + 1) (fun k v wr => ∃ (seen left : List Nm), Hid (k ≤ 2 * S.rules.length + 1) ∧ Hid (touchGo S.rules k seen left = TX) ∧ Hid (2 * (S.rules.length - seen.length) + left.length ≤ k) ∧ Hid (seen.Nodup ∧ ∀ x ∈ seen, x ∈ S.rules.map (·.name)) ∧ Hid (wr.ownsRow (sb + 1) 9 1 v left.length (strs left)) ∧ left.length ≤ 20001 ∧ Hid (SMap wr sb (seenM seen)) ∧ Hid (GW own id gb vm rm um pt { S with changes := S.changes + 1, rules := markS seen S.rules } U wr) ∧ Hid (Kp own id w wr) ∧ Hid (sb + 1 < wr.heap.size))
  case atStart =>
    refine ⟨[], [n], Lib.hid (Nat.le_refl _), HT, Lib.hid (by simp), Lib.hid (by simp), HS0.out.2.1, by simp, HS0.out.1, ?_, HS0.out.2.2.2, Lib.hid (by rw [hsz]; omega)⟩
    rw [markS_nil]; exact HS0.out.2.2.1
  case round =>
    obtain ⟨g0, hg0⟩ : ∃ g, g = gk := ⟨_, rfl⟩
    subst hg0
    obtain ⟨seen, left, hkk, hT, hK, hS, hown, hll, hmap, hgw, hkp, hszr⟩ := hrel
    obtain ⟨A, c, rfl, hnc⟩ := own_form hown.out
    rcases List.eq_nil_or_concat left with rfl | ⟨left, x, rfl⟩
    · have HF : Hid (seen = TX) := by rw [← hT.out, touchGo_nil]; rfl
      rw [HF.out, ← HT1.out] at hgw
      go_wp2
      go_end0
      exact ⟨rfl, hgw.out, hkp.out⟩
    · have HL : Hid ((left ++ [x]).length = left.length + 1) := by simp [Hid]
      simp only [List.concat_eq_append] at *
      rw [HL.out] at hnc hll
      obtain ⟨b, o, rfl, _, hcx⟩ := rd_get (ls := left ++ [x]) (k := left.length) (x := x) (Rd.of_own hown.out) (by simp)
      have i1 : IntKind.i64.wrap ((left.length : Int) + 1 - 1) = (left.length : Int) := by rw [IntWalk.i64_in _ (by omega)]; omega
      have hown2 := own_take (k := left.length) hown.out (by rw [HL.out]; omega) (by rw [HL.out]; omega)
      rw [strs_app, List.take_left' (strs_len left)] at hown2
      have HO2 := Lib.hid hown2
      rw [HL.out]
      have q2 := hgw.out.c2
      obtain ⟨A2, c2, hlk, hrd, _⟩ := hgw.out.users x
      have HRD := Lib.hid hrd
      have HUS : Hid (U x = usersOf S.rules x) := HN.out.1 x
      generalize hus : U x = us at *
      have hul : us.length ≤ 10000 := by rw [HUS.out]; exact Nat.le_trans (users_len _ _) hr
      have HUM : Hid (∀ u ∈ us, u ∈ S.rules.map (·.name)) := by rw [HUS.out]; exact fun u hu => users_mem hu
      clear hown hown2 hrd hus
      go_wp2
      clear hlk hcx q2
      go_loopg [5, 40] us.length (fun j v i wq => ∃ (k : Nat) (seen1 left1 : List Nm), Hid (j = us.length - k) ∧ k ≤ us.length ∧ i = .int .i64 (k : Int) ∧ Hid (pushU seen left us = pushU seen1 left1 (us.drop k)) ∧ left1.length ≤ left.length + k ∧ Hid (wq.ownsRow (sb + 1) 9 1 v left1.length (strs left1)) ∧ Hid (SMap wq sb (seenM seen1)) ∧ Hid (GW own id gb vm rm um pt { S with changes := S.changes + 1, rules := markS seen1 S.rules } U wq) ∧ Hid (Kp own id w wq) ∧ Hid (Rdo own id (.user x) wq A2 us.length us) ∧ Hid (sb + 1 < wq.heap.size))
      case atStart => exact ⟨0, seen, left, rfl, Nat.zero_le _, rfl, rfl, by omega, HO2, hmap, hgw, hkp, HRD, hszr⟩
      case round =>
        clear hmap hgw hkp HRD HO2 hszr
        obtain ⟨k, seen1, left1, hj, hk, rfl, hpu, hl1, hown, hmap, hgw, hkp, hrd, hszr⟩ := hrel
        obtain ⟨A1, c1, rfl, hnc1⟩ := own_form hown.out
        by_cases hlt : k < us.length
        · have hg : us[k]? = some us[k] := List.getElem?_eq_getElem hlt
          have HU : Hid (us[k] ∈ S.rules.map (·.name)) := HUM.out _ (List.getElem_mem hlt)
          have HP : Hid (pushU seen left us = pushU seen1 left1 (us[k] :: us.drop (k + 1))) := by rw [hpu.out, drop_cons hlt]; rfl
          obtain ⟨b2, o2, rfl, _, hcu⟩ := rd_get hrd.out.1 hg
          generalize us[k] = u at *
          have hlk := look_seen hmap.out u
          have j1 : (0 : Int) ≤ (k : Int) := by omega
          have j2 : (k : Int) < (us.length : Int) := by omega
          by_cases hin : u ∈ seen1
          · have HP2 : Hid (pushU seen left us = pushU seen1 left1 (us.drop (k + 1))) := by rw [HP.out, pushU, if_pos hin]; rfl
            have hd : decide (u ∈ seen1) = true := by simpa using hin
            rw [hd] at hlk
            clear hd
            go_wp2
            go_roundg (us.length - (k + 1))
            case rel => exact ⟨k + 1, seen1, left1, rfl, by omega, by go_num, HP2, by omega, hown, hmap, hgw, hkp, hrd, hszr⟩
            case measure => have := hj.out; omega
          · have HP2 : Hid (pushU seen left us = pushU (seen1 ++ [u]) (left1 ++ [u]) (us.drop (k + 1))) := by rw [HP.out, pushU, if_neg hin]; rfl
            have hd : decide (u ∈ seen1) = false := by simpa using hin
            rw [hd] at hlk
            clear hd
            have HIN := Lib.hid hin
            clear hin
            go_wp2_with (refine wpList_put rfl 62 9 4 _ _ _ rfl Try.underlying62 Try.underlying9 sb (seenM seen1) hmap.out rfl u rfl (.bool true) rfl ?_)
            intro w2 hm2 hg2
            rw [putM_seen HIN.out] at hm2
            have hsn : own sb = none := HOS.out sb (Nat.le_refl _)
            have hgw2 := hgw.out.grown hg2 (fun q e => by injection e with e; rw [← e]; exact hsn)
            have hkp2 := hkp.out.grown hg2 (fun q e hq => by injection e with e; have := HWS.out; omega)
            have hown2 := hown.out.kept hg2 (.inr (fun e => by have := (hown.out.lt _ e).1; omega))
            have hrd2 := hrd.out.keepT (fun b e => hg2.block b (hgw.out.mine_lt ⟨_, e⟩) (fun e2 => by injection e2 with e2; rw [e2, hsn] at e; cases e)) hg2.size
            have hsz2 : sb + 1 < w2.heap.size := Nat.lt_of_lt_of_le hszr.out hg2.size
            obtain ⟨r0, hr0⟩ := find_of_mem HU.out
            obtain ⟨r, hfr⟩ := markS_find (seen := seen1) hr0
            have hlr := hgw2.lookR_some hfr
            have q1 := hgw2.c1
            have q6 := (hgw2.rule hfr).c6
            have z6 := (hgw2.rule hfr).free 6
            have hpt : (pt u).p < sb := hgw2.none_of HOS.out ⟨_, (hgw2.rule hfr).tag⟩
            have hgw3 := hgw2.staled hfr true
            simp only [markS_snoc] at hgw3
            have hkp3 := hkp2.setCell (q := (pt u).p) (i := 6) (u := .bool true) (fun _ => ⟨_, (hgw2.rule hfr).tag⟩)
            have hown3 := ownsRow_setCell_other hown2 (a := ⟨(pt u).p, 6, none⟩) (fun e => by have := (hown2.lt _ e).1; have e2 : (pt u).p ≥ sb + 1 := this; omega) (.bool true)
            have hm3 := hm2.of_block (Below.heap_setCell w2 ⟨(pt u).p, 6, none⟩ (.bool true) sb (fun e => by have e : sb = (pt u).p := e; omega))
            have hrd3 := hrd2.keepT (w' := w2.setCell ⟨(pt u).p, 6, none⟩ (.bool true)) (fun b e => Below.heap_setCell w2 _ _ b (fun e2 => by have e2 : b = (pt u).p := e2; rw [e2, (hgw2.rule hfr).tag] at e; injection e with e; injection e with _ e; cases e)) (by simp [World.setCell])
            have hsz3 : sb + 1 < (w2.setCell ⟨(pt u).p, 6, none⟩ (.bool true)).heap.size := by simpa [World.setCell] using hsz2
            have H3 := Lib.hid (And.intro hgw3 (And.intro hkp3 (And.intro hown3 (And.intro hm3 (And.intro hrd3 hsz3)))))
            clear hgw3 hkp3 hown3 hm3 hrd3 hsz3 hgw2 hkp2 hown2 hm2 hrd2 hsz2 hpt hr0 hg2 hown hmap hgw hkp hrd hszr hsn
            go_upto_region 12 with fail
            generalize w2.setCell ⟨(pt u).p, 6, none⟩ (.bool true) = w3 at H3 ⊢
            clear hlr q1 q6 z6 hfr hlk hcu
            obtain ⟨hgw3, hkp3, hown3, hm3, hrd3, hsz3⟩ := H3.out
            have H4 := Lib.hid (And.intro hgw3 (And.intro hkp3 (And.intro hm3 (And.intro hrd3 hsz3))))
            clear hgw3 hkp3 hm3 hrd3
            go_wp2_with (refine wpList_app rfl (.tmp 58) (.tmp 60) 29 rfl 9 (.string ⟨#[]⟩) 1 16 Try.underlying29 Try.info9 rfl (by omega) w3 [.string (B u)] rfl (by simp; rfl) (sb + 1) _ _ _ hown3 rfl rfl (by omega) (by omega) (Nat.le_of_lt hsz3) ?_)
            intro v4 w4 ho4 hg4 hb4
            have hnone : ∀ q, (Value.slice A1 left1.length c1).ownBlock = some q → sb + 1 ≤ q := fun q e => (hown3.lt q e).1
            have e4 : strs left1 ++ [.string (B u)] = strs (left1 ++ [u]) := by simp [strs]
            have l4 : left1.length + 1 = (left1 ++ [u]).length := by simp
            rw [e4, l4] at ho4
            have hgw4 := H4.out.1.grown hg4 (fun q e => HOS.out q (by have := hnone q e; omega))
            have hkp4 := H4.out.2.1.grown hg4 (fun q e hq => by have := hnone q e; have := HWS.out; omega)
            have hm4 := H4.out.2.2.1.of_block (hg4.block sb (H4.out.2.2.1.lt) (fun e => by have := hnone sb e.symm; omega))
            have hrd4 := H4.out.2.2.2.1.keepT (fun b e => hg4.block b (H4.out.1.mine_lt ⟨_, e⟩) (fun e2 => by rw [HOS.out b (by have := hnone b e2.symm; omega)] at e; cases e)) hg4.size
            have hsz4 : sb + 1 < w4.heap.size := Nat.lt_of_lt_of_le hsz3 hg4.size
            have R4 := Lib.hid (And.intro hgw4 (And.intro hkp4 (And.intro ho4 (And.intro hm4 (And.intro hrd4 hsz4)))))
            clear hgw4 hkp4 ho4 hm4 hrd4 hsz4 e4 l4 hown3 H4 H3
            go_wp2
            go_roundg (us.length - (k + 1))
            case rel => exact ⟨k + 1, seen1 ++ [u], left1 ++ [u], rfl, by omega, by go_num, HP2, by simp; omega, R4.out.2.2.1, R4.out.2.2.2.1, R4.out.1, R4.out.2.1, R4.out.2.2.2.2.1, R4.out.2.2.2.2.2⟩
            case measure => have := hj.out; omega
        · obtain rfl : k = us.length := by omega
          have HPU : Hid (pushU seen left (usersOf S.rules x) = (seen1, left1)) := by rw [← HUS.out, hpu.out, List.drop_length]; rfl
          obtain ⟨m, hm, t1, t2, t3⟩ := touch_round hT.out hK.out hS.out HPU.out
          have HM := Lib.hid (And.intro hm (And.intro t1 (And.intro t2 t3)))
          have hml : left1.length ≤ 20001 := by have := hkk.out; omega
          have hmk2 : Hid (m ≤ 2 * S.rules.length + 1) := Lib.hid (by have := hkk.out; omega)
          clear hm t1 t2 t3
          go_wp2
          go_roundg m
          case rel => exact ⟨seen1, left1, hmk2, HM.out.2.1, HM.out.2.2.1, HM.out.2.2.2, hown, hml, hmap, hgw, hkp, hszr⟩
          case measure => have := HM.out.1; omega
end Go.Proofs.Ytbikldmhfaecpaa
