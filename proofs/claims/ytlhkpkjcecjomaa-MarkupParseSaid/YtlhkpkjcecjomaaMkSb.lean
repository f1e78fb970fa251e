/-
  Layer 33 (markup): the reader of the chapter: name.
-/
import Derived.Test.YtlhkpkjcecjomaaMkSa
namespace Go.Proofs.Ytlhkpkjcecjomaa
open Go.RowKit
set_option linter.unusedVariables false
set_option linter.unusedSimpArgs false
attribute [local go_sem] B_data B_size
attribute [local go_sem ↓] Go.wp_at_zero Go.wp_at_succ

/-- where a reader of the chapter stands -/
theorem ratY {w : World} {rb k : Nat} {s : ByteArray} {e : Int} (h : Ry w rb s k e) : rat w rb = k := by unfold Go.Proofs.Ytlhkpkjcecjomaa.rat; rw [h.c1]; simp
theorem Ry.meas {w w' : World} {rb j m : Nat} {s : ByteArray} {e e' : Int} (h : Ry w rb s j e) (h' : Ry w' rb s m e') (hlt : j < s.size) (hm : j < m) : s.size - rat w' rb < s.size - rat w rb := by
  rw [ratY h, ratY h']; omega
def NyPost (rb : Nat) (s : ByteArray) (r : Except Int (List UInt8 × List UInt8)) (w : World) (e : Ending) (w' : World) : Prop := ∃ u : List UInt8, e = .returned (.string (B u)) ∧ u.length ≤ 1000000000 ∧ w.grownBy w' (some rb) ∧ ∃ (k : Nat) (x : Int), k ≤ s.size ∧ Ry w' rb s k x ∧ match r with
  | .error y => x = y
  | .ok (nm, l) => x = 0 ∧ u = nm ∧ s.toList.drop k = l
set_option maxHeartbeats 4000000 in
set_option maxRecDepth 100000 in
theorem rname_any (rb : Nat) (s : ByteArray) (k : Nat) (w : World) (h : Ry w rb s k 0) (hk : k ≤ s.size) (hs : s.size ≤ 1000000000) :
    Calls Try.prog 57 #[.pointer (some ⟨rb, 0, none⟩)] w (NyPost rb s (pName (s.toList.drop k)) w) := by
  have b1 := h.c1
  go_enter Try.func57, Try.ntmps57
  go_wp2
  clear b1
  go_loopw [8] (fun _ wr => ∃ j : Nat, k ≤ j ∧ j ≤ s.size ∧ Ry wr rb s j 0 ∧ w.grownBy wr (some rb) ∧ Hid (∀ c ∈ (s.toList.take j).drop k, partB c = true)) (fun _ wr => s.size - rat wr rb)
  case atStart => exact ⟨k, Nat.le_refl _, hk, h, grown_refl _ _, by rw [List.drop_of_length_le (by rw [List.length_take]; omega)]; intro c hc; cases hc⟩
  case round =>
    obtain ⟨j, hkj, hj, hR, hg, hall⟩ := hrel
    have b0 := hR.c0
    have b1 := hR.c1
    have f1 := hR.ff (i := 1)
    have ex : s.extract k j = B ((s.toList.take j).drop k) := B_extract s k j
    have i3 : (0 : Int) ≤ (k : Int) := by omega
    have i4 : (k : Int) ≤ (j : Int) := by omega
    have i5 : (j : Int) ≤ (s.size : Int) := by omega
    by_cases hlt : j < s.size
    · have i1 : (0 : Int) ≤ (j : Int) := by omega
      have i2 : (j : Int) < (s.size : Int) := by omega
      have d0 : decide ((j : Int) < (s.size : Int)) = true := by simp; omega
      cases hp : partB s[j]
      · have HSP := Lib.hid (span_stop partB ((s.toList.take j).drop k) (s.toList.drop j) hall.out (fun c hc => by rw [drop_byte s j hlt] at hc; simp at hc; rw [← hc]; exact hp))
        have HDP := Lib.hid (drop_parts s.toList k j hkj)
        have C := Lib.hid (fun V => part_any s[j] V)
        go_wp2
        go_quiet ((go_at_call 50; exact Calls.quiet_of_same ((C.out _).mono fun _ _ ⟨a, b⟩ => ⟨a, b.symm⟩)))
        rw [hp]
        have dn : ((j : Int) == (s.size : Int)) = false := beq_eq_false_iff_ne.2 (by omega)
        have HN : Hid (pName (s.toList.drop k) = if nameB ((s.toList.take j).drop k) = false then .error 5 else .ok ((s.toList.take j).drop k, s.toList.drop j)) := by
          unfold pName Hid
          rw [HDP.out, HSP.out.1, HSP.out.2, if_neg (drop_ne hlt)]
        generalize (s.toList.take j).drop k = nm at *
        have hnl : nm.length ≤ 1000000000 := by
          have e := congrArg ByteArray.size ex
          rw [B_size, ByteArray.size_extract] at e
          omega
        have C2 := Lib.hid (fun V => rName_any (B nm) V (by rw [B_size]; omega))
        rw [B_data] at C2
        cases hnb : nameB nm
        · rw [hnb] at C2
          have HX : Hid (pName (s.toList.drop k) = .error 5) := by rw [HN.out, if_pos hnb]; rfl
          have CF := Lib.hid (fun m => fail_any rb s j 0 5 (wr.drewN m) (hR.drewN m))
          clear hnb HN HSP HDP C hall
          go_wp2
          go_quiet (fail)
          go_wp2
          go_quiet ((go_at_call 36; exact quiet_add_left (C2.out _)))
          go_wp2_with fail
          refine (CF.out _).mono ?_
          rw [ferr_zero]
          rintro e w2 ⟨rfl, hg2, hR2⟩
          have hg3 := grown_trans (grown_drewN hg _) hg2
          clear CF hg2 b0 b1 f1
          have b0 := hR2.c0
          have b1 := hR2.c1
          go_wp2
          go_quiet (fail)
          go_wp2
          go_ret
          unfold NyPost
          rw [HX.out]
          exact ⟨nm, rfl, hnl, grown_drewN hg3 _, j, 5, hj, hR2.drewN _, rfl⟩
        · rw [hnb] at C2
          have HX : Hid (pName (s.toList.drop k) = .ok (nm, s.toList.drop j)) := by rw [HN.out, if_neg (by simp [hnb])]; rfl
          clear hnb HN HSP HDP C hall
          go_wp2
          go_quiet (fail)
          go_wp2
          go_quiet ((go_at_call 36; exact quiet_add_left (C2.out _)))
          go_wp2
          go_quiet (fail)
          go_wp2
          go_ret
          unfold NyPost
          rw [HX.out]
          exact ⟨nm, rfl, hnl, grown_drewN (grown_drewN (grown_drewN (grown_drewN hg _) _) _) _, j, 0, hj, hR, rfl, rfl, rfl⟩
      · have HALL : Hid (∀ c ∈ (s.toList.take (j + 1)).drop k, partB c = true) := all_step hlt hkj hall.out hp
        have hR2 := hR.setK (m := j + 1)
        have hg2 := grown_trans hg (grown_setC wr rb 1 (.int .i64 ((j + 1 : Nat) : Int)))
        have C := Lib.hid (fun V => part_any s[j] V)
        clear ex
        go_wp2
        go_quiet ((go_at_call 50; exact Calls.quiet_of_same ((C.out _).mono fun _ _ ⟨a, b⟩ => ⟨a, b.symm⟩)))
        rw [hp]
        go_wp2
        go_roundw
        case rel => exact ⟨j + 1, by omega, by omega, hR2, grown_drewN hg2 _, HALL⟩
        case measure => exact Ry.meas hR hR2 hlt (Nat.lt_succ_self j)
    · obtain rfl : j = s.size := by omega
      have HX : Hid (pName (s.toList.drop k) = .error 4) := by
        have h1 := span_stop partB ((s.toList.take s.size).drop k) [] hall.out (fun c hc => by cases hc)
        rw [List.append_nil, List.take_of_length_le (by rw [len_toList]; omega)] at h1
        unfold pName Hid
        rw [h1.2, if_pos rfl]
      have d0 : decide ((s.size : Int) < (s.size : Int)) = false := by simp
      have dn : ((s.size : Int) == (s.size : Int)) = true := by simp
      generalize (s.toList.take s.size).drop k = nm at *
      have hnl : nm.length ≤ 1000000000 := by
        have e := congrArg ByteArray.size ex
        rw [B_size, ByteArray.size_extract] at e
        omega
      have CF := Lib.hid (fun m => fail_any rb s s.size 0 4 (wr.drewN m) (hR.drewN m))
      go_wp2
      go_quiet (fail)
      go_wp2
      go_quiet (fail)
      go_wp2_with fail
      refine (CF.out _).mono ?_
      rw [ferr_zero]
      rintro e w2 ⟨rfl, hg2, hR2⟩
      have hg3 := grown_trans (grown_drewN hg _) hg2
      clear CF hg2 b0 b1 f1
      have b0 := hR2.c0
      have b1 := hR2.c1
      go_wp2
      go_quiet (fail)
      go_wp2
      go_ret
      unfold NyPost
      rw [HX.out]
      exact ⟨nm, rfl, hnl, grown_drewN hg3 _, s.size, 4, Nat.le_refl _, hR2.drewN _, rfl⟩
end Go.Proofs.Ytlhkpkjcecjomaa
