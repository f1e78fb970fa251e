/-
  Layer 1 (chars): Valid, the program's and the chapter's.
-/
import Derived.Test.YtejjidbodfoiiaaGreatDoorMkB
namespace Go.Proofs.YtejjidbodfoiiaaGreatDoor
open Go.RowKit
set_option linter.unusedVariables false
set_option linter.unusedSimpArgs false
attribute [local go_sem] B_data B_size

theorem uncl_clean (b : UInt8) : unclB (b.toNat : Int) = !cleanB b := by
  unfold unclB cleanB
  rw [Bool.eq_iff_iff]
  have h10 : (b == 10) = decide (b.toNat = 10) := by rw [Bool.eq_iff_iff]; simp [← UInt8.toNat_inj]
  have h127 : (b != 127) = decide (b.toNat ≠ 127) := by rw [Bool.eq_iff_iff]; simp [← UInt8.toNat_inj]
  have h32 : (decide (32 ≤ b)) = decide (32 ≤ b.toNat) := by simp [UInt8.le_iff_toNat_le]
  rw [h10, h127, h32]
  simp only [Bool.not_eq_true', Bool.or_eq_false_iff, Bool.and_eq_false_iff, decide_eq_false_iff_not, Bool.or_eq_true, Bool.and_eq_true, decide_eq_true_eq, beq_iff_eq, bne_iff_ne, ne_eq]
  omega
/-- what the code point c of n bytes tells of clean text -/
theorem Nx.valid {l : List UInt8} {c : Int} {n : Nat} (h : Nx l c n) (hl : l ≠ []) :
    (((c = 65533 ∧ n = 1) ∨ unclB c = true) ∧ validB l = false) ∨ (¬ (c = 65533 ∧ n = 1) ∧ unclB c = false ∧ validB l = validB (l.drop n) ∧ 1 ≤ n ∧ n ≤ l.length) := by
  cases l with
  | nil => exact absurd rfl hl
  | cons b r =>
    rcases h with ⟨h, rfl, rfl⟩ | ⟨b', r', e, h, rfl, rfl⟩ | ⟨h, rfl, h1, h2⟩
    · have hb : ¬ b < 128 := by
        intro hb; rw [sq_cons, if_pos hb] at h; cases h
      left
      exact ⟨.inl ⟨rfl, rfl⟩, by rw [validB_sq b r hb, if_pos h]⟩
    · injection e with e1 e2
      subst e1 e2
      have hb : b < 128 := (small_iff b).2 h
      rw [uncl_clean, validB_cons, if_pos hb]
      cases hc : cleanB b
      · left; exact ⟨.inr rfl, rfl⟩
      · right; exact ⟨by omega, rfl, by simp, by omega, by simp⟩
    · have hb : ¬ b < 128 := by
        intro hb; rw [sq_cons, if_pos hb] at h; omega
      right
      refine ⟨by omega, ?_, ?_, by omega, sq_le _⟩
      · unfold unclB; rw [Bool.or_eq_false_iff]; simp; omega
      · rw [validB_sq b r hb, if_neg (by omega)]
theorem drop_ne {s : ByteArray} {k : Nat} (h : k < s.size) : s.toList.drop k ≠ [] := by rw [drop_byte s k h]; simp
theorem drop_len (s : ByteArray) (k : Nat) : (s.toList.drop k).length = s.size - k := by rw [List.length_drop, len_toList]
def QPost (r : Bool) (w : World) (e : Ending) (w' : World) : Prop := e = .returned (.bool r) ∧ ∃ k, w' = w.drewN k
set_option maxHeartbeats 2000000 in
set_option maxRecDepth 100000 in
theorem valid_any (s : ByteArray) (w : World) (hs : s.size ≤ 9223372036854775000) :
    Calls Tryz.prog 97 #[.string s] w (QPost (validB s.toList) w) := by
  go_enter Tryz.func97, Tryz.ntmps97
  go_wp2
  go_loopw [3] (fun i wr => ∃ k m : Nat, k ≤ s.size ∧ i = .int .i64 k ∧ Hid (wr = w.drewN m) ∧ Hid (validB s.toList = validB (s.toList.drop k))) (fun i _ => s.size - (intOf i).toNat)
  case atStart => exact ⟨0, 0, Nat.zero_le _, rfl, rfl, rfl⟩
  case round =>
    obtain ⟨k, m, hk, rfl, hwr, hr⟩ := hrel
    by_cases hlt : k < s.size
    · go_wp2_with fail
      refine (next_any s k _ hs hlt).mono ?_
      rintro e w' ⟨c, n, hx, rfl, m', hw'⟩
      have HWW : Hid (w' = w.drewN (m + m')) := by rw [hw', hwr.out]; simp [Hid]
      have hv := hx.valid (drop_ne hlt)
      rw [drop_len] at hv
      clear hx hw' hwr
      rcases hv with ⟨hb, hv⟩ | ⟨hb, hu, hv, hn1, hn2⟩
      · have HF : Hid (validB s.toList = false) := by rw [hr.out, hv]; rfl
        by_cases hc : c = 65533 ∧ n = 1
        · obtain ⟨rfl, rfl⟩ := hc
          go_wp2
          go_ret
          exact ⟨ret_bool HF.out.symm, _, HWW.out⟩
        · have hu : unclB c = true := by rcases hb with h | h; exact absurd h hc; exact h
          by_cases h1 : c = 65533
          · subst h1
            have hn : ((n : Int) == 1) = false := beq_eq_false_iff_ne.2 (by omega)
            clear hb hc
            go_wp2_with fail
            refine (unclean_any _ _).mono ?_
            rintro e w2 ⟨rfl, rfl⟩
            rw [hu]
            go_wp2
            go_ret
            exact ⟨ret_bool HF.out.symm, _, HWW.out⟩
          · have hn : ((c : Int) == 65533) = false := beq_eq_false_iff_ne.2 h1
            clear hb hc h1
            go_wp2_with fail
            refine (unclean_any _ _).mono ?_
            rintro e w2 ⟨rfl, rfl⟩
            rw [hu]
            go_wp2
            go_ret
            exact ⟨ret_bool HF.out.symm, _, HWW.out⟩
      · have HF : Hid (validB s.toList = validB (s.toList.drop (k + n))) := by rw [hr.out, hv, List.drop_drop]; rfl
        clear hr hv
        by_cases h1 : c = 65533
        · subst h1
          have hn : ((n : Int) == 1) = false := beq_eq_false_iff_ne.2 (by omega)
          clear hb
          go_wp2_with fail
          refine (unclean_any _ _).mono ?_
          rintro e w2 ⟨rfl, rfl⟩
          rw [hu]
          go_wp2
          go_roundw
          case rel => exact ⟨k + n, _, by omega, by go_num, HWW, HF⟩
          case measure => simp [intOf]; omega
        · have hn : ((c : Int) == 65533) = false := beq_eq_false_iff_ne.2 h1
          clear hb h1
          go_wp2_with fail
          refine (unclean_any _ _).mono ?_
          rintro e w2 ⟨rfl, rfl⟩
          rw [hu]
          go_wp2
          go_roundw
          case rel => exact ⟨k + n, _, by omega, by go_num, HWW, HF⟩
          case measure => simp [intOf]; omega
    · have HF : Hid (validB s.toList = true) := by rw [hr.out, List.drop_of_length_le (by rw [len_toList]; omega)]; rfl
      go_wp2
      go_ret
      exact ⟨ret_bool HF.out.symm, _, hwr.out⟩
end Go.Proofs.YtejjidbodfoiiaaGreatDoor
