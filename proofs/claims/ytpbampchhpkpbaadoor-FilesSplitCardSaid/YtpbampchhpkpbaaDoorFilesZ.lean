/-
  Layer 16 (files): the chapter's Split.
-/
import Derived.Test.YtpbampchhpkpbaaDoorFilesX
import Derived.Test.YtpbampchhpkpbaaDoorFilesQ
namespace Go.Proofs.YtpbampchhpkpbaaDoor
open Go.RowKit
set_option linter.unusedVariables false

theorem count_zero_of {l : List UInt8} (h : (47 : UInt8) ∉ l) : l.count 47 = 0 := List.count_eq_zero.2 h
/-- the last byte c of a list, if there is one -/
theorem last_split (c : UInt8) (l : List UInt8) : c ∉ l ∨ ∃ a b, l = a ++ c :: b ∧ c ∉ b := by
  induction l with
  | nil => left; simp
  | cons x r ih =>
    rcases ih with h | ⟨a, b, rfl, h⟩
    · by_cases e : c = x
      · right; exact ⟨[], r, by rw [e]; rfl, h⟩
      · left; simp [e, h]
    · right; exact ⟨x :: a, b, rfl, h⟩
theorem parts_behind (l : List UInt8) : (parts l)[l.count 47]?.getD [] = behind 47 l := by
  rcases last_split 47 l with h | ⟨a, b, rfl, h⟩
  · rw [count_zero_of h, parts_one l h, behind_miss 47 l h]; rfl
  · rw [parts_append, parts_one b h, behind_hit 47 a b h, List.count_append, List.count_cons_self, count_zero_of h, List.getElem?_append_right (by rw [lt_parts]; omega), lt_parts]
    simp
theorem behind_le (c : UInt8) (l : List UInt8) : (behind c l).length ≤ l.length := by
  rcases last_split c l with h | ⟨a, b, rfl, h⟩
  · rw [behind_miss c l h]; exact Nat.le_refl _
  · rw [behind_hit c a b h]; simp; omega
theorem ext_none (l : List UInt8) (k : Nat) (hk : k ≤ 1) (h : (46 : UInt8) ∉ l.drop k) : baseE l = l ∧ extE l = [] := by
  rcases Nat.eq_zero_or_pos k with h0 | h0
  · rw [h0, List.drop_zero] at h
    exact baseE_no l (.inl h)
  · obtain rfl : k = 1 := by omega
    cases l with
    | nil => exact baseE_no _ (.inl (by simp))
    | cons x r =>
      by_cases e : (46 : UInt8) = x
      · subst e
        exact baseE_no _ (.inr (ahead_ne 46 [] r h rfl))
      · exact baseE_no _ (.inl (by simp [e]; simpa using h))

set_option maxHeartbeats 4000000 in
set_option maxRecDepth 100000 in
theorem rsplit_any (s : ByteArray) (w : World) (hs : s.size ≤ 1000000) :
    Calls Tryd.prog 18 #[.string s] w fun e w' => e = SplitRet s.toList ∧ Below w.heap.size w w' := by
  have HP := Lib.hid (parts_behind s.toList)
  have hlen := lt_parts s.toList
  have hcnt : s.toList.count 47 ≤ s.size := by rw [← len_toList]; exact List.count_le_length
  have hbl := behind_le 47 s.toList
  rw [len_toList] at hbl
  have HR : Hid (∀ a b, baseE (behind 47 s.toList) = a → extE (behind 47 s.toList) = b → SplitRet s.toList = .returned (.tuple #[.string (B (dirL s.toList)), .string (B a), .string (B b)])) := by
    rintro a b rfl rfl; rfl
  go_enter Tryd.func18, Tryd.ntmps18
  go_wp2_with fail
  refine (rparts_any s w (by omega)).mono ?_
  rintro e w1 ⟨v, rfl, ho, hb1⟩
  obtain ⟨A, c, rfl, hc⟩ := own_form ho
  have hr := Rd.of_own ho
  clear ho
  rw [hlen] at hr hc ⊢
  obtain ⟨ad, rfl, ca⟩ := hr.str (k := s.toList.count 47) (by omega)
  have ca' : w1.cell? (ad.add (s.toList.count 47)) = some (.string (B (behind 47 s.toList))) := by
    rw [ca, List.getD_eq_getElem?_getD, HP.out]
  clear ca hr HP hlen
  generalize s.toList.count 47 = q at *
  have hw1 : IntKind.i64.wrap (((q + 1 : Nat) : Int) - 1) = (q : Int) := by rw [IntWalk.i64_in _ (by omega)]; omega
  have hsz : (B (behind 47 s.toList)).size ≤ s.size := by rw [B_size]; exact hbl
  have HE : Hid ((B (behind 47 s.toList)).toList = behind 47 s.toList) := B_data _
  generalize B (behind 47 s.toList) = t at *
  rw [← HE.out] at HR
  clear HE hbl
  go_wp2
  go_loop [7] (fun i => ∃ k : Nat, k ≤ t.size ∧ i = .int .i64 ((k : Int) - 1) ∧ Hid ((46 : UInt8) ∉ t.toList.drop k)) (fun i => (intOf i + 1).toNat)
  case atStart => exact ⟨t.size, Nat.le_refl _, by go_num, by rw [List.drop_of_length_le (by rw [len_toList]; omega)]; simp [Hid]⟩
  case round =>
    obtain ⟨k, hk, rfl, hr⟩ := hrel
    by_cases h0 : k ≤ 1
    · have HX := Lib.hid (HR.out _ _ (ext_none _ k h0 hr.out).1 (ext_none _ k h0 hr.out).2)
      rw [B_self] at HX
      clear HR
      go_wp2_with fail
      refine (rdir_any s w1 (by omega)).mono ?_
      rintro e w2 ⟨rfl, rfl⟩
      go_wp2
      go_ret3
      exact ⟨by rw [HX.out]; rfl, hb1⟩
    · obtain ⟨m, rfl⟩ : ∃ m, k = m + 1 := ⟨k - 1, by omega⟩
      have em : (((m + 1 : Nat) : Int) - 1) = (m : Int) := by omega
      rw [em]
      have hm0 : 0 < m := by omega
      by_cases hc : ((t[m].toNat : Int) == 46) = true
      · have HX : Hid (SplitRet s.toList = .returned (.tuple #[.string (B (dirL s.toList)), .string (t.extract 0 m), .string (t.extract m t.size)])) := by
          have e := split_at t m (by omega)
          rw [byte_is (d := 46) hc] at e
          have hne : t.toList.take m ≠ [] := by
            intro e
            have := congrArg List.length e
            rw [List.length_take, len_toList, List.length_nil] at this; omega
          have := baseE_yes (t.toList.take m) _ hr.out hne
          rw [← e] at this
          have e2 := HR.out _ _ this.1 this.2
          have e3 : (46 : UInt8) :: t.toList.drop (m + 1) = t.toList.drop m := by
            rw [drop_byte t m (by omega), byte_is (d := 46) hc]
          rw [e3] at e2
          unfold Hid
          rw [e2, B_take, B_drop]
        clear HR
        have D := Lib.hid (fun (n : Nat) => rdir_any s (w1.drewN n) (by omega))
        go_wp2_with fail
        go_quiet ((go_at_call 37; exact quiet_left (rdir_any s _ (by omega))))
        go_wp2
        go_ret3
        exact ⟨HX.out.symm, below_drewN hb1 _⟩
      · have hc : ((t[m].toNat : Int) == 46) = false := by simpa using hc
        have HN : Hid ((46 : UInt8) ∉ t.toList.drop m) := by
          have := hr.out
          rw [drop_byte t m (by omega)]
          unfold Hid
          simp only [List.mem_cons, not_or]
          exact ⟨fun e => byte_ne (d := 46) hc e.symm, this⟩
        go_wp2
        go_round
        case rel => exact ⟨m, by omega, by go_num, HN.out⟩
        case measure => simp [intOf]

end Go.Proofs.YtpbampchhpkpbaaDoor
