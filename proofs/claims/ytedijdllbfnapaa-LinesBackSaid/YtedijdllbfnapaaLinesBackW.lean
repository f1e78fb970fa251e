/-
  Layer 2 (lines): the walk of the law LinesBack.
-/
import Derived.Test.YtedijdllbfnapaaLinesQ
namespace Go.Proofs.Ytedijdllbfnapaa
open Go.RowKit
set_option linter.unusedVariables false

theorem lf_le (l : List UInt8) : (lf l).length ≤ l.length + 1 := by
  unfold lf
  split
  · simp
  · split
    · omega
    · simp
theorem feeds_zero (l : List UInt8) : feeds l = 0 ↔ 10 ∉ l := by unfold feeds; exact List.count_eq_zero

/-- what the law wants: the string with a line feed at its end -/
theorem lf_nil (s : ByteArray) (h : s.size = 0) : B (lf s.toList) = s := by
  have e : s.toList = [] := List.eq_nil_of_length_eq_zero (by rw [len_toList]; exact h)
  have : lf s.toList = s.toList := by rw [e]; rfl
  rw [this, B_self]
theorem lf_yes (s : ByteArray) (h : 0 < s.size) (hc : ((s[s.size - 1].toNat : Int) != 10) = false) : B (lf s.toList) = s := by
  have e : lf s.toList = s.toList := by
    have h10 : s[s.size - 1] = 10 := by
      have : (s[s.size - 1].toNat : Int) = 10 := by simpa using hc
      exact UInt8.toNat_inj.1 (by simpa using (by omega : s[s.size - 1].toNat = 10))
    have hl := last_byte s h
    rw [h10] at hl
    rw [hl]
    unfold lf
    rw [if_neg (by simp)]
    simp
  rw [e, B_self]
theorem lf_no (s : ByteArray) (h : 0 < s.size) (hc : ((s[s.size - 1].toNat : Int) != 10) = true) : B (lf s.toList) = s ++ ⟨#[10]⟩ := by
  have h10 : ¬ s[s.size - 1] = 10 := fun e => by simp [e] at hc
  have hl := last_byte s h
  have hg : s.toList.getLast? = some s[s.size - 1] := by rw [hl]; simp
  have e : lf s.toList = s.toList ++ [10] := by
    unfold lf
    rw [if_neg (fun e => by rw [e] at hg; simp at hg), if_neg (by rw [hg]; simpa using h10)]
  rw [e, B_app, B_self]; rfl

set_option maxHeartbeats 2000000 in
set_option maxRecDepth 100000 in
theorem linesBack_walk (w : World) (A : Option Addr) (n c : Nat) (ls : List (List UInt8)) (m0 : n ≤ maxLen) (hx : Rd w w.heap.size 1 A n (strs ls)) (s : ByteArray) (w0 : s.size ≤ maxLen) :
    Calls Try.prog 5 #[.slice A n c, .string s] w fun e w' => e = .returned (.bool true) ∧ Below w.heap.size w w' := by
  unfold maxLen at m0 w0
  have lx := hx.strs_length
  have HL := Lib.hid lx; clear lx
  have HJ := Lib.hid (join_split s.toList)
  go_enter Try.func5, Try.ntmps5
  go_wp2_with fail
  with_reducible refine (light_any A n c ls _ hx (by omega)).mono ?_
  rintro e w1 ⟨b, rfl, rfl, hlight⟩
  have HLI := Lib.hid hlight; clear hlight
  cases b with
  | false =>
    go_wp2_with fail
    with_reducible refine (awake_any _).mono ?_
    rintro e w9 ⟨rfl, hb9⟩
    go_wp2
    go_ret
    exact ⟨rfl, hb9⟩
  | true =>
    have HLT := Lib.hid (HLI.out rfl); clear HLI
    by_cases h : 800 < s.size
    · skip
      go_wp2_with fail
      with_reducible refine (awake_any _).mono ?_
      rintro e w9 ⟨rfl, hb9⟩
      go_wp2
      go_ret
      exact ⟨rfl, hb9⟩
    · by_cases h0 : 0 < s.size
      · have he := isEmpty_of s h0
        by_cases hc : ((s[s.size - 1].toNat : Int) != 10) = true
        · have HW := Lib.hid (lf_no s h0 hc)
          go_wp2_with fail
          with_reducible refine (split_any s _ (by omega)).mono ?_
          rintro e w1 ⟨v1, rfl, hown1, hb1⟩
          obtain ⟨A1, c1, rfl, hc1⟩ := own_form hown1
          have hl1 := own_len hown1
          have hs1 := hb1.size
          go_wp2_with fail
          with_reducible refine (join_any A1 _ c1 _ _ (Rd.of_own hown1) hl1 (by rw [HJ.out]; have := lf_le s.toList; rw [len_toList] at this; omega)).mono ?_
          rintro e w2 ⟨rfl, hb2⟩
          have hs2 := hb2.size
          have hB2 : Below w.heap.size w w2 := hb1.trans (hb2.mono hs1)
          have hz2 := hB2.size
          have hx2 := (hx.below hB2).more hB2.size
          clear hown1 hc1 hl1 hb1 hb2 hx
          rw [HJ.out, HW.out]
          have hq : (!(s ++ ⟨#[10]⟩).toList == (s ++ ⟨#[10]⟩).toList) = false := by simp
          go_wp2
          go_loop [6] (fun i => ∃ k : Nat, k ≤ n ∧ i = .int .i64 k ∧ Hid (∀ j, j < k → 10 ∉ (ls[j]?.getD []))) (fun i => n - (intOf i).toNat)
          case atStart => exact ⟨0, Nat.zero_le _, rfl, fun j h => absurd h (by omega)⟩
          case round =>
            obtain ⟨k, hk, rfl, hr⟩ := hrel
            by_cases hlt : k < n
            · obtain ⟨ad, rfl, ha⟩ := hx2.str hlt
              have hm : ls[k]?.getD [] ∈ ls := by
                have : k < ls.length := by rw [HL.out]; exact hlt
                simp [this]
              have hsz : (B (ls[k]?.getD [])).size ≤ 400 := by rw [B_size]; exact (HLT.out).2.2 _ hm
              clear hm
              go_wp2_with fail
              with_reducible refine (feeds_any _ _ (by omega)).mono ?_
              rintro e w' ⟨rfl, rfl⟩
              rw [B_data]
              by_cases hz : feeds (ls[k]?.getD []) = 0
              · have hz' : feeds (ls[k]?.getD []) ≤ 0 := by omega
                have HZ := Lib.hid hz; clear hz
                go_wp2
                go_round
                case rel =>
                  refine ⟨k + 1, by omega, by go_num, fun j hj => ?_⟩
                  by_cases e : j = k
                  · subst e; exact (feeds_zero _).1 HZ.out
                  · exact hr.out j (by omega)
                case measure => simp [intOf]; omega
              · have hz' : 0 < feeds (ls[k]?.getD []) := by omega
                clear hz
                go_wp2_with fail
                with_reducible refine (awake_any _).mono ?_
                rintro e w9 ⟨rfl, hb9⟩
                go_wp2
                go_ret
                exact ⟨rfl, hB2.trans (hb9.mono hz2)⟩
            · have HN : Hid (∀ l ∈ ls, 10 ∉ l) := fun l hm => by
                obtain ⟨i, hi, rfl⟩ := List.mem_iff_getElem.1 hm
                have hin : i < n := by rw [← HL.out]; exact hi
                have := hr.out i (by omega)
                simpa [hi] using this
              have hj : (joinS ls).length ≤ 3000 := by have := HLT.out; rw [joinS_len]; omega
              go_wp2_with fail
              with_reducible refine (join_any A n c ls _ hx2 (by omega) (by omega)).mono ?_
              rintro e w3 ⟨rfl, hb3⟩
              have hs3 := hb3.size
              go_wp2_with fail
              with_reducible refine (split_any _ _ (by rw [B_size]; omega)).mono ?_
              rintro e w4 ⟨v4, rfl, hown4, hb4⟩
              obtain ⟨A4, c4, rfl, hc4⟩ := own_form hown4
              have hl4 := own_len hown4
              have hs4 := hb4.size
              go_wp2_with fail
              with_reducible refine (texts_yes A4 A _ n c4 c _ ls (by rw [B_data]; exact split_join ls HN.out) w4 w4.heap.size (Rd.of_own hown4) (((hx2.below hb3).below (hb4.mono hs3)).more (by omega)) hl4 (by omega)).mono ?_
              rintro e w5 ⟨rfl, hq5⟩
              have hB5 : Below w.heap.size w w5 := by obtain ⟨q, rfl⟩ := hq5; exact below_drewN ((hB2.trans (hb3.mono hz2)).trans (hb4.mono (by omega))) q
              have hs5 := hB5.size
              clear hq5 hown4 hc4 hl4
              go_wp2_with fail
              with_reducible refine (awake_any _).mono ?_
              rintro e w9 ⟨rfl, hb9⟩
              go_wp2
              go_ret
              exact ⟨rfl, hB5.trans (hb9.mono hs5)⟩
        · have hc : ((s[s.size - 1].toNat : Int) != 10) = false := by simpa using hc
          have HW := Lib.hid (lf_yes s h0 hc)
          go_wp2_with fail
          with_reducible refine (split_any s _ (by omega)).mono ?_
          rintro e w1 ⟨v1, rfl, hown1, hb1⟩
          obtain ⟨A1, c1, rfl, hc1⟩ := own_form hown1
          have hl1 := own_len hown1
          have hs1 := hb1.size
          go_wp2_with fail
          with_reducible refine (join_any A1 _ c1 _ _ (Rd.of_own hown1) hl1 (by rw [HJ.out]; have := lf_le s.toList; rw [len_toList] at this; omega)).mono ?_
          rintro e w2 ⟨rfl, hb2⟩
          have hs2 := hb2.size
          have hB2 : Below w.heap.size w w2 := hb1.trans (hb2.mono hs1)
          have hz2 := hB2.size
          have hx2 := (hx.below hB2).more hB2.size
          clear hown1 hc1 hl1 hb1 hb2 hx
          rw [HJ.out, HW.out]
          have hq : (!(s).toList == (s).toList) = false := by simp
          go_wp2
          go_loop [6] (fun i => ∃ k : Nat, k ≤ n ∧ i = .int .i64 k ∧ Hid (∀ j, j < k → 10 ∉ (ls[j]?.getD []))) (fun i => n - (intOf i).toNat)
          case atStart => exact ⟨0, Nat.zero_le _, rfl, fun j h => absurd h (by omega)⟩
          case round =>
            obtain ⟨k, hk, rfl, hr⟩ := hrel
            by_cases hlt : k < n
            · obtain ⟨ad, rfl, ha⟩ := hx2.str hlt
              have hm : ls[k]?.getD [] ∈ ls := by
                have : k < ls.length := by rw [HL.out]; exact hlt
                simp [this]
              have hsz : (B (ls[k]?.getD [])).size ≤ 400 := by rw [B_size]; exact (HLT.out).2.2 _ hm
              clear hm
              go_wp2_with fail
              with_reducible refine (feeds_any _ _ (by omega)).mono ?_
              rintro e w' ⟨rfl, rfl⟩
              rw [B_data]
              by_cases hz : feeds (ls[k]?.getD []) = 0
              · have hz' : feeds (ls[k]?.getD []) ≤ 0 := by omega
                have HZ := Lib.hid hz; clear hz
                go_wp2
                go_round
                case rel =>
                  refine ⟨k + 1, by omega, by go_num, fun j hj => ?_⟩
                  by_cases e : j = k
                  · subst e; exact (feeds_zero _).1 HZ.out
                  · exact hr.out j (by omega)
                case measure => simp [intOf]; omega
              · have hz' : 0 < feeds (ls[k]?.getD []) := by omega
                clear hz
                go_wp2_with fail
                with_reducible refine (awake_any _).mono ?_
                rintro e w9 ⟨rfl, hb9⟩
                go_wp2
                go_ret
                exact ⟨rfl, hB2.trans (hb9.mono hz2)⟩
            · have HN : Hid (∀ l ∈ ls, 10 ∉ l) := fun l hm => by
                obtain ⟨i, hi, rfl⟩ := List.mem_iff_getElem.1 hm
                have hin : i < n := by rw [← HL.out]; exact hi
                have := hr.out i (by omega)
                simpa [hi] using this
              have hj : (joinS ls).length ≤ 3000 := by have := HLT.out; rw [joinS_len]; omega
              go_wp2_with fail
              with_reducible refine (join_any A n c ls _ hx2 (by omega) (by omega)).mono ?_
              rintro e w3 ⟨rfl, hb3⟩
              have hs3 := hb3.size
              go_wp2_with fail
              with_reducible refine (split_any _ _ (by rw [B_size]; omega)).mono ?_
              rintro e w4 ⟨v4, rfl, hown4, hb4⟩
              obtain ⟨A4, c4, rfl, hc4⟩ := own_form hown4
              have hl4 := own_len hown4
              have hs4 := hb4.size
              go_wp2_with fail
              with_reducible refine (texts_yes A4 A _ n c4 c _ ls (by rw [B_data]; exact split_join ls HN.out) w4 w4.heap.size (Rd.of_own hown4) (((hx2.below hb3).below (hb4.mono hs3)).more (by omega)) hl4 (by omega)).mono ?_
              rintro e w5 ⟨rfl, hq5⟩
              have hB5 : Below w.heap.size w w5 := by obtain ⟨q, rfl⟩ := hq5; exact below_drewN ((hB2.trans (hb3.mono hz2)).trans (hb4.mono (by omega))) q
              have hs5 := hB5.size
              clear hq5 hown4 hc4 hl4
              go_wp2_with fail
              with_reducible refine (awake_any _).mono ?_
              rintro e w9 ⟨rfl, hb9⟩
              go_wp2
              go_ret
              exact ⟨rfl, hB5.trans (hb9.mono hs5)⟩
      · have he := isEmpty_zero s (by omega)
        have HW := Lib.hid (lf_nil s (by omega))
        go_wp2_with fail
        with_reducible refine (split_any s _ (by omega)).mono ?_
        rintro e w1 ⟨v1, rfl, hown1, hb1⟩
        obtain ⟨A1, c1, rfl, hc1⟩ := own_form hown1
        have hl1 := own_len hown1
        have hs1 := hb1.size
        go_wp2_with fail
        with_reducible refine (join_any A1 _ c1 _ _ (Rd.of_own hown1) hl1 (by rw [HJ.out]; have := lf_le s.toList; rw [len_toList] at this; omega)).mono ?_
        rintro e w2 ⟨rfl, hb2⟩
        have hs2 := hb2.size
        have hB2 : Below w.heap.size w w2 := hb1.trans (hb2.mono hs1)
        have hz2 := hB2.size
        have hx2 := (hx.below hB2).more hB2.size
        clear hown1 hc1 hl1 hb1 hb2 hx
        rw [HJ.out, HW.out]
        have hq : (!(s).toList == (s).toList) = false := by simp
        go_wp2
        go_loop [6] (fun i => ∃ k : Nat, k ≤ n ∧ i = .int .i64 k ∧ Hid (∀ j, j < k → 10 ∉ (ls[j]?.getD []))) (fun i => n - (intOf i).toNat)
        case atStart => exact ⟨0, Nat.zero_le _, rfl, fun j h => absurd h (by omega)⟩
        case round =>
          obtain ⟨k, hk, rfl, hr⟩ := hrel
          by_cases hlt : k < n
          · obtain ⟨ad, rfl, ha⟩ := hx2.str hlt
            have hm : ls[k]?.getD [] ∈ ls := by
              have : k < ls.length := by rw [HL.out]; exact hlt
              simp [this]
            have hsz : (B (ls[k]?.getD [])).size ≤ 400 := by rw [B_size]; exact (HLT.out).2.2 _ hm
            clear hm
            go_wp2_with fail
            with_reducible refine (feeds_any _ _ (by omega)).mono ?_
            rintro e w' ⟨rfl, rfl⟩
            rw [B_data]
            by_cases hz : feeds (ls[k]?.getD []) = 0
            · have hz' : feeds (ls[k]?.getD []) ≤ 0 := by omega
              have HZ := Lib.hid hz; clear hz
              go_wp2
              go_round
              case rel =>
                refine ⟨k + 1, by omega, by go_num, fun j hj => ?_⟩
                by_cases e : j = k
                · subst e; exact (feeds_zero _).1 HZ.out
                · exact hr.out j (by omega)
              case measure => simp [intOf]; omega
            · have hz' : 0 < feeds (ls[k]?.getD []) := by omega
              clear hz
              go_wp2_with fail
              with_reducible refine (awake_any _).mono ?_
              rintro e w9 ⟨rfl, hb9⟩
              go_wp2
              go_ret
              exact ⟨rfl, hB2.trans (hb9.mono hz2)⟩
          · have HN : Hid (∀ l ∈ ls, 10 ∉ l) := fun l hm => by
              obtain ⟨i, hi, rfl⟩ := List.mem_iff_getElem.1 hm
              have hin : i < n := by rw [← HL.out]; exact hi
              have := hr.out i (by omega)
              simpa [hi] using this
            have hj : (joinS ls).length ≤ 3000 := by have := HLT.out; rw [joinS_len]; omega
            go_wp2_with fail
            with_reducible refine (join_any A n c ls _ hx2 (by omega) (by omega)).mono ?_
            rintro e w3 ⟨rfl, hb3⟩
            have hs3 := hb3.size
            go_wp2_with fail
            with_reducible refine (split_any _ _ (by rw [B_size]; omega)).mono ?_
            rintro e w4 ⟨v4, rfl, hown4, hb4⟩
            obtain ⟨A4, c4, rfl, hc4⟩ := own_form hown4
            have hl4 := own_len hown4
            have hs4 := hb4.size
            go_wp2_with fail
            with_reducible refine (texts_yes A4 A _ n c4 c _ ls (by rw [B_data]; exact split_join ls HN.out) w4 w4.heap.size (Rd.of_own hown4) (((hx2.below hb3).below (hb4.mono hs3)).more (by omega)) hl4 (by omega)).mono ?_
            rintro e w5 ⟨rfl, hq5⟩
            have hB5 : Below w.heap.size w w5 := by obtain ⟨q, rfl⟩ := hq5; exact below_drewN ((hB2.trans (hb3.mono hz2)).trans (hb4.mono (by omega))) q
            have hs5 := hB5.size
            clear hq5 hown4 hc4 hl4
            go_wp2_with fail
            with_reducible refine (awake_any _).mono ?_
            rintro e w9 ⟨rfl, hb9⟩
            go_wp2
            go_ret
            exact ⟨rfl, hB5.trans (hb9.mono hs5)⟩

end Go.Proofs.Ytedijdllbfnapaa
