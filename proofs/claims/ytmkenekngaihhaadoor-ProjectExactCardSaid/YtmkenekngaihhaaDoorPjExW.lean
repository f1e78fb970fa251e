/-
  Layer 49 (project): the walk of the law ProjectExact.
-/
import Derived.Test.YtmkenekngaihhaaDoorPjTop
import Derived.Test.YtmkenekngaihhaaDoorLinesP
import Derived.Test.YtmkenekngaihhaaDoorPjH
namespace Go.Proofs.YtmkenekngaihhaaDoor
open Go.RowKit
set_option linter.unusedVariables false
set_option linter.unusedSimpArgs false
attribute [local go_sem] B_data B_size

theorem lf_yes (s : ByteArray) (h : 0 < s.size) (hc : ((s[s.size - 1].toNat : Int) != 10) = false) : B (lf s.toList) = s := by
  have e : lf s.toList = s.toList := by
    have h10 : s[s.size - 1] = 10 := by
      have : (s[s.size - 1].toNat : Int) = 10 := by simpa using hc
      exact UInt8.toNat_inj.1 (by simpa using (by omega : s[s.size - 1].toNat = 10))
    have hl := last_byte s h
    rw [h10] at hl
    rw [hl]
    unfold lf
    rw [if_neg (by simp)]
    simp
  rw [e, B_self]
theorem lf_no (s : ByteArray) (h : 0 < s.size) (hc : ((s[s.size - 1].toNat : Int) != 10) = true) : B (lf s.toList) = s ++ ⟨#[10]⟩ := by
  have h10 : ¬ s[s.size - 1] = 10 := fun e => by simp [e] at hc
  have hl := last_byte s h
  have hg : s.toList.getLast? = some s[s.size - 1] := by rw [hl]; simp
  have e : lf s.toList = s.toList ++ [10] := by
    unfold lf
    rw [if_neg (fun e => by rw [e] at hg; simp at hg), if_neg (by rw [hg]; simpa using h10)]
  rw [e, B_app, B_self]; rfl
theorem parse_err {ls : List (List UInt8)} {p : Pj} {line : Nat} {err : Int} (h : parseL pkG ls = (p, line, err)) (he : err ≠ 0) : p = pj0 := by
  unfold parseL at h
  split at h
  · injection h with h _; exact h.symm
  · split at h
    · injection h with h _; exact h.symm
    · split at h
      · injection h with h _; exact h.symm
      · injection h with _ h
        injection h with _ h
        exact absurd h.symm he
theorem parse_ok {ls : List (List UInt8)} {p : Pj} {line : Nat} (h : parseL pkG ls = (p, line, 0)) : line = 0 ∧ ls ≠ [] := by
  refine ⟨?_, ?_⟩
  · unfold parseL at h
    split at h
    · injection h with _ h; injection h with _ h; cases h
    · split at h
      · injection h with _ h; injection h with _ h; cases h
      · split at h
        · rename_i hc
          injection h with _ h; injection h with _ h; exact absurd h hc
        · injection h with _ h
          injection h with h _
          exact h.symm
  · intro e
    subst e
    have h : (pj0, 1, (5 : Int)) = (p, line, 0) := h
    injection h with _ h
    injection h with _ h
    cases h
theorem exact_text {s : ByteArray} {p : Pj} (h : parseL pkG (split s.toList) = (p, 0, 0)) (h0 : split s.toList ≠ []) : checkE pkG p = 0 ∧ textP p = lf s.toList := by
  obtain ⟨h1, h2⟩ := parse_exact h h0
  refine ⟨h2, ?_⟩
  rw [← join_split, ← h1]
  rfl
set_option maxHeartbeats 8000000 in
set_option maxRecDepth 100000 in
theorem projectExact_walk (w : World) (s : ByteArray) (hs : s.size ≤ maxLen) (hG : GlobL w) :
    Calls Tryd.prog 3 #[.string s] w fun e w' => e = .returned (.bool true) ∧ Below w.heap.size w w' := by
  by_cases hlt : 1200 < s.size
  · have i1 : (1200 : Int) < (s.size : Int) := by omega
    go_enter Tryd.func3, Tryd.ntmps3
    go_wp2_with fail
    refine (awake_any _ hG).mono ?_
    rintro e w9 ⟨rfl, hb9⟩
    go_wp2
    go_ret
    exact ⟨rfl, hb9⟩
  have i1 : ¬ (1200 : Int) < (s.size : Int) := by omega
  go_enter Tryd.func3, Tryd.ntmps3
  go_wp2_with fail
  refine (parse_any s _ (by omega) hG.1).mono ?_
  rintro e w1 ⟨p, line, err, A, G, H, a, g, h, hpl, rfl, hb1, hv1⟩
  have hG1 := hG.below hb1
  have hD : LW w p ⟨A, p.vs.length, a, G, p.fs.length, g, H, p.ts.length, h⟩ w1.heap.size (w1.alloc (.cells #[.string (B p.ti), .string (B p.la), .string (B p.ma), .string (B p.so), .string (B p.st), .slice A p.vs.length a, .slice G p.fs.length g, .slice H p.ts.length h] 27)) := by
    have h1 := LW.new (w := w1) (p := p) (c := ⟨A, p.vs.length, a, G, p.fs.length, g, H, p.ts.length, h⟩) ⟨Rd.of_own hv1.ov, Rd.of_own hv1.of, Rd.of_own hv1.ot⟩ hG1
    exact ⟨hb1.trans (h1.b.mono hb1.size), h1.pb, h1.at1, h1.g⟩
  have hsm : PjSm p := parse_sm hpl (by omega)
  clear hb1 hv1 hG1
  by_cases he : err = 0
  · subst he
    obtain ⟨rfl, h0⟩ := parse_ok hpl
    obtain ⟨hck, htx⟩ := exact_text hpl h0
    have hne : 0 < s.size := by
      refine Nat.pos_of_ne_zero fun e => h0 ?_
      have : s.toList = [] := List.eq_nil_of_length_eq_zero (by rw [len_toList]; exact e)
      rw [this]; rfl
    have HTE : Hid (txtE p = lf s.toList) := by unfold txtE; rw [hck, if_pos rfl, htx]; rfl
    have HCK := Lib.hid hck
    have HTA := Lib.hid (text_any p _ _ hsm hD.at1 hD.g)
    clear hpl h0 hck htx
    go_wp2_with fail
    refine HTA.out.mono ?_
    rintro e w2 ⟨rfl, hb2⟩
    rw [HCK.out, HTE.out]
    have hF := hD.step hb2
    clear hD hb2 HTA HTE HCK
    by_cases hc : ((s[s.size - 1].toNat : Int) != 10) = true
    · rw [lf_no s hne hc]
      have q1 : ((s ++ ⟨#[10]⟩).toList == s.toList) = false := by
        rw [beq_eq_false_iff_ne]
        intro e
        have := congrArg List.length e
        rw [len_toList, len_toList, ByteArray.size_append] at this
        have h1 : (⟨#[10]⟩ : ByteArray).size = 1 := rfl
        omega
      have q3 := isEmpty_of s hne
      have q2 : (s.toList == []) = false := by
        rw [beq_eq_false_iff_ne]
        intro e
        have := congrArg List.length e
        rw [len_toList] at this
        have h2 : s.size = 0 := this
        omega
      go_wp2_with fail
      refine (awake_any _ hF.g).mono ?_
      rintro e w9 ⟨rfl, hb9⟩
      have hb10 := hF.b.trans (hb9.mono hF.b.size)
      clear hF hb9
      go_wp2
      go_ret
      exact ⟨rfl, hb10⟩
    · have hc : ((s[s.size - 1].toNat : Int) != 10) = false := by simpa using hc
      rw [lf_yes s hne hc]
      clear hc
      go_wp2_with fail
      refine (awake_any _ hF.g).mono ?_
      rintro e w9 ⟨rfl, hb9⟩
      have hb10 := hF.b.trans (hb9.mono hF.b.size)
      clear hF hb9
      go_wp2
      go_ret
      exact ⟨rfl, hb10⟩
  · have z1 : (err != 0) = true := by simpa using he
    have hp0 := parse_err hpl he
    subst hp0
    have HSA := Lib.hid (rsame_any pj0 pj0 _ ⟨none, 0, 0, none, 0, 0, none, 0, 0⟩ _ sm_pj0 sm_pj0 hD.at1 ⟨Rd.nil, Rd.nil, Rd.nil⟩)
    clear hpl he
    go_wp2_with fail
    refine HSA.out.mono ?_
    rintro e w2 ⟨rfl, hb2⟩
    rw [sameB_refl]
    have hF := hD.step hb2
    clear hD hb2 HSA
    go_wp2_with fail
    refine (awake_any _ hF.g).mono ?_
    rintro e w9 ⟨rfl, hb9⟩
    have hb10 := hF.b.trans (hb9.mono hF.b.size)
    clear hF hb9
    go_wp2
    go_ret
    exact ⟨rfl, hb10⟩
end Go.Proofs.YtmkenekngaihhaaDoor
