/-
  Layer 49 (project): lines with a fixed beginning; variables.
-/
import Derived.Test.YtmkenekngaihhaaDoorPjJ
namespace Go.Proofs.YtmkenekngaihhaaDoor
open Go.RowKit
set_option linter.unusedVariables false
set_option linter.unusedSimpArgs false
attribute [local go_sem] B_data B_size

theorem data_B (l : List UInt8) : (B l).data.toList = l := by rw [toList_data, B_data]
theorem cutpre_some {s p r : List UInt8} (w : World) (h : cutP p s = some r) :
    Calls Tryd.prog 31 #[.string (B s), .string (B p)] w fun e w' => e = .returned (.tuple #[.string (B r), .bool true]) ∧ w = w' := by
  refine (Tryd.strings_CutPrefix (B s) (B p) w).mono fun e w' ⟨h1, h2⟩ => ⟨?_, h2.symm⟩
  unfold cutP at h
  split at h
  · rename_i hp
    injection h with h
    rw [h1, data_B, data_B]
    have e1 : Lib.hasPrefix s p = true := hp
    have e2 : Lib.trimPrefix s p = r := by unfold Lib.trimPrefix; rw [if_pos e1]; exact h
    rw [e1, e2]; rfl
  · cases h
theorem cutpre_none {s p : List UInt8} (w : World) (h : cutP p s = none) :
    Calls Tryd.prog 31 #[.string (B s), .string (B p)] w fun e w' => (∃ x, e = .returned (.tuple #[.string x, .bool false])) ∧ w = w' := by
  refine (Tryd.strings_CutPrefix (B s) (B p) w).mono fun e w' ⟨h1, h2⟩ => ⟨⟨⟨(Lib.trimPrefix s p).toArray⟩, ?_⟩, h2.symm⟩
  unfold cutP at h
  split at h
  · cases h
  · rename_i hp
    rw [h1, data_B, data_B]
    have e1 : Lib.hasPrefix s p = false := Bool.eq_false_iff.2 hp
    rw [e1]
set_option maxHeartbeats 1000000 in
theorem fixed_any (l n : List UInt8) (w : World) (hl : l.length ≤ 1000000000) (hn : n.length ≤ 1000) :
    Calls Tryd.prog 13 #[.string (B l), .string (B n)] w fun e w' => e = VRet (fixP n l) ∧ w = w' := by
  have hb := B_size n
  have HS : Hid (B n ++ ⟨#[32, 61]⟩ = B (n ++ [32, 61])) := B_cat n [32, 61]
  cases hc : cutP (n ++ [32, 61]) l with
  | none =>
    have HX : Hid (fixP n l = none) := by unfold fixP; rw [hc]; rfl
    have HC := Lib.hid (cutpre_none w hc)
    clear hc
    go_enter Tryd.func13, Tryd.ntmps13
    go_wp2_with fail
    rw [HS.out]
    refine HC.out.mono ?_
    rintro e w1 ⟨⟨x, rfl⟩, rfl⟩
    go_wp2
    go_ret2
    exact ⟨vret_none HX, rfl⟩
  | some r =>
    have hr : r.length ≤ l.length := by rw [cutP_some hc]; simp; omega
    have HF : Hid (fixP n l = valP r) := by unfold fixP; rw [hc]; rfl
    have HC := Lib.hid (cutpre_some w hc)
    have hrs : (B r).size ≤ 1000000000 := by rw [B_size]; omega
    clear hc
    cases hv : valP r with
    | none =>
      have HV := Lib.hid (value_none w hrs (by rw [B_data]; exact hv))
      have HX : Hid (fixP n l = none) := by rw [HF.out, hv]; rfl
      clear hv
      go_enter Tryd.func13, Tryd.ntmps13
      go_wp2_with fail
      rw [HS.out]
      refine HC.out.mono ?_
      rintro e w1 ⟨rfl, rfl⟩
      go_wp2_with fail
      refine HV.out.mono ?_
      rintro e w1 ⟨rfl, rfl⟩
      go_wp2
      go_ret2
      exact ⟨vret_none HX, rfl⟩
    | some v =>
      have HV := Lib.hid (value_some w hrs (by rw [B_data]; exact hv))
      have HX : Hid (fixP n l = some v) := by rw [HF.out, hv]; rfl
      clear hv
      go_enter Tryd.func13, Tryd.ntmps13
      go_wp2_with fail
      rw [HS.out]
      refine HC.out.mono ?_
      rintro e w1 ⟨rfl, rfl⟩
      go_wp2_with fail
      refine HV.out.mono ?_
      rintro e w1 ⟨rfl, rfl⟩
      go_wp2
      go_ret2
      exact ⟨vret_some HX, rfl⟩
/-- a pair in memory, and whether it is one -/
def PRet (o : Option (List UInt8 × List UInt8)) (w : World) (e : Ending) (w' : World) : Prop := (match o with
  | some v => e = .returned (.tuple #[.agg #[.string (B v.1), .string (B v.2)], .bool true])
  | none => ∃ x y, e = .returned (.tuple #[.agg #[.string x, .string y], .bool false])) ∧ Below w.heap.size w w'
theorem varP_cut : ∀ (s key : List UInt8), (Lib.index s [32, 61] = -1 ∧ varP key s = none) ∨ ∃ i : Nat, Lib.index s [32, 61] = i ∧ varP key s = (valP (s.drop (i + 2))).map fun v => (key ++ s.take i, v) := by
  intro s
  induction s with
  | nil => intro key; exact .inl ⟨rfl, rfl⟩
  | cons c r ih =>
    intro key
    rw [Lib.index, varP]
    by_cases hc : c = 32 ∧ r.head? = some 61
    · obtain ⟨rfl, h2⟩ := hc
      cases r with
      | nil => cases h2
      | cons d q =>
        obtain rfl : d = 61 := by simpa using h2
        refine .inr ⟨0, ?_, ?_⟩
        · rw [if_pos (by simp [List.isPrefixOf])]; rfl
        · rw [if_pos ⟨rfl, rfl⟩]; simp
    · have hp : List.isPrefixOf [32, 61] (c :: r) = false := by
        cases hq : List.isPrefixOf [32, 61] (c :: r) with
        | false => rfl
        | true =>
          rw [List.isPrefixOf_iff_prefix] at hq
          obtain ⟨t, ht⟩ := hq
          injection ht with h1 h2
          exact absurd ⟨h1.symm, by rw [← h2]; rfl⟩ hc
      rw [hp, if_neg hc]
      simp only [Bool.false_eq_true, if_false]
      rcases ih (key ++ [c]) with ⟨h1, h2⟩ | ⟨i, h1, h2⟩
      · exact .inl ⟨by rw [h1]; rfl, h2⟩
      · refine .inr ⟨i + 1, ?_, ?_⟩
        · rw [h1]
          have : ((i : Int) == -1) = false := by rw [beq_eq_false_iff_ne]; omega
          rw [this]; simp
        · rw [h2, List.drop_succ_cons, List.take_succ_cons, List.append_assoc]; rfl
theorem below_ps (w : World) (o : Obj) (q : Nat) (u v : Value) : Below w.heap.size w ((((w.alloc o).drewN q).setCell ⟨w.heap.size, 0, none⟩ u).setCell ⟨w.heap.size, 1, none⟩ v) :=
  (((below_drewN (below_alloc w o) q).setCell (p := ⟨w.heap.size, 0, none⟩) (Nat.le_refl _) u).setCell (p := ⟨w.heap.size, 1, none⟩) (Nat.le_refl _) v)
theorem cut_none {s : List UInt8} (h : Lib.index s [32, 61] = -1) : Lib.cut s [32, 61] = (s, [], false) := by unfold Lib.cut; rw [h]; rfl
theorem cut_some {s : List UInt8} {i : Nat} (h : Lib.index s [32, 61] = i) : Lib.cut s [32, 61] = (s.take i, s.drop (i + 2), true) := by
  unfold Lib.cut; rw [h, if_pos (by omega)]; rfl
theorem cutEq_any (s : List UInt8) (w : World) (hs : s.length ≤ 1000000000) (hG : Fil.Glob w) :
    Calls Tryd.prog 33 #[.string (B s), .string ⟨#[32, 61]⟩] w fun e w' => e = .returned (.tuple #[.string (B (Lib.cut s [32, 61]).1), .string (B (Lib.cut s [32, 61]).2.1), .bool (Lib.cut s [32, 61]).2.2]) ∧ ∃ n, w' = w.drewN n := by
  obtain ⟨m, hm⟩ := hG
  refine (Tryd.strings_Cut (B s) ⟨#[32, 61]⟩ m w (by rw [B_size]; omega) hm).mono fun e w' ⟨h1, h2⟩ => ⟨?_, h2⟩
  rw [h1, data_B]
  rfl
theorem pret_some {o : Option (List UInt8 × List UInt8)} {k v : List UInt8} {w w' : World} (h : Hid (o = some (k, v))) (hb : Below w.heap.size w w') : PRet o w (.returned (.tuple #[.agg #[.string (B k), .string (B v)], .bool true])) w' := by unfold PRet; rw [h.out]; exact ⟨rfl, hb⟩
theorem pret_none {o : Option (List UInt8 × List UInt8)} {x y : ByteArray} {w w' : World} (h : Hid (o = none)) (hb : Below w.heap.size w w') : PRet o w (.returned (.tuple #[.agg #[.string x, .string y], .bool false])) w' := by unfold PRet; rw [h.out]; exact ⟨⟨x, y, rfl⟩, hb⟩
set_option maxHeartbeats 4000000 in
set_option maxRecDepth 100000 in
theorem variable_any (s : List UInt8) (w : World) (hs : s.length ≤ 1000000000) (hG : Fil.Glob w) :
    Calls Tryd.prog 34 #[.string (B s)] w (PRet (varP [] s) w) := by
  have hbw := below_alloc w (.cells #[.string ⟨#[]⟩, .string ⟨#[]⟩] 50)
  have HC := Lib.hid (cutEq_any s _ hs (hG.below hbw (Nat.le_refl _)))
  rcases varP_cut s [] with ⟨h1, h2⟩ | ⟨i, h1, h2⟩
  · have HX := Lib.hid h2
    rw [cut_none h1] at HC
    clear h1 h2
    go_enter Tryd.func34, Tryd.ntmps34
    go_wp2_with fail
    refine HC.out.mono ?_
    rintro e w1 ⟨rfl, q, rfl⟩
    go_wp2
    refine bodyPost_ret (v := .tuple #[.agg #[.string ⟨#[]⟩, .string ⟨#[]⟩], .bool false]) (by simp [results, Tryd.results34, go_sem]) rfl ?_
    exact pret_none HX (below_ps w _ _ _ _)
  · have hle : (s.drop (i + 2)).length ≤ s.length := by rw [List.length_drop]; omega
    have hrs : (B (s.drop (i + 2))).size ≤ 1000000000 := by rw [B_size]; omega
    rw [cut_some h1] at HC
    rw [List.nil_append] at h2
    clear hle
    cases hv : valP (s.drop (i + 2)) with
    | none =>
      have HV := Lib.hid (fun V => value_none V hrs (by rw [B_data]; exact hv))
      have HX : Hid (varP [] s = none) := by rw [h2, hv]; rfl
      clear h1 h2 hv hrs
      generalize s.drop (i + 2) = r at *
      generalize s.take i = k at *
      go_enter Tryd.func34, Tryd.ntmps34
      go_wp2_with fail
      refine HC.out.mono ?_
      rintro e w1 ⟨rfl, q, rfl⟩
      go_wp2_with fail
      refine (HV.out _).mono ?_
      rintro e w1 ⟨rfl, rfl⟩
      go_wp2
      refine bodyPost_ret (v := .tuple #[.agg #[.string (B k), .string ⟨#[]⟩], .bool false]) (by simp [results, Tryd.results34, go_sem]) rfl ?_
      exact pret_none HX (below_ps w _ _ _ _)
    | some v =>
      have HV := Lib.hid (fun V => value_some V hrs (by rw [B_data]; exact hv))
      have HX : Hid (varP [] s = some (s.take i, v)) := by rw [h2, hv]; rfl
      clear h1 h2 hv hrs
      generalize s.drop (i + 2) = r at *
      generalize s.take i = k at *
      go_enter Tryd.func34, Tryd.ntmps34
      go_wp2_with fail
      refine HC.out.mono ?_
      rintro e w1 ⟨rfl, q, rfl⟩
      go_wp2_with fail
      refine (HV.out _).mono ?_
      rintro e w1 ⟨rfl, rfl⟩
      go_wp2
      refine bodyPost_ret (v := .tuple #[.agg #[.string (B k), .string (B v)], .bool true]) (by simp [results, Tryd.results34, go_sem]) rfl ?_
      exact pret_some HX (below_ps w _ _ _ _)
end Go.Proofs.YtmkenekngaihhaaDoor
