/-
  Layer 48 (graph): the walk of the law GraphNil.
-/
import Derived.Test.YtbikldmhfaecpaaGrX
namespace Go.Proofs.Ytbikldmhfaecpaa
open Go.RowKit
set_option linter.unusedVariables false
set_option linter.unusedSimpArgs false
attribute [local go_sem] B_data B_size

theorem nil_set (n v : Nm) : setX GS.new (110 :: n) v = (0, ⟨[(110 :: n, v)], [], 0, 1⟩) := by
  unfold setX
  simp [GS.new, findR, getV, putV, touchX, markS]
theorem nil_get (k v : Nm) : getX ⟨[(k, v)], [], 0, 1⟩ k = (⟨[(k, v)], [], 0, 1⟩, (v, 0)) := by
  unfold getX
  simp [cyc, findR, evalX, getV]
theorem nil_rule (n v : Nm) : ruleX ⟨[(110 :: n, v)], [], 0, 1⟩ (110 :: n) [] (some 0) = (7, ⟨[(110 :: n, v)], [], 0, 1⟩) := by
  unfold ruleX
  simp [getV]
theorem nil_rule2 (S : GS) : ruleX S [109] [[]] (some 0) = (6, S) := by
  unfold ruleX
  simp
theorem nil_rule3 (S : GS) : ruleX S [109] [] none = (2, S) := by
  unfold ruleX
  simp
set_option maxHeartbeats 8000000 in
set_option maxRecDepth 100000 in
theorem graphNil_walk (w : World) (a : ByteArray) (_ : a.size ≤ maxLen) (b : ByteArray) (_ : b.size ≤ maxLen) :
    Calls Try.prog 7 #[.string a, .string b] w fun e w' => e = .returned (.bool true) ∧ Below w.heap.size w w' := by
  obtain ⟨n, rfl⟩ : ∃ l, a = B l := ⟨a.toList, (B_self a).symm⟩
  obtain ⟨v, rfl⟩ : ∃ l, b = B l := ⟨b.toList, (B_self b).symm⟩
  have hb1 := B_size n
  have hb2 := B_size v
  by_cases h1 : n.length ≤ 40 ∧ v.length ≤ 40
  · obtain ⟨hn, hv⟩ := h1
    have d1 : decide ((n.length : Int) > 40) = false := by simp; omega
    have d2 : decide ((v.length : Int) > 40) = false := by simp; omega
    have H0 := Lib.hid (GT.new 0 (Below.refl w.heap.size w))
    have hsum : ¬ (9223372036854775807 : Nat) < 1 + n.length := by omega
    have hcat : (⟨#[110]⟩ : ByteArray) ++ B n = B (110 :: n) := (B_app [110] n).symm
    go_enter Try.func7, Try.ntmps7
    go_wp2_with fail
    generalize w.alloc (.cells #[.map none, .map none, .map none, .int .i64 0, .int .i64 0] 49) = w1 at H0 ⊢
    refine (get_nil n w1).mono ?_
    rintro e wx ⟨rfl, rfl⟩
    simp only [ResV]
    go_wp2_with fail
    refine (set_nil n v wx).mono ?_
    rintro e wx ⟨rfl, rfl⟩
    go_wp2_with fail
    refine (rule_nil n _ _ wx).mono ?_
    rintro e wx ⟨rfl, rfl⟩
    go_wp2_with fail
    refine (runs_nil wx).mono ?_
    rintro e wx ⟨rfl, rfl⟩
    go_wp2_with fail
    refine (stale_nil wx).mono ?_
    rintro e wx ⟨rfl, rfl⟩
    go_wp2_with fail
    have C := GT.runs H0.out
    rw [show GS.new.runs = 0 from rfl] at C
    refine C.mono ?_
    rintro e wx ⟨rfl, rfl⟩
    clear C
    go_wp2_with fail
    have C := GT.stale H0.out (GI.new 0)
    rw [show (staleX GS.new).length = 0 from by unfold staleX; rw [List.length_mergeSort]; rfl] at C
    refine C.mono ?_
    rintro e w2 ⟨A0, c0, rfl, _, _, h⟩
    have H1 := Lib.hid h
    clear C h H0
    go_wp2_with fail
    have C := GT.set H1.out (GI.new 0) (by decide) [] v
    rw [setX_name] at C
    refine C.mono ?_
    rintro e w3 ⟨rfl, h⟩
    have H2 := Lib.hid h
    clear C h H1
    go_wp2_with fail
    have C := GT.set H2.out (GI.new 0) (by decide) (110 :: n) v
    rw [nil_set] at C
    refine C.mono ?_
    rintro e w4 ⟨rfl, h⟩
    have H3 := Lib.hid h
    clear C h H2
    have hgi : GI 0 ⟨[(110 :: n, v)], [], 0, 1⟩ := by have := (setX_gi (GI.new 0) (110 :: n) v (by omega)).1; rwa [nil_set] at this
    have HGI := Lib.hid hgi
    clear hgi
    go_wp2_with fail
    have C := GT.get H3.out HGI.out (by decide) (110 :: n)
    rw [nil_get] at C
    simp only [ResV] at C
    refine C.mono ?_
    rintro e w5 ⟨rfl, h⟩
    have H4 := Lib.hid h
    clear C h H3
    go_wp2_with fail
    have C := GT.rule H4.out HGI.out (by show (1:Nat) ≤ 1000000; decide) (110 :: n) (some 0) (A := none) (m := 0) (c := 0) (needs := []) Rd.nil (fun ad e => by cases e) (by decide) (by decide)
    rw [nil_rule] at C
    refine C.mono ?_
    rintro e w6 ⟨rfl, h⟩
    have H5 := Lib.hid h
    clear C h H4
    go_wp2_with fail
    have C := GT.ruleLit H5.out HGI.out (by show (1:Nat) ≤ 1000000; decide) [109] (some 0) #[.string ⟨#[]⟩] (needs := [[]]) rfl rfl (by decide)
    rw [nil_rule2] at C
    refine C.mono ?_
    rintro e w7 ⟨rfl, h⟩
    have H6 := Lib.hid h
    clear C h H5
    go_wp2_with fail
    have C := GT.rule H6.out HGI.out (by show (1:Nat) ≤ 1000000; decide) [109] none (A := none) (m := 0) (c := 0) (needs := []) Rd.nil (fun ad e => by cases e) (by decide) (by decide)
    rw [nil_rule3] at C
    refine C.mono ?_
    rintro e w8 ⟨rfl, h⟩
    have H7 := Lib.hid h.b
    clear C h H6
    go_wp2_with fail
    refine (awake_any w8).mono ?_
    rintro e w9 ⟨rfl, hb9⟩
    have H8 := Lib.hid (H7.out.trans (hb9.mono H7.out.size))
    go_wp2
    go_ret
    exact ⟨rfl, H8.out⟩
  · go_enter Try.func7, Try.ntmps7
    by_cases hn : n.length ≤ 40
    · have d1 : decide ((n.length : Int) > 40) = false := by simp; omega
      have d2 : decide ((v.length : Int) > 40) = true := by simp; omega
      clear h1
      go_wp2_with fail
      refine (awake_any w).mono ?_
      rintro e w1 ⟨rfl, h⟩
      go_wp2
      go_ret
      exact ⟨rfl, h⟩
    · have d1 : decide ((n.length : Int) > 40) = true := by simp; omega
      clear h1
      go_wp2_with fail
      refine (awake_any w).mono ?_
      rintro e w1 ⟨rfl, h⟩
      go_wp2
      go_ret
      exact ⟨rfl, h⟩
end Go.Proofs.Ytbikldmhfaecpaa
