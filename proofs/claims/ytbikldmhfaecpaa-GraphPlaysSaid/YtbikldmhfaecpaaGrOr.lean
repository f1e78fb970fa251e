/-
  Layer 48 (graph): rule (publisherlaw48) on a law's own graph.
-/
import Derived.Test.YtbikldmhfaecpaaGrOp
namespace Go.Proofs.Ytbikldmhfaecpaa
open Go.RowKit
set_option linter.unusedVariables false
set_option linter.unusedSimpArgs false
attribute [local go_sem] B_data B_size

theorem GT.ruleIn {id gb R m c : Nat} {S : GS} {w0 w : World} {A : Option Addr} {needs : List Nm} (h : GT id gb S w0 w) (hi : GI R S) (hc : S.changes ≤ 1000000) (n : Nm) (fo : Option Nat) (hr : Rd w0 w0.heap.size 1 A m (strs needs)) (hm : m ≤ 1000000) (hmc : m ≤ c) :
    Calls Try.prog 24 #[.pointer (some ⟨gb, 0, none⟩), .string (B n), .slice A m c, fnO fo] w fun e w' => e = .returned (.int .i64 ((ruleX S n needs fo).1 : Int)) ∧ GT id gb (ruleX S n needs fo).2 w0 w' := by
  obtain ⟨own, h1, h2, h3⟩ := h
  refine (rule_any n needs fo A m c w h1 hi hc ⟨(hr.below h2).more h2.size, fun ad e hm0 hmi => ?_, hmc⟩ hm).mono fun e w' hp => hp.gt (S := S) h2 h3
  obtain ⟨ad', e', hb, _⟩ := hr.2 hm0
  rw [e] at e'; injection e' with e'; subst e'
  have := h3 _ hmi
  omega
/-- the function of a rule by its number -/
def foI (F : Int) : Option Nat := if F < 0 then none else if F = 0 then some 0 else if F = 1 then some 1 else if F = 2 then some 2 else some 3
set_option maxHeartbeats 8000000 in
set_option maxRecDepth 100000 in
theorem ruleOp_gen {gb : Nat} {w : World} {c : Int} {Q : World → Prop} (o : OpR)
    (C : Calls Try.prog 24 #[.pointer (some ⟨gb, 0, none⟩), .string (B o.nm), .slice o.A o.na o.ca, fnO (foI o.F)] (w.alloc (.cells #[.int .i64 o.K, .string (B o.nm), .string (B o.vl), .slice o.A o.na o.ca, .int .i64 o.F] 31)) fun e w' => e = .returned (.int .i64 c) ∧ Q w') :
    Calls Try.prog 15 #[.pointer (some ⟨gb, 0, none⟩), .agg #[.int .i64 o.K, .string (B o.nm), .string (B o.vl), .slice o.A o.na o.ca, .int .i64 o.F]] w fun e w' => e = .returned (.int .i64 c) ∧ Q w' := by
  have HC := Lib.hid C
  clear C
  obtain ⟨K, nm, vl, nd, F, A, na, ca⟩ := o
  simp only at HC ⊢
  go_enter Try.func15, Try.ntmps15
  by_cases f0 : F < 0
  · have e : foI F = none := by unfold foI; rw [if_pos f0]
    rw [e] at HC
    go_wp2_with fail
    refine HC.out.mono ?_
    rintro e w1 ⟨rfl, h1⟩
    have H1 := Lib.hid h1
    clear h1
    go_wp2
    go_ret
    exact ⟨rfl, H1.out⟩
  by_cases f1 : F = 0
  · have e : foI F = some 0 := by subst f1; rfl
    rw [e] at HC
    subst f1
    go_wp2_with fail
    refine HC.out.mono ?_
    rintro e w1 ⟨rfl, h1⟩
    have H1 := Lib.hid h1
    clear h1
    go_wp2
    go_ret
    exact ⟨rfl, H1.out⟩
  by_cases f2 : F = 1
  · have e : foI F = some 1 := by subst f2; rfl
    rw [e] at HC
    subst f2
    go_wp2_with fail
    refine HC.out.mono ?_
    rintro e w1 ⟨rfl, h1⟩
    have H1 := Lib.hid h1
    clear h1
    go_wp2
    go_ret
    exact ⟨rfl, H1.out⟩
  by_cases f3 : F = 2
  · have e : foI F = some 2 := by subst f3; rfl
    rw [e] at HC
    subst f3
    go_wp2_with fail
    refine HC.out.mono ?_
    rintro e w1 ⟨rfl, h1⟩
    have H1 := Lib.hid h1
    clear h1
    go_wp2
    go_ret
    exact ⟨rfl, H1.out⟩
  · have e : foI F = some 3 := by unfold foI; rw [if_neg f0, if_neg f1, if_neg f2, if_neg f3]
    rw [e] at HC
    have g0 : decide (F < 0) = false := by simpa using f0
    have g1 : (F == 0) = false := beq_eq_false_iff_ne.2 f1
    have g2 : (F == 1) = false := beq_eq_false_iff_ne.2 f2
    have g3 : (F == 2) = false := beq_eq_false_iff_ne.2 f3
    go_wp2_with fail
    refine HC.out.mono ?_
    rintro e w1 ⟨rfl, h1⟩
    have H1 := Lib.hid h1
    clear h1
    go_wp2
    go_ret
    exact ⟨rfl, H1.out⟩
theorem ruleOp_any {id gb R : Nat} {S : GS} {w0 w : World} (h : GT id gb S w0 w) (hi : GI R S) (hc : S.changes ≤ 1000000) (o : OpR) (hr : Rd w0 w0.heap.size 1 o.A o.na (strs o.nd)) (hm : o.na ≤ 1000000) (hmc : o.na ≤ o.ca) :
    Calls Try.prog 15 #[.pointer (some ⟨gb, 0, none⟩), .agg #[.int .i64 o.K, .string (B o.nm), .string (B o.vl), .slice o.A o.na o.ca, .int .i64 o.F]] w fun e w' => e = .returned (.int .i64 ((ruleX S o.nm o.nd (foI o.F)).1 : Int)) ∧ GT id gb (ruleX S o.nm o.nd (foI o.F)).2 w0 w' :=
  ruleOp_gen o (GT.ruleIn (h.below (below_alloc w _)) hi hc o.nm (foI o.F) hr hm hmc)
end Go.Proofs.Ytbikldmhfaecpaa
