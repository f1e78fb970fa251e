/-
  Layer 16 (files): the walk of the law FilesCheck.
-/
import Derived.Test.YtpbampchhpkpbaaDoorFilesY
namespace Go.Proofs.YtpbampchhpkpbaaDoor
open Go.RowKit
set_option linter.unusedVariables false

set_option maxHeartbeats 2000000 in
set_option maxRecDepth 100000 in
theorem filesCheck_walk (w : World) (A : Option Addr) (n c : Nat) (fs : List (List UInt8 × List UInt8)) (hx : Rd w w.heap.size 2 A n (fls fs)) (hl : n ≤ c ∧ c ≤ maxLen) (hG : Glob w) :
    Calls Tryd.prog 7 #[.slice A n c] w fun e w' => e = .returned (.bool true) ∧ Below w.heap.size w w' := by
  obtain ⟨hnc, hcm⟩ := hl
  unfold maxLen at hcm
  have C0 := Lib.hid (few_any A n c fs w hx (by omega))
  by_cases h : Few n fs
  · rw [(few_iff n fs).2 h] at C0
    obtain ⟨hn, hf⟩ := h
    have hsz : Hid (∀ f ∈ fs, f.1.length ≤ 1000000) := fun f hm => by have := (hf f hm).1; omega
    have hsame : (fs == fs) = true := by simp
    clear hf
    go_enter Tryd.func7, Tryd.ntmps7
    go_wp2_with fail
    refine C0.out.mono ?_
    rintro e w1 ⟨rfl, hb1⟩
    have hx1 := (hx.below hb1).more hb1.size
    have hG1 := hG.below hb1 (Nat.le_refl _)
    clear C0
    go_wp2_with fail
    refine (check_any A n c fs w1 hx1 (by omega) hsz.out hG1).mono ?_
    rintro e w2 ⟨rfl, hb2'⟩
    have hb2 := hb1.trans (hb2'.mono hb1.size)
    have hx2 := (hx.below hb2).more hb2.size
    go_wp2_with fail
    refine (rcheck_any A n c fs w2 hx2 (by omega) hsz.out).mono ?_
    rintro e w3 ⟨rfl, hb3'⟩
    have hb3 := hb2.trans (hb3'.mono hb2.size)
    have hx3 := (hx.below hb3).more hb3.size
    generalize checkL fs = k at *
    go_wp2_with fail
    have H := same_any A A n n c c fs fs w3 _ hx3 hx3 (by omega) (by omega)
    rw [hsame] at H
    refine H.mono ?_
    rintro e w4 ⟨rfl, q, rfl⟩
    have hb4 := below_drewN hb3 q
    have hG4 := hG.below hb4 (Nat.le_refl _)
    clear H
    go_wp2_with fail
    refine (awake_any _ hG4).mono ?_
    rintro e w5 ⟨rfl, hb5⟩
    go_wp2
    go_ret
    exact ⟨rfl, hb4.trans (hb5.mono hb4.size)⟩
  · rw [fewB_no h] at C0
    clear h
    go_enter Tryd.func7, Tryd.ntmps7
    go_wp2_with fail
    refine C0.out.mono ?_
    rintro e w1 ⟨rfl, hb1⟩
    have hG1 := hG.below hb1 (Nat.le_refl _)
    clear C0
    go_wp2_with fail
    refine (awake_any _ hG1).mono ?_
    rintro e w2 ⟨rfl, hb2⟩
    go_wp2
    go_ret
    exact ⟨rfl, hb1.trans (hb2.mono hb1.size)⟩

end Go.Proofs.YtpbampchhpkpbaaDoor
