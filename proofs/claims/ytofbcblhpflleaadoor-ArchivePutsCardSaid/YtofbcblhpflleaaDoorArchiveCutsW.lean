/-
  Layer 35 (archive): the walk of ArchiveCuts.
-/
import Derived.Test.YtofbcblhpflleaaDoorArcL
namespace Go.Proofs.YtofbcblhpflleaaDoor
open Go.RowKit
set_option linter.unusedVariables false
attribute [local go_sem] B_data B_size

theorem sizes_small (fs : List (List UInt8 × List UInt8)) (h : ∀ f ∈ fs, Small f) : sizes fs ≤ 930 * fs.length := by
  induction fs with
  | nil => simp [sizes]
  | cons f r ih =>
    have h1 := h f (List.mem_cons_self ..)
    have h2 := ih (fun g hg => h g (List.mem_cons_of_mem _ hg))
    unfold sizes at h2 ⊢
    rw [List.map_cons, List.sum_cons, List.length_cons]
    unfold Small at h1
    unfold sizeF at h2 ⊢
    omega
theorem cens_small (fs : List (List UInt8 × List UInt8)) (h : ∀ f ∈ fs, Small f) : ∀ ss off, (cens fs ss off).length ≤ 346 * fs.length := by
  induction fs with
  | nil => intro ss off; simp [cens]
  | cons f r ih =>
    intro ss off
    cases ss with
    | nil => simp [cens]
    | cons s q =>
      have h1 := h f (List.mem_cons_self ..)
      have h2 := ih (fun g hg => h g (List.mem_cons_of_mem _ hg)) q (off + sizeF f)
      rw [cens, List.length_append, cenP_len, List.length_cons]
      unfold Small at h1
      omega
theorem put_small (fs : List (List UInt8 × List UInt8)) (h : ∀ f ∈ fs, Small f) : (putT fs).length ≤ 1276 * fs.length + 22 := by
  have h1 := sizes_small fs h
  have h2 := cens_small fs h (crcs fs) 0
  unfold putT
  rw [List.length_append, locs_len]
  have e : (dirT fs (crcs fs)).length = (cens fs (crcs fs) 0).length + 22 := by simp [dirT, dirP, le2L, le4L]
  omega
theorem small_fits {f : List UInt8 × List UInt8} (h : Small f) : Fits f := ⟨by have := h.1; omega, by have := h.2; omega⟩

set_option maxHeartbeats 4000000 in
set_option maxRecDepth 100000 in
theorem archiveCuts_walk (w : World) (A : Option Addr) (n c : Nat) (fs : List (List UInt8 × List UInt8)) (hx : Rd w w.heap.size 2 A n (fls fs)) (hc : n ≤ c ∧ c ≤ maxLen) (m : Int) (hG : Glob w) :
    Calls Tryd.prog 5 #[.slice A n c, .int .i64 m] w fun e w' => e = .returned (.bool true) ∧ Below w.heap.size w w' := by
  have HL := Lib.hid hx.fls_length
  have HW := Lib.hid (few_any A n c fs w hx (Nat.le_trans hc.1 hc.2))
  clear hc
  have HP := Lib.hid (fun W hW => put_any A n c fs W hW)
  go_enter Tryd.func5, Tryd.ntmps5
  go_wp2_with fail
  refine HW.out.mono ?_
  rintro e w1 ⟨b, rfl, hb1, hs⟩
  clear HW
  have hG1 := hG.below hb1 (Nat.le_refl _)
  cases b with
  | false =>
    go_wp2_with fail
    refine (awake_any w1 hG1).mono ?_
    rintro e w2 ⟨rfl, hb2⟩
    go_wp2
    go_ret
    exact ⟨rfl, hb1.trans (hb2.mono hb1.size)⟩
  | true =>
    obtain ⟨h140, hsm⟩ := hs rfl
    clear hs
    have C := HP.out w1 ((hx.below hb1).more hb1.size) (by omega) (fun f hf => ⟨by have := (hsm f hf).1; omega, by have := (hsm f hf).2; omega⟩) hG1
    have HSZ := Lib.hid (put_small fs hsm)
    have HCT := Lib.hid (fun h k hk => get_cut fs (fun f hf => small_fits (hsm f hf)) h k hk)
    clear HP hx
    unfold PutRet putS at C
    by_cases hck : acheck fs = 0
    · rw [hck, if_pos rfl] at C
      have HC := Lib.hid C
      have hl : (putT fs).length ≤ 1000000 := by have := HSZ.out; rw [HL.out] at this; omega
      have HCT := Lib.hid (HCT.out hck)
      clear C HSZ
      generalize putT fs = pt at *
      go_wp2_with fail
      refine HC.out.mono ?_
      rintro e w2 ⟨rfl, hb2'⟩
      have hb2 := hb1.trans (hb2'.mono hb1.size)
      have hG2 := hG.below hb2 (Nat.le_refl _)
      clear HC
      by_cases hm0 : m < 0
      · have d1 : decide (m < 0) = true := by simpa using hm0
        go_wp2_with fail
        refine (awake_any w2 hG2).mono ?_
        rintro e w3 ⟨rfl, hb3⟩
        go_wp2
        go_ret
        exact ⟨rfl, hb2.trans (hb3.mono hb2.size)⟩
      by_cases hm1 : (pt.length : Int) ≤ m
      · have d1 : decide (m < 0) = false := by simpa using hm0
        have d2 : decide ((pt.length : Int) ≤ m) = true := by simpa using hm1
        go_wp2_with fail
        refine (awake_any w2 hG2).mono ?_
        rintro e w3 ⟨rfl, hb3⟩
        go_wp2
        go_ret
        exact ⟨rfl, hb2.trans (hb3.mono hb2.size)⟩
      · obtain ⟨k, rfl⟩ : ∃ k : Nat, m = k := ⟨m.toNat, by omega⟩
        have hk : k < pt.length := by omega
        have i0 : ¬ ((k : Int) < 0) := by omega
        have i1 : ¬ ((pt.length : Int) ≤ (k : Int)) := by omega
        have i2 : (k : Int) ≤ (pt.length : Int) := by omega
        have i3 : (0 : Int) ≤ (k : Int) := by omega
        have hx0 : (B pt).extract 0 k = B (pt.take k) := by rw [B_take, B_data]
        have C := get_any (pt.take k) w2 (by rw [List.length_take]; omega) hG2
        rw [HCT.out k hk] at C
        have HC := Lib.hid C
        clear C HCT hm0 hm1
        go_wp2_with fail
        refine HC.out.mono ?_
        rintro e w3 ⟨v, rfl, hv, hb3'⟩
        obtain ⟨A3, c3, rfl⟩ := Lst.none hv
        have hb3 := hb2.trans (hb3'.mono hb2.size)
        clear HC hv
        have hG3 := hG.below hb3 (Nat.le_refl _)
        go_wp2_with fail
        refine (awake_any w3 hG3).mono ?_
        rintro e w4 ⟨rfl, hb4⟩
        go_wp2
        go_ret
        exact ⟨rfl, hb3.trans (hb4.mono hb3.size)⟩
    · rw [if_neg hck] at C
      have HC := Lib.hid C
      clear C HSZ HCT
      generalize acheck fs = ac at *
      have d0 : (ac == 0) = false := by simpa using hck
      go_wp2_with fail
      refine HC.out.mono ?_
      rintro e w2 ⟨rfl, hb2'⟩
      have hb2 := hb1.trans (hb2'.mono hb1.size)
      have hG2 := hG.below hb2 (Nat.le_refl _)
      clear HC
      go_wp2_with fail
      refine (awake_any w2 hG2).mono ?_
      rintro e w3 ⟨rfl, hb3⟩
      go_wp2
      go_ret
      exact ⟨rfl, hb2.trans (hb3.mono hb2.size)⟩
end Go.Proofs.YtofbcblhpflleaaDoor
