/-
  Layer 35 (archive): the walk of ArchiveReturns.
-/
import Derived.Test.YtofbcblhpflleaaDoorArcT
import Derived.Test.YtofbcblhpflleaaDoorArchiveCutsW
namespace Go.Proofs.YtofbcblhpflleaaDoor
open Go.RowKit
set_option linter.unusedVariables false
attribute [local go_sem] B_data B_size

/-- the second half: what is read from any string is what is written -/
def SecondPost (w : World) (e : Ending) (w' : World) : Prop := e = .returned (.bool true) ∧ Below w.heap.size w w'
theorem getG_small {s : List UInt8} {gs : List (List UInt8 × List UInt8)} (h : getG s [] = (gs, 0)) (hs : s.length ≤ 3000) : gs.length ≤ 3000 ∧ ∀ f ∈ gs, f.1.length ≤ 1000000 ∧ f.2.length ≤ 100000000 := by
  obtain ⟨hh, e1, e2, e3⟩ := put_get _ s [] gs (Nat.lt_succ_self _) h
  rw [List.nil_append] at e1
  subst e1
  have hl : sizes gs ≤ s.length := by rw [e2, List.length_append, locs_len]; omega
  have h1 : ∀ gs : List (List UInt8 × List UInt8), gs.length ≤ sizes gs ∧ ∀ f ∈ gs, f.1.length + f.2.length ≤ sizes gs := by
    intro gs
    induction gs with
    | nil => exact ⟨by simp, by simp⟩
    | cons g r ih =>
      unfold sizes at ih ⊢
      rw [List.map_cons, List.sum_cons, List.length_cons]
      unfold sizeF at *
      refine ⟨by omega, fun f hf => ?_⟩
      rcases List.mem_cons.1 hf with rfl | h
      · omega
      · have := ih.2 f h; omega
  have h2 := h1 gs
  refine ⟨by omega, fun f hf => ?_⟩
  have := h2.2 f hf
  omega

theorem fin_err {fs gs : List (List UInt8 × List UInt8)} {r : List UInt8} {ec : Int} (h : finL fs r = (gs, ec)) (he : ec ≠ 0) : gs = [] := by
  unfold finL at h
  generalize dirT fs (crcs fs) = d at h
  by_cases a : acheck fs ≠ 0
  · rw [if_pos a] at h; cases h; rfl
  rw [if_neg a] at h
  by_cases b : r.take (min r.length d.length) ≠ d.take (min r.length d.length) ∨ d.length < r.length
  · rw [if_pos b] at h; cases h; rfl
  rw [if_neg b] at h
  by_cases c : r.length < d.length
  · rw [if_pos c] at h; cases h; rfl
  rw [if_neg c] at h
  injection h with h1 h2
  exact absurd h2.symm he
theorem get_err : ∀ (k : Nat) (s : List UInt8) (fs gs : List (List UInt8 × List UInt8)) (ec : Int), s.length < k → getG s fs = (gs, ec) → ec ≠ 0 → gs = [] := by
  intro k
  induction k with
  | zero => intro s fs gs ec h; omega
  | succ k ih =>
    intro s fs gs ec hk h he
    by_cases a : s.length < 4 ∧ preB headL s = true
    · rw [getG_end a] at h; cases h; rfl
    by_cases b : preB s headL = false
    · rw [getG_fin a b] at h
      exact fin_err h he
    have b' : preB s headL = true := by simpa using b
    by_cases c : partE s = 0
    · rw [getG_next a b' c] at h
      have hl := (part_len c).1
      exact ih _ _ _ _ (by rw [List.length_drop]; omega) h he
    · rw [getG_bad a b' c] at h
      injection h with h1 h2
      exact h1.symm

set_option maxHeartbeats 8000000 in
set_option maxRecDepth 100000 in
theorem archiveReturns_walk (w : World) (A : Option Addr) (n c : Nat) (fs : List (List UInt8 × List UInt8)) (hx : Rd w w.heap.size 2 A n (fls fs)) (hc : n ≤ c ∧ c ≤ maxLen) (s : ByteArray) (hs : s.size ≤ maxLen) (hG : Glob w) :
    Calls Tryd.prog 8 #[.slice A n c, .string s] w fun e w' => e = .returned (.bool true) ∧ Below w.heap.size w w' := by
  have HL := Lib.hid hx.fls_length
  have HW := Lib.hid (few_any A n c fs w hx (Nat.le_trans hc.1 hc.2))
  clear hc
  unfold maxLen at hs
  have HP := Lib.hid (fun W hW => put_any A n c fs W hW)
  have HK := Lib.hid (fun W hW => check_any A n c fs W hW)
  obtain ⟨sl, rfl⟩ : ∃ l, s = B l := ⟨s.toList, (B_self s).symm⟩
  rw [B_size] at hs
  go_enter Tryd.func8, Tryd.ntmps8
  go_wp2_with fail
  refine HW.out.mono ?_
  rintro e w1 ⟨b, rfl, hb1, hsm0⟩
  clear HW
  have hG1 := hG.below hb1 (Nat.le_refl _)
  cases b with
  | false =>
    clear HP HK HL hx
    go_wp2_with fail
    refine (awake_any w1 hG1).mono ?_
    rintro e w2 ⟨rfl, hb2⟩
    go_wp2
    go_ret
    exact ⟨rfl, hb1.trans (hb2.mono hb1.size)⟩
  | true =>
    obtain ⟨h140, hsm⟩ := hsm0 rfl
    clear hsm0
    by_cases hbig : 3000 < sl.length
    · have i1 : (3000 : Int) < (sl.length : Int) := by omega
      clear HP HK HL hx hsm
      go_wp2_with fail
      refine (awake_any w1 hG1).mono ?_
      rintro e w2 ⟨rfl, hb2⟩
      go_wp2
      go_ret
      exact ⟨rfl, hb1.trans (hb2.mono hb1.size)⟩
    have i1 : ¬ (3000 : Int) < (sl.length : Int) := by omega
    have hx1 := (hx.below hb1).more hb1.size
    have C := HP.out w1 hx1 (by omega) (fun f hf => ⟨by have := (hsm f hf).1; omega, by have := (hsm f hf).2; omega⟩) hG1
    have HSZ := Lib.hid (put_small fs hsm)
    have HGP := Lib.hid (fun h => get_put fs (fun f hf => small_fits (hsm f hf)) h)
    have HCA := Lib.hid (fun h => check_acheck fs h (fun f hf => by have := (hsm f hf).2; omega))
    have HSM := Lib.hid hsm
    clear HP hsm
    unfold PutRet putS at C
    by_cases hck : acheck fs = 0
    · rw [hck, if_pos rfl] at C
      have HC := Lib.hid C
      have hl : (putT fs).length ≤ 1000000 := by have := HSZ.out; rw [HL.out] at this; omega
      have HGP := Lib.hid (HGP.out hck)
      clear C HSZ HCA HK hck
      generalize putT fs = pt at *
      go_wp2_with fail
      refine HC.out.mono ?_
      rintro e w2 ⟨rfl, hb2'⟩
      have hb2 := hb1.trans (hb2'.mono hb1.size)
      have hG2 := hG.below hb2 (Nat.le_refl _)
      have hx2 := (hx1.below hb2').more hb2'.size
      clear HC hb2' hx1 hG1 hb1
      have C := get_any pt w2 (by omega) hG2
      rw [HGP.out] at C
      have HC := Lib.hid C
      clear C
      go_wp2_with fail
      refine HC.out.mono ?_
      rintro e w3 ⟨v, rfl, hv, hb3'⟩
      obtain ⟨A3, n3, c3, rfl, hc3, hr3⟩ := hv
      obtain rfl : n3 = n := by have h1 := hr3.fls_length; have h2 := HL.out; rw [← h1, h2]
      have hb3 := hb2.trans (hb3'.mono hb2.size)
      have hx3 := (hx2.below hb3').more hb3'.size
      clear HC hb3' hx2 hG2 hb2
      have HS := Lib.hid (same_eq A3 A n3 c3 c fs w3 hr3 hx3 (by omega))
      clear hr3 hx3 hx
      go_wp2_with fail
      refine HS.out.mono ?_
      rintro e w4 ⟨rfl, hb4'⟩
      have hb4 := hb3.trans (hb4'.mono hb3.size)
      have hG4 := hG.below hb4 (Nat.le_refl _)
      clear HS hb4' hb3
      rcases hgs : getG sl [] with ⟨gs, ec⟩
      have C := get_any sl w4 (by omega) hG4
      rw [hgs] at C
      by_cases hec : ec = 0
      · subst hec
        obtain ⟨hck2, hput⟩ := get_back hgs
        obtain ⟨hgl, hgf⟩ := getG_small hgs (by omega)
        have HC := Lib.hid C
        have HG5 := Lib.hid (And.intro hck2 (And.intro hput hgf))
        clear C hgs hck2 hput hgf
        go_wp2_with fail
        refine HC.out.mono ?_
        rintro e w5 ⟨v, rfl, hv, hb5'⟩
        obtain ⟨A5, n5, c5, rfl, hc5, hr5⟩ := hv
        have hr5 : Rd w5 w5.heap.size 2 A5 n5 (fls gs) := hr5
        have hl5 := hr5.fls_length
        have hb5 := hb4.trans (hb5'.mono hb4.size)
        have hG5 := hG.below hb5 (Nat.le_refl _)
        have C := put_any A5 n5 c5 gs w5 hr5 (by omega) HG5.out.2.2 hG5
        unfold PutRet putS at C
        rw [HG5.out.1, if_pos rfl, HG5.out.2.1] at C
        clear HC hb5' hb4 hG4 hr5 hl5 HG5
        have HC := Lib.hid C
        clear C
        have hse : (sl == sl) = true := by simp
        go_wp2_with fail
        refine HC.out.mono ?_
        rintro e w6 ⟨rfl, hb6'⟩
        have hb6 := hb5.trans (hb6'.mono hb5.size)
        have hG6 := hG.below hb6 (Nat.le_refl _)
        clear HC hb6' hb5 hG5
        go_wp2_with fail
        refine (awake_any w6 hG6).mono ?_
        rintro e w7 ⟨rfl, hb7⟩
        go_wp2
        go_ret
        exact ⟨rfl, hb6.trans (hb7.mono hb6.size)⟩
      · obtain rfl : gs = [] := get_err _ _ _ _ _ (Nat.lt_succ_self _) hgs hec
        have HC := Lib.hid C
        have de : (ec == 0) = false := by simpa using hec
        have de2 : (ec != 0) = true := by simpa using hec
        clear C hgs hec
        go_wp2_with fail
        refine HC.out.mono ?_
        rintro e w5 ⟨v, rfl, hv, hb5'⟩
        obtain ⟨A5, n5, c5, rfl, hc5, hr5⟩ := hv
        have hr5 : Rd w5 w5.heap.size 2 A5 n5 (fls []) := hr5
        have hl5 := hr5.fls_length
        have hb5 := hb4.trans (hb5'.mono hb4.size)
        have hG5 := hG.below hb5 (Nat.le_refl _)
        have C := put_any A5 n5 c5 [] w5 hr5 (by simp at hl5; omega) (by simp) hG5
        rw [ex1] at C
        clear HC hb5' hb4 hG4 hr5 hl5
        have HC := Lib.hid C
        clear C
        go_wp2_with fail
        refine HC.out.mono ?_
        rintro e w6 ⟨rfl, hb6'⟩
        have hb6 := hb5.trans (hb6'.mono hb5.size)
        have hG6 := hG.below hb6 (Nat.le_refl _)
        clear HC hb6' hb5 hG5
        go_wp2_with fail
        refine (awake_any w6 hG6).mono ?_
        rintro e w7 ⟨rfl, hb7⟩
        go_wp2
        go_ret
        exact ⟨rfl, hb6.trans (hb7.mono hb6.size)⟩
    · rw [if_neg hck] at C
      have HC := Lib.hid C
      have hkk : checkL fs ≠ 0 := fun h => hck (HCA.out h)
      have HKC := Lib.hid hkk
      clear C HSZ HCA HGP hkk
      generalize acheck fs = ac at *
      have d0 : (ac == 0) = false := by simpa using hck
      have d1 : (ac != 0) = true := by simpa using hck
      clear hck
      go_wp2_with fail
      refine HC.out.mono ?_
      rintro e w2 ⟨rfl, hb2'⟩
      have hb2 := hb1.trans (hb2'.mono hb1.size)
      have hG2 := hG.below hb2 (Nat.le_refl _)
      have hx2 := (hx1.below hb2').more hb2'.size
      have C := HK.out w2 hx2 (by omega) (fun f hf => by have := (HSM.out f hf).1; omega) hG2
      clear HC hb2' hx1 hG1 hb1 HK HSM hx hx2
      have hkk := HKC.out
      generalize checkL fs = ck at *
      have d2 : (ck == 0) = false := by simpa using hkk
      have HC := Lib.hid C
      clear C hkk HKC
      go_wp2_with fail
      refine HC.out.mono ?_
      rintro e w3 ⟨rfl, hb3'⟩
      have hb3 := hb2.trans (hb3'.mono hb2.size)
      have hG3 := hG.below hb3 (Nat.le_refl _)
      clear HC hb3' hb2 hG2
      have C := get_any [] w3 (by decide) hG3
      rw [ex3] at C
      have HC := Lib.hid C
      clear C
      go_wp2_with fail
      refine HC.out.mono ?_
      rintro e w4 ⟨v4, rfl, hv4, hb4'⟩
      obtain ⟨A4, c4, rfl⟩ := Lst.none hv4
      have hb4 := hb3.trans (hb4'.mono hb3.size)
      have hG4 := hG.below hb4 (Nat.le_refl _)
      clear HC hb4' hb3 hG3 hv4
      rcases hgs : getG sl [] with ⟨gs, ec⟩
      have C := get_any sl w4 (by omega) hG4
      rw [hgs] at C
      by_cases hec : ec = 0
      · subst hec
        obtain ⟨hck2, hput⟩ := get_back hgs
        obtain ⟨hgl, hgf⟩ := getG_small hgs (by omega)
        have HC := Lib.hid C
        have HG5 := Lib.hid (And.intro hck2 (And.intro hput hgf))
        clear C hgs hck2 hput hgf
        go_wp2_with fail
        refine HC.out.mono ?_
        rintro e w5 ⟨v, rfl, hv, hb5'⟩
        obtain ⟨A5, n5, c5, rfl, hc5, hr5⟩ := hv
        have hr5 : Rd w5 w5.heap.size 2 A5 n5 (fls gs) := hr5
        have hl5 := hr5.fls_length
        have hb5 := hb4.trans (hb5'.mono hb4.size)
        have hG5 := hG.below hb5 (Nat.le_refl _)
        have C := put_any A5 n5 c5 gs w5 hr5 (by omega) HG5.out.2.2 hG5
        unfold PutRet putS at C
        rw [HG5.out.1, if_pos rfl, HG5.out.2.1] at C
        clear HC hb5' hb4 hG4 hr5 hl5 HG5
        have HC := Lib.hid C
        clear C
        have hse : (sl == sl) = true := by simp
        go_wp2_with fail
        refine HC.out.mono ?_
        rintro e w6 ⟨rfl, hb6'⟩
        have hb6 := hb5.trans (hb6'.mono hb5.size)
        have hG6 := hG.below hb6 (Nat.le_refl _)
        clear HC hb6' hb5 hG5
        go_wp2_with fail
        refine (awake_any w6 hG6).mono ?_
        rintro e w7 ⟨rfl, hb7⟩
        go_wp2
        go_ret
        exact ⟨rfl, hb6.trans (hb7.mono hb6.size)⟩
      · obtain rfl : gs = [] := get_err _ _ _ _ _ (Nat.lt_succ_self _) hgs hec
        have HC := Lib.hid C
        have de : (ec == 0) = false := by simpa using hec
        have de2 : (ec != 0) = true := by simpa using hec
        clear C hgs hec
        go_wp2_with fail
        refine HC.out.mono ?_
        rintro e w5 ⟨v, rfl, hv, hb5'⟩
        obtain ⟨A5, n5, c5, rfl, hc5, hr5⟩ := hv
        have hr5 : Rd w5 w5.heap.size 2 A5 n5 (fls []) := hr5
        have hl5 := hr5.fls_length
        have hb5 := hb4.trans (hb5'.mono hb4.size)
        have hG5 := hG.below hb5 (Nat.le_refl _)
        have C := put_any A5 n5 c5 [] w5 hr5 (by simp at hl5; omega) (by simp) hG5
        rw [ex1] at C
        clear HC hb5' hb4 hG4 hr5 hl5
        have HC := Lib.hid C
        clear C
        go_wp2_with fail
        refine HC.out.mono ?_
        rintro e w6 ⟨rfl, hb6'⟩
        have hb6 := hb5.trans (hb6'.mono hb5.size)
        have hG6 := hG.below hb6 (Nat.le_refl _)
        clear HC hb6' hb5 hG5
        go_wp2_with fail
        refine (awake_any w6 hG6).mono ?_
        rintro e w7 ⟨rfl, hb7⟩
        go_wp2
        go_ret
        exact ⟨rfl, hb6.trans (hb7.mono hb6.size)⟩
end Go.Proofs.YtofbcblhpflleaaDoor
