/-
  Layer 16 (files): Check.
-/
import Derived.Test.YtpbampchhpkpbaaDoorFilesS
namespace Go.Proofs.YtpbampchhpkpbaaDoor
set_option linter.unusedSimpArgs false
open Go.RowKit
set_option linter.unusedVariables false
attribute [local go_sem] B_data B_size

/-- the error of a file with the name f at place k, behind the name p; 0: none -/
def stepP (f : List UInt8) (k : Nat) (p : List UInt8) : Int :=
  if clean f = [] ∨ clean f ≠ f then 6 else if k = 0 then 0 else if (!Op.bytesLess p f && !(p == f)) = true then 5 else if p = f then 7 else 0
def stepC (fs : List (List UInt8 × List UInt8)) (k : Nat) : Int := stepP (fs[k]?.getD ([], [])).1 k (fs[k - 1]?.getD ([], [])).1
def checkFrom (fs : List (List UInt8 × List UInt8)) : Nat → Nat → Int
  | 0, _ => 0
  | m + 1, k => if stepC fs k ≠ 0 then stepC fs k else checkFrom fs m (k + 1)
theorem check_end (fs : List (List UInt8 × List UInt8)) (n k : Nat) (h : n ≤ k) : checkFrom fs (n - k) k = 0 := by rw [Nat.sub_eq_zero_of_le h]; rfl
theorem fl_mem (fs : List (List UInt8 × List UInt8)) (k : Nat) (h : k < fs.length) : fs[k]?.getD ([], []) ∈ fs := by simp [h]
def checkL (fs : List (List UInt8 × List UInt8)) : Int := if 128 < fs.length then 3 else checkFrom fs fs.length 0

set_option maxHeartbeats 4000000 in
set_option maxRecDepth 100000 in
theorem check_any (A : Option Addr) (n c : Nat) (fs : List (List UInt8 × List UInt8)) (w : World) (hx : Rd w w.heap.size 2 A n (fls fs)) (hn : n ≤ 1000000) (hsz : ∀ f ∈ fs, f.1.length ≤ 1000000) (hG : Glob w) :
    Calls Tryd.prog 20 #[.slice A n c] w fun e w' => e = .returned (.int .i64 (checkL fs)) ∧ Below w.heap.size w w' := by
  have HL := Lib.hid hx.fls_length
  have HS := Lib.hid hsz
  clear hsz
  by_cases h128 : 128 < n
  · have HE : Hid (checkL fs = 3) := by unfold checkL; rw [HL.out, if_pos h128]; rfl
    go_enter Tryd.func20, Tryd.ntmps20
    go_wp2
    go_ret
    exact ⟨ret_int (by rw [HE.out]), Below.refl _ _⟩
  · have HE : Hid (checkL fs = checkFrom fs n 0) := by unfold checkL; rw [HL.out, if_neg h128]; rfl
    go_enter Tryd.func20, Tryd.ntmps20
    go_wp2
    go_loopw [13] (fun i wr => ∃ k : Nat, k ≤ n ∧ i = .int .i64 k ∧ Below w.heap.size w wr ∧ Hid (checkFrom fs n 0 = checkFrom fs (n - k) k)) (fun i _ => n - (intOf i).toNat)
    case atStart => exact ⟨0, Nat.zero_le _, rfl, Below.refl _ _, rfl⟩
    case round =>
      obtain ⟨k, hk, rfl, hbw, hr⟩ := hrel
      have hbs := hbw.size
      by_cases hlt : k < n
      · obtain ⟨b, o, rfl, hm, h0, h1⟩ := (hx.below hbw).file hlt
        have hgp : 0 < k → wr.cell? ⟨b, o + (k - 1) * 2, none⟩ = some (.string (B (fs[k - 1]?.getD ([], [])).1)) := fun hp => by
          obtain ⟨b', o', hE, _, hp0, _⟩ := (hx.below hbw).file (k := k - 1) (by omega)
          injection hE with hE
          injection hE with e1 e2
          subst e1; subst e2
          exact hp0
        have HG := Lib.hid hgp; clear hgp
        have HSt : Hid (checkFrom fs (n - k) k = if stepC fs k ≠ 0 then stepC fs k else checkFrom fs (n - (k + 1)) (k + 1)) := by
          have : n - k = (n - (k + 1)) + 1 := by omega
          rw [this]; rfl
        have HSC : Hid (stepC fs k = stepP (fs[k]?.getD ([], [])).1 k (fs[k - 1]?.getD ([], [])).1) := rfl
        have hfl : (fs[k]?.getD ([], [])).1.length ≤ 1000000 := HS.out _ (fl_mem fs k (by rw [HL.out]; exact hlt))
        generalize fs[k]?.getD ([], []) = f at *
        generalize (fs[k - 1]?.getD ([], [])).1 = p at *
        go_wp2_with fail
        have hG1 : Glob (wr.alloc (.cells #[.string (B f.1), .string (B f.2)] 36)) := hG.below (hbw.alloc hbs _) (Nat.le_refl _)
        with_reducible refine (clean_any (B f.1) _ (by rw [B_size]; exact hfl) hG1).mono ?_
        rintro e w1 ⟨rfl, hb1⟩
        rw [B_data]
        unfold CleanRet
        have hs1 := hb1.size
        have q0 : w1.cell? ⟨wr.heap.size, 0, none⟩ = some (.string (B f.1)) := by rw [hb1.cell (p := ⟨wr.heap.size, 0, none⟩) (by simp)]; simp
        have hB1 : Below w.heap.size w w1 := (hbw.alloc hbs _).trans (hb1.mono (by simp; omega))
        have hg1 : 0 < k → w1.cell? ⟨b, o + (k - 1) * 2, none⟩ = some (.string (B p)) := fun hp => by
          rw [hb1.cell (p := ⟨b, o + (k - 1) * 2, none⟩) (by simp; omega), World.cell?_alloc_lt _ _ _ (by show b < _; omega)]
          exact HG.out hp
        by_cases hc : clean f.1 = [] ∨ clean f.1 ≠ f.1
        · have HX : Hid (stepP f.1 k p = 6) := by unfold stepP; rw [if_pos hc]; rfl
          by_cases hc0 : clean f.1 = []
          · rw [hc0]
            have e0 : errK [] = 6 := rfl
            rw [e0]
            clear e0 hc hc0
            go_wp2
            go_ret
            exact ⟨ret_int (by rw [HE.out, hr.out, HSt.out, HSC.out, HX.out]; rfl), hB1⟩
          · have hc1 : clean f.1 ≠ f.1 := by rcases hc with h | h; exact absurd h hc0; exact h
            have e0 : errK (clean f.1) = 0 := by unfold errK; rw [if_neg hc0]
            have en : (!(clean f.1 == f.1)) = true := by simpa using hc1
            rw [e0]
            clear e0 hc hc0 hc1
            generalize clean f.1 = cf at *
            go_wp2
            go_ret
            exact ⟨ret_int (by rw [HE.out, hr.out, HSt.out, HSC.out, HX.out]; rfl), hB1⟩
        · have hc0 : ¬ clean f.1 = [] := fun h => hc (.inl h)
          have hc1 : clean f.1 = f.1 := Classical.byContradiction fun h => hc (.inr h)
          have e0 : errK (clean f.1) = 0 := by unfold errK; rw [if_neg hc0]
          rw [e0, hc1]
          have HCC := Lib.hid hc
          clear e0 hc hc0 hc1
          by_cases hk0 : k = 0
          · have HX : Hid (stepP f.1 k p = 0) := by unfold stepP; rw [if_neg HCC.out, if_pos hk0]; rfl
            have ek : ((k : Int) == 0) = true := by simp [hk0]
            have hkz : k ≤ 0 := by omega
            have hd1 : decide (0 < (k : Int)) = false := by simp; omega
            have hd2 : decide (0 < k) = false := by simp; omega
            clear hk0
            go_wp2
            go_roundw
            case rel => exact ⟨k + 1, by omega, by go_num, hB1, by rw [hr.out, HSt.out, HSC.out, HX.out]; rfl⟩
            case measure => simp [intOf]; omega
          · have ek : ((k : Int) == 0) = false := by simp [hk0]
            have hkp : 1 ≤ k := by omega
            have hkq : 0 < k := by omega
            have q1 := hg1 (by omega)
            by_cases hgt : (!Op.bytesLess p f.1 && !(p == f.1)) = true
            · have HX : Hid (stepP f.1 k p = 5) := by unfold stepP; rw [if_neg HCC.out, if_neg hk0, if_pos hgt]; rfl
              have hb0 : Op.bytesLess p f.1 = false := by simp at hgt; exact hgt.1
              have ee : (p == f.1) = false := by simp at hgt; simpa using hgt.2
              clear hk0 hg1 hgt
              go_wp2
              go_ret
              exact ⟨ret_int (by rw [HE.out, hr.out, HSt.out, HSC.out, HX.out]; rfl), hB1⟩
            · have hgt' : (!Op.bytesLess p f.1 && !(p == f.1)) = false := by simpa using hgt
              by_cases heq : p = f.1
              · have HX : Hid (stepP f.1 k p = 7) := by unfold stepP; rw [if_neg HCC.out, if_neg hk0, if_neg hgt, if_pos heq]; rfl
                have ee : (p == f.1) = true := by simp [heq]
                clear hk0 hg1 heq hgt hgt'
                go_wp2
                go_ret
                exact ⟨ret_int (by rw [HE.out, hr.out, HSt.out, HSC.out, HX.out]; rfl), hB1⟩
              · have HX : Hid (stepP f.1 k p = 0) := by unfold stepP; rw [if_neg HCC.out, if_neg hk0, if_neg hgt, if_neg heq]; rfl
                have ee : (p == f.1) = false := by simpa using heq
                have hb0 : Op.bytesLess p f.1 = true := by rw [ee] at hgt'; simpa using hgt'
                clear hk0 hg1 heq hgt hgt'
                go_wp2
                go_roundw
                case rel => exact ⟨k + 1, by omega, by go_num, hB1, by rw [hr.out, HSt.out, HSC.out, HX.out]; rfl⟩
                case measure => simp [intOf]; omega
      · go_wp2
        go_ret
        exact ⟨ret_int (by rw [HE.out, hr.out, check_end fs n k (by omega)]), hbw⟩

set_option maxHeartbeats 4000000 in
set_option maxRecDepth 100000 in
theorem rcheck_any (A : Option Addr) (n c : Nat) (fs : List (List UInt8 × List UInt8)) (w : World) (hx : Rd w w.heap.size 2 A n (fls fs)) (hn : n ≤ 1000000) (hsz : ∀ f ∈ fs, f.1.length ≤ 1000000) :
    Calls Tryd.prog 21 #[.slice A n c] w fun e w' => e = .returned (.int .i64 (checkL fs)) ∧ Below w.heap.size w w' := by
  have HL := Lib.hid hx.fls_length
  have HS := Lib.hid hsz
  clear hsz
  by_cases h128 : 128 < n
  · have HE : Hid (checkL fs = 3) := by unfold checkL; rw [HL.out, if_pos h128]; rfl
    go_enter Tryd.func21, Tryd.ntmps21
    go_wp2
    go_ret
    exact ⟨ret_int (by rw [HE.out]), Below.refl _ _⟩
  · have HE : Hid (checkL fs = checkFrom fs n 0) := by unfold checkL; rw [HL.out, if_neg h128]; rfl
    go_enter Tryd.func21, Tryd.ntmps21
    go_wp2
    go_loopw [3] (fun i wr => ∃ k : Nat, k ≤ n ∧ i = .int .i64 k ∧ Below w.heap.size w wr ∧ Hid (checkFrom fs n 0 = checkFrom fs (n - k) k)) (fun i _ => n - (intOf i).toNat)
    case atStart => exact ⟨0, Nat.zero_le _, rfl, Below.refl _ _, rfl⟩
    case round =>
      obtain ⟨k, hk, rfl, hbw, hr⟩ := hrel
      have hbs := hbw.size
      by_cases hlt : k < n
      · obtain ⟨b, o, rfl, hm, h0, h1⟩ := (hx.below hbw).file hlt
        have hgp : 0 < k → wr.cell? ⟨b, o + (k - 1) * 2, none⟩ = some (.string (B (fs[k - 1]?.getD ([], [])).1)) := fun hp => by
          obtain ⟨b', o', hE, _, hp0, _⟩ := (hx.below hbw).file (k := k - 1) (by omega)
          injection hE with hE
          injection hE with e1 e2
          subst e1; subst e2
          exact hp0
        have HG := Lib.hid hgp; clear hgp
        have HSt : Hid (checkFrom fs (n - k) k = if stepC fs k ≠ 0 then stepC fs k else checkFrom fs (n - (k + 1)) (k + 1)) := by
          have : n - k = (n - (k + 1)) + 1 := by omega
          rw [this]; rfl
        have HSC : Hid (stepC fs k = stepP (fs[k]?.getD ([], [])).1 k (fs[k - 1]?.getD ([], [])).1) := rfl
        have hfl : (fs[k]?.getD ([], [])).1.length ≤ 1000000 := HS.out _ (fl_mem fs k (by rw [HL.out]; exact hlt))
        generalize fs[k]?.getD ([], []) = f at *
        generalize (fs[k - 1]?.getD ([], [])).1 = p at *
        go_wp2_with fail
        with_reducible refine (rclean_any (B f.1) _ (by rw [B_size]; exact hfl)).mono ?_
        rintro e w1 ⟨rfl, hb1⟩
        rw [B_data]
        unfold CleanRet
        have hs1 := hb1.size
        have hB1 : Below w.heap.size w w1 := hbw.trans (hb1.mono hbs)
        have q0 : w1.cell? ⟨b, o + k * 2, none⟩ = some (.string (B f.1)) := by rw [hb1.cell (p := ⟨b, o + k * 2, none⟩) (by show b < _; omega)]; exact h0
        have hg1 : 0 < k → w1.cell? ⟨b, o + (k - 1) * 2, none⟩ = some (.string (B p)) := fun hp => by
          rw [hb1.cell (p := ⟨b, o + (k - 1) * 2, none⟩) (by show b < _; omega)]
          exact HG.out hp
        by_cases hc : clean f.1 = [] ∨ clean f.1 ≠ f.1
        · have HX : Hid (stepP f.1 k p = 6) := by unfold stepP; rw [if_pos hc]; rfl
          by_cases hc0 : clean f.1 = []
          · rw [hc0]
            have e0 : errK [] = 6 := rfl
            rw [e0]
            clear e0 hc hc0
            go_wp2
            go_ret
            exact ⟨ret_int (by rw [HE.out, hr.out, HSt.out, HSC.out, HX.out]; rfl), hB1⟩
          · have hc1 : clean f.1 ≠ f.1 := by rcases hc with h | h; exact absurd h hc0; exact h
            have e0 : errK (clean f.1) = 0 := by unfold errK; rw [if_neg hc0]
            have en : (!(clean f.1 == f.1)) = true := by simpa using hc1
            rw [e0]
            clear e0 hc hc0 hc1
            generalize clean f.1 = cf at *
            go_wp2
            go_ret
            exact ⟨ret_int (by rw [HE.out, hr.out, HSt.out, HSC.out, HX.out]; rfl), hB1⟩
        · have hc0 : ¬ clean f.1 = [] := fun h => hc (.inl h)
          have hc1 : clean f.1 = f.1 := Classical.byContradiction fun h => hc (.inr h)
          have e0 : errK (clean f.1) = 0 := by unfold errK; rw [if_neg hc0]
          rw [e0, hc1]
          have HCC := Lib.hid hc
          clear e0 hc hc0 hc1
          by_cases hk0 : k = 0
          · have HX : Hid (stepP f.1 k p = 0) := by unfold stepP; rw [if_neg HCC.out, if_pos hk0]; rfl
            have ek : ((k : Int) == 0) = true := by simp [hk0]
            have hkz : k ≤ 0 := by omega
            have hd1 : decide (0 < (k : Int)) = false := by simp; omega
            have hd2 : decide (0 < k) = false := by simp; omega
            clear hk0
            go_wp2
            go_quiet (fail)
            go_wp2
            go_quiet (fail)
            go_wp2
            go_roundw
            case rel => exact ⟨k + 1, by omega, by go_num, (by first | exact below_drewN hB1 _ | exact below_drewN (below_drewN hB1 _) _), by rw [hr.out, HSt.out, HSC.out, HX.out]; rfl⟩
            case measure => simp [intOf]; omega
          · have ek : ((k : Int) == 0) = false := by simp [hk0]
            have hkp : 1 ≤ k := by omega
            have hkq : 0 < k := by omega
            have q1 := hg1 (by omega)
            by_cases hgt : (!Op.bytesLess p f.1 && !(p == f.1)) = true
            · have HX : Hid (stepP f.1 k p = 5) := by unfold stepP; rw [if_neg HCC.out, if_neg hk0, if_pos hgt]; rfl
              have hb0 : Op.bytesLess p f.1 = false := by simp at hgt; exact hgt.1
              have ee : (p == f.1) = false := by simp at hgt; simpa using hgt.2
              clear hk0 hg1 hgt
              go_wp2
              go_quiet (fail)
              go_wp2
              go_ret
              exact ⟨ret_int (by rw [HE.out, hr.out, HSt.out, HSC.out, HX.out]; rfl), below_drewN hB1 _⟩
            · have hgt' : (!Op.bytesLess p f.1 && !(p == f.1)) = false := by simpa using hgt
              by_cases heq : p = f.1
              · have HX : Hid (stepP f.1 k p = 7) := by unfold stepP; rw [if_neg HCC.out, if_neg hk0, if_neg hgt, if_pos heq]; rfl
                have ee : (p == f.1) = true := by simp [heq]
                clear hk0 hg1 heq hgt hgt'
                go_wp2
                go_quiet (fail)
                go_wp2
                go_quiet (fail)
                go_wp2
                go_ret
                exact ⟨ret_int (by rw [HE.out, hr.out, HSt.out, HSC.out, HX.out]; rfl), (by first | exact below_drewN hB1 _ | exact below_drewN (below_drewN hB1 _) _)⟩
              · have HX : Hid (stepP f.1 k p = 0) := by unfold stepP; rw [if_neg HCC.out, if_neg hk0, if_neg hgt, if_neg heq]; rfl
                have ee : (p == f.1) = false := by simpa using heq
                have hb0 : Op.bytesLess p f.1 = true := by rw [ee] at hgt'; simpa using hgt'
                clear hk0 hg1 heq hgt hgt'
                go_wp2
                go_quiet (fail)
                go_wp2
                go_quiet (fail)
                go_wp2
                go_roundw
                case rel => exact ⟨k + 1, by omega, by go_num, (by first | exact below_drewN hB1 _ | exact below_drewN (below_drewN hB1 _) _), by rw [hr.out, HSt.out, HSC.out, HX.out]; rfl⟩
                case measure => simp [intOf]; omega
      · go_wp2
        go_ret
        exact ⟨ret_int (by rw [HE.out, hr.out, check_end fs n k (by omega)]), hbw⟩

end Go.Proofs.YtpbampchhpkpbaaDoor
