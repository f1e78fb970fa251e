/-
  Layer 16 (files): the walk of the law FilesStay.
-/
import Derived.Test.YtpbampchhpkpbaaDoorFilesY
import Derived.Test.YtpbampchhpkpbaaDoorFilesStayP
namespace Go.Proofs.YtpbampchhpkpbaaDoor
open Go.RowKit
set_option linter.unusedVariables false
attribute [local go_sem] B_data B_size

theorem good_sz {L : List (List UInt8 × List UInt8)} (h : Good L) : ∀ f ∈ L, f.1.length ≤ 1000000 := fun f hf => by
  have := clean_le f.1
  rw [(h.2 f hf).1] at this
  omega

set_option maxHeartbeats 4000000 in
set_option maxRecDepth 100000 in
theorem filesStay_walk (w : World) (A : Option Addr) (n c : Nat) (fs : List (List UInt8 × List UInt8)) (hx : Rd w w.heap.size 2 A n (fls fs)) (hl : n ≤ c ∧ c ≤ maxLen) (hG : Glob w) :
    Calls Tryd.prog 9 #[.slice A n c] w fun e w' => e = .returned (.bool true) ∧ Below w.heap.size w w' := by
  obtain ⟨hnc, hcm⟩ := hl
  unfold maxLen at hcm
  by_cases h60 : 60 < n
  · have hd : decide (60 < n) = true := by simpa using h60
    go_enter Tryd.func9, Tryd.ntmps9
    go_wp2_with fail
    refine (awake_any _ hG).mono ?_
    rintro e w1 ⟨rfl, hb⟩
    go_wp2
    go_ret
    exact ⟨rfl, hb⟩
  · have hd : decide (60 < n) = false := by simpa using h60
    have C0 := Lib.hid (few_any A n c fs w hx (by omega))
    by_cases h : Few n fs
    · rw [(few_iff n fs).2 h] at C0
      have HF := Lib.hid h.2
      have HL := Lib.hid hx.fls_length
      clear h
      go_enter Tryd.func9, Tryd.ntmps9
      go_wp2_with fail
      refine C0.out.mono ?_
      rintro e w1 ⟨rfl, hb1⟩
      clear C0 hd
      go_wp2
      go_loopw [3, 4] (fun l i wr => ∃ (k : Nat) (L : List (List UInt8 × List UInt8)), k ≤ n ∧ i = .int .i64 k ∧ Lst wr l L ∧ Below w.heap.size w wr ∧ Hid (Good L ∧ L.length ≤ k)) (fun _ i _ => n - (intOf i).toNat)
      case atStart => exact ⟨0, [], Nat.zero_le _, rfl, ⟨none, 0, 0, rfl, Nat.le_refl _, Rd.nil⟩, hb1, ⟨good_nil, Nat.le_refl _⟩⟩
      case round =>
        obtain ⟨k, L, hk, rfl, ⟨A', n', c', rfl, hc', hrd⟩, hbw, hr⟩ := hrel
        have hbs := hbw.size
        have hnl := hrd.fls_length
        have hn' : n' ≤ k := by rw [← hnl]; exact hr.out.2
        have HNL := Lib.hid hnl; clear hnl
        by_cases hlt : k < n
        · obtain ⟨b, o, rfl, hm, h0, h1⟩ := (hx.below hbw).file hlt
          have hfl : (fs[k]?.getD ([], [])).1.length ≤ 300 := (HF.out _ (fl_mem fs k (by rw [HL.out]; exact hlt))).1
          generalize fs[k]?.getD ([], []) = f at *
          have hd1 : decide (k < n) = true := by simpa using hlt
          go_wp2_with fail
          with_reducible refine (rclean_any (B f.1) _ (by rw [B_size]; omega)).mono ?_
          rintro e w2 ⟨rfl, hb2⟩
          rw [B_data]
          unfold CleanRet
          have hs2 := hb2.size
          simp at hs2
          have q0 : w2.cell? ⟨wr.heap.size, 0, none⟩ = some (.string (B f.1)) := by rw [hb2.cell (p := ⟨wr.heap.size, 0, none⟩) (by simp)]; simp
          have q1 : w2.cell? ⟨wr.heap.size, 1, none⟩ = some (.string (B f.2)) := by rw [hb2.cell (p := ⟨wr.heap.size, 1, none⟩) (by simp)]; simp
          have hB2' : Below wr.heap.size wr w2 := ((Below.refl _ _).alloc (Nat.le_refl _) _).trans (hb2.mono (by simp))
          have hB2 : Below w.heap.size w w2 := hbw.trans (hB2'.mono hbs)
          have hrd2 := (hrd.below hB2').more hB2'.size
          clear hb2 h0 h1 hB2'
          by_cases hc : clean f.1 = [] ∨ clean f.1 ≠ f.1
          · have HN : Hid (Good L ∧ L.length ≤ k + 1) := ⟨hr.out.1, by have := hr.out.2; omega⟩
            by_cases hc0 : clean f.1 = []
            · rw [hc0]
              have e0 : errK [] = 6 := rfl
              rw [e0]
              clear e0 hc hc0
              go_wp2
              go_roundw
              case rel => exact ⟨k + 1, L, by omega, by go_num, ⟨A', n', c', rfl, hc', hrd2⟩, hB2, HN.out⟩
              case measure => simp [intOf]; omega
            · have hc1 : clean f.1 ≠ f.1 := by rcases hc with h | h; exact absurd h hc0; exact h
              have e0 : errK (clean f.1) = 0 := by unfold errK; rw [if_neg hc0]
              have en : (!(clean f.1 == f.1)) = true := by simpa using hc1
              rw [e0]
              clear e0 hc hc0 hc1
              generalize clean f.1 = cf at *
              go_wp2
              go_roundw
              case rel => exact ⟨k + 1, L, by omega, by go_num, ⟨A', n', c', rfl, hc', hrd2⟩, hB2, HN.out⟩
              case measure => simp [intOf]; omega
          · have hc0 : ¬ clean f.1 = [] := fun h => hc (.inl h)
            have hc1 : clean f.1 = f.1 := Classical.byContradiction fun h => hc (.inr h)
            have e0 : errK (clean f.1) = 0 := by unfold errK; rw [if_neg hc0]
            have HC1 := Lib.hid hc1
            have HC0 : Hid (f.1 ≠ []) := by rw [← hc1]; exact hc0
            rw [e0, hc1]
            have en : (!(f.1 == f.1)) = false := by simp
            clear e0 hc hc0 hc1
            by_cases h2 : f.2 = []
            · have ee : (f.2 == []) = true := by simp [h2]
              have ee2 : (!(f.2 == [])) = false := by simp [h2]
              have ee3 : f.2.isEmpty = true := by simp [h2]
              have HG := Lib.hid (drop_good hr.out.1 f.1)
              have HGET : Hid (GetRet (dropL L f.1) f.1 = .returned (.tuple #[.string (B f.2), .bool false])) := by rw [get_no HG.out.2.1, h2]; rfl
              have HCH : Hid (checkL (dropL L f.1) = 0) := good_check HG.out.1 (by have := HG.out.2.2; have := hr.out.2; omega)
              have HN : Hid (Good (dropL L f.1) ∧ (dropL L f.1).length ≤ k + 1) := ⟨HG.out.1, by have := HG.out.2.2; have := hr.out.2; omega⟩
              have C := drop_any A' n' c' L (B f.1) w2 hrd2 (by omega) hc'
              rw [B_data] at C
              have HC := Lib.hid C
              clear C h2 HG
              generalize dropL L f.1 = L2 at *
              go_wp2_with fail
              refine HC.out.mono ?_
              rintro e w3 ⟨v, rfl, hv, hb3⟩
              have hs3 := hb3.size
              have hB3 := hB2.trans (hb3.mono hB2.size)
              have q0' : w3.cell? ⟨wr.heap.size, 0, none⟩ = some (.string (B f.1)) := by rw [hb3.cell (p := ⟨wr.heap.size, 0, none⟩) (by show wr.heap.size < _; omega)]; exact q0
              have q1' : w3.cell? ⟨wr.heap.size, 1, none⟩ = some (.string (B f.2)) := by rw [hb3.cell (p := ⟨wr.heap.size, 1, none⟩) (by show wr.heap.size < _; omega)]; exact q1
              obtain ⟨A3, n3, c3, rfl, hc3, hr3⟩ := hv
              have hn3 : n3 ≤ k + 1 := by rw [← hr3.fls_length]; exact HN.out.2
              clear HC q0 q1
              have C := get_any A3 n3 c3 L2 (B f.1) w3 hr3 (by omega)
              rw [B_data, HGET.out] at C
              have HC := Lib.hid C; clear C HGET
              go_wp2_with fail
              refine HC.out.mono ?_
              rintro e w4 ⟨rfl, hb4⟩
              have hs4 := hb4.size
              have hB4 := hB3.trans (hb4.mono hB3.size)
              have q1 : w4.cell? ⟨wr.heap.size, 1, none⟩ = some (.string (B f.2)) := by rw [hb4.cell (p := ⟨wr.heap.size, 1, none⟩) (by show wr.heap.size < _; omega)]; exact q1'
              have hr4 := (hr3.below hb4).more hb4.size
              have hG4 := hG.below hB4 (Nat.le_refl _)
              clear HC q0' q1' hr3
              have C := check_any A3 n3 c3 L2 w4 hr4 (by omega) (good_sz HN.out.1) hG4
              rw [HCH.out] at C
              have HC := Lib.hid C; clear C HCH
              have en2 : (!(f.2 == f.2)) = false := by simp
              go_wp2_with fail
              refine HC.out.mono ?_
              rintro e w5 ⟨rfl, hb5⟩
              have hB5 := hB4.trans (hb5.mono hB4.size)
              have hr5 := (hr4.below hb5).more hb5.size
              clear HC
              go_wp2
              go_roundw
              case rel => exact ⟨k + 1, L2, by omega, by go_num, ⟨A3, n3, c3, rfl, hc3, hr5⟩, hB5, HN.out⟩
              case measure => simp [intOf]; omega
            · have ee : (f.2 == []) = false := by simpa using h2
              have ee2 : (!(f.2 == [])) = true := by simpa using h2
              have ee3 : f.2.isEmpty = false := by simpa using h2
              have HG := Lib.hid (set_good hr.out.1 HC1.out HC0.out)
              have HGET : Hid (GetRet (setL L f) f.1 = .returned (.tuple #[.string (B f.2), .bool true])) := get_yes HG.out.1 HG.out.2.1
              have HCH : Hid (checkL (setL L f) = 0) := good_check HG.out.1 (by have := HG.out.2.2; have := hr.out.2; omega)
              have HN : Hid (Good (setL L f) ∧ (setL L f).length ≤ k + 1) := ⟨HG.out.1, by have := HG.out.2.2; have := hr.out.2; omega⟩
              have HC := Lib.hid (set_any A' n' c' L f w2 hrd2 (by omega) hc')
              clear h2 HG
              generalize setL L f = L2 at *
              go_wp2_with fail
              refine HC.out.mono ?_
              rintro e w3 ⟨v, rfl, hv', hb3⟩
              have hv := Lst.of_own hv'
              clear hv'
              have hs3 := hb3.size
              have hB3 := hB2.trans (hb3.mono hB2.size)
              have q0' : w3.cell? ⟨wr.heap.size, 0, none⟩ = some (.string (B f.1)) := by rw [hb3.cell (p := ⟨wr.heap.size, 0, none⟩) (by show wr.heap.size < _; omega)]; exact q0
              have q1' : w3.cell? ⟨wr.heap.size, 1, none⟩ = some (.string (B f.2)) := by rw [hb3.cell (p := ⟨wr.heap.size, 1, none⟩) (by show wr.heap.size < _; omega)]; exact q1
              obtain ⟨A3, n3, c3, rfl, hc3, hr3⟩ := hv
              have hn3 : n3 ≤ k + 1 := by rw [← hr3.fls_length]; exact HN.out.2
              clear HC q0 q1
              have C := get_any A3 n3 c3 L2 (B f.1) w3 hr3 (by omega)
              rw [B_data, HGET.out] at C
              have HC := Lib.hid C; clear C HGET
              go_wp2_with fail
              refine HC.out.mono ?_
              rintro e w4 ⟨rfl, hb4⟩
              have hs4 := hb4.size
              have hB4 := hB3.trans (hb4.mono hB3.size)
              have q1 : w4.cell? ⟨wr.heap.size, 1, none⟩ = some (.string (B f.2)) := by rw [hb4.cell (p := ⟨wr.heap.size, 1, none⟩) (by show wr.heap.size < _; omega)]; exact q1'
              have hr4 := (hr3.below hb4).more hb4.size
              have hG4 := hG.below hB4 (Nat.le_refl _)
              clear HC q0' q1' hr3
              have C := check_any A3 n3 c3 L2 w4 hr4 (by omega) (good_sz HN.out.1) hG4
              rw [HCH.out] at C
              have HC := Lib.hid C; clear C HCH
              have en2 : (!(f.2 == f.2)) = false := by simp
              go_wp2_with fail
              refine HC.out.mono ?_
              rintro e w5 ⟨rfl, hb5⟩
              have hB5 := hB4.trans (hb5.mono hB4.size)
              have hr5 := (hr4.below hb5).more hb5.size
              clear HC
              go_wp2
              go_roundw
              case rel => exact ⟨k + 1, L2, by omega, by go_num, ⟨A3, n3, c3, rfl, hc3, hr5⟩, hB5, HN.out⟩
              case measure => simp [intOf]; omega
        · go_wp2_with fail
          refine (awake_any _ (hG.below hbw (Nat.le_refl _))).mono ?_
          rintro e w2 ⟨rfl, hb2⟩
          go_wp2
          go_ret
          exact ⟨rfl, hbw.trans (hb2.mono hbw.size)⟩
    · rw [fewB_no h] at C0
      clear h
      go_enter Tryd.func9, Tryd.ntmps9
      go_wp2_with fail
      refine C0.out.mono ?_
      rintro e w1 ⟨rfl, hb1⟩
      have hG1 := hG.below hb1 (Nat.le_refl _)
      clear C0
      go_wp2_with fail
      refine (awake_any _ hG1).mono ?_
      rintro e w2 ⟨rfl, hb2⟩
      go_wp2
      go_ret
      exact ⟨rfl, hb1.trans (hb2.mono hb1.size)⟩

end Go.Proofs.YtpbampchhpkpbaaDoor
