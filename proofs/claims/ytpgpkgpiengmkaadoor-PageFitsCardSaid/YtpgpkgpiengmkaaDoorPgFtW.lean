/-
  Layer 40 (page): the walk of the law PageFits.
-/
import Derived.Test.YtpgpkgpiengmkaaDoorPgAw
import Derived.Test.YtpgpkgpiengmkaaDoorPgC
import Derived.Test.YtpgpkgpiengmkaaDoorPgL
namespace Go.Proofs.YtpgpkgpiengmkaaDoor
open Go.RowKit
set_option linter.unusedVariables false
set_option linter.unusedSimpArgs false
attribute [local go_sem] B_data B_size

theorem break_one {b : Pb} (hh : ∀ i, i < b.n → 0 ≤ b.h i) (hn : 0 < b.n) (hs : sumH b (List.range b.n) ≤ b.H) (k : Nat) : breakS b (k + 1) 0 [] = [(List.range b.n, sumH b (List.range b.n))] := by
  cases k with
  | succ k => exact break_fits hh hn hs k
  | zero =>
    have h := break_fits hh hn hs 0
    have hc : 0 < b.n ∨ ([] : List Nat) ≠ [] := .inl hn
    rw [breakS, if_pos hc] at h ⊢
    injection h with h _
    rw [h]; rfl
theorem sumH_mem {b : Pb} : ∀ (L : List Nat), (∀ i ∈ L, 0 ≤ b.h i) → ∀ i ∈ L, b.h i ≤ sumH b L := by
  intro L
  induction L with
  | nil => intro _ i hi; cases hi
  | cons a r ih =>
    intro h i hi
    have h1 := h a (List.mem_cons_self ..)
    have h2 : 0 ≤ sumH b r := by
      clear ih hi
      induction r with
      | nil => exact Int.le_refl _
      | cons c s ih2 =>
        have h3 := h c (List.mem_cons_of_mem _ (List.mem_cons_self ..))
        have h4 := ih2 (fun i hi => h i (by rcases List.mem_cons.1 hi with rfl | hi; exact List.mem_cons_self ..; exact List.mem_cons_of_mem _ (List.mem_cons_of_mem _ hi)))
        rw [sumH]; omega
    rw [sumH]
    rcases List.mem_cons.1 hi with rfl | hi
    · omega
    · have := ih (fun i hi => h i (List.mem_cons_of_mem _ hi)) i hi
      omega
theorem sum_step (b : Pb) (j : Nat) : sumH b (List.range (j + 1)) = sumH b (List.range j) + b.h j := by
  rw [List.range_succ, sumH_append]; simp [sumH]
set_option maxHeartbeats 8000000 in
set_option maxRecDepth 100000 in
theorem pageFits_walk (w : World) (A : Option Addr) (n c : Nat) (l : List Bx) (hx : BxAt w w.heap.size A n l) (hn : n ≤ 140737488355328) (H : Int) (hG : GlobP w) :
    Calls Tryd.prog 8 #[.slice A n c, .int .i64 H] w fun e w' => e = .returned (.bool true) ∧ Below w.heap.size w w' := by
  have HL := Lib.hid hx.len
  go_enter Tryd.func8, Tryd.ntmps8
  go_wp2_with fail
  refine (few_any A n c l w hx hn).mono ?_
  rintro e w1 ⟨b, rfl, hbw, hfw⟩
  cases b with
  | false =>
    clear hfw
    go_wp2_with fail
    refine (awake_any _ (hG.below hbw)).mono ?_
    rintro e w9 ⟨rfl, hb9⟩
    have hb10 := hbw.trans (hb9.mono hbw.size)
    clear hb9 hbw
    go_wp2
    go_ret
    exact ⟨rfl, hb10⟩
  | true =>
    have hF := hfw rfl
    have hn60 : n ≤ 60 := by have := hF.n; rw [hx.len] at this; exact this
    clear hfw
    by_cases h0 : n = 0
    · have q0 : ((n : Int) == 0) = true := by simpa using h0
      clear h0 hF
      go_wp2_with fail
      refine (awake_any _ (hG.below hbw)).mono ?_
      rintro e w9 ⟨rfl, hb9⟩
      have hb10 := hbw.trans (hb9.mono hbw.size)
      clear hb9 hbw
      go_wp2
      go_ret
      exact ⟨rfl, hb10⟩
    have q0 : ((n : Int) == 0) = false := by simpa using h0
    go_wp2_with fail
    refine (rbcheck_any A n c l w1 (hx.step hbw) hF).mono ?_
    rintro e w2 ⟨rfl, hb2⟩
    replace hbw := hbw.trans (hb2.mono hbw.size)
    clear hb2
    by_cases hc : chkB [] 0 l = 0
    rotate_left
    · have z1 : (chkB [] 0 l != 0) = true := by simpa using hc
      generalize chkB [] 0 l = ce at *
      clear hc hF
      go_wp2_with fail
      refine (awake_any _ (hG.below hbw)).mono ?_
      rintro e w9 ⟨rfl, hb9⟩
      have hb10 := hbw.trans (hb9.mono hbw.size)
      clear hb9 hbw
      go_wp2
      go_ret
      exact ⟨rfl, hb10⟩
    have hh := chk_ht l [] 0 hc
    have HC := Lib.hid hc
    rw [hc]
    clear hc
    have HN : Hid ((pbOf l H).n = n) := HL.out
    go_wp2
    go_loopw [5, 6] (fun sv i wr => ∃ (j : Nat) (s : Int), j ≤ n ∧ i = .int .i64 j ∧ sv = .int .i64 s ∧ Below w.heap.size w wr ∧ 0 ≤ s ∧ s ≤ (j : Int) * 1048576 ∧ Hid (s = sumH (pbOf l H) (List.range j))) (fun _ i _ => n - (intOf i).toNat)
    case atStart => exact ⟨0, 0, Nat.zero_le _, rfl, rfl, hbw, Int.le_refl _, by omega, rfl⟩
    case round =>
      clear hbw
      obtain ⟨j, s, hj, rfl, rfl, hbw, hs0, hs1, hs⟩ := hrel
      by_cases hlt : j < n
      · obtain ⟨p, hp⟩ := get_of (l := l) (k := j) (by rw [HL.out]; exact hlt)
        have hph := hh p (List.mem_of_getElem? hp)
        obtain ⟨gb, ob, hA, _, b0, b1, b2, b3, b4, b5⟩ := (hx.below hbw).at6 hp
        subst hA
        have HSN : Hid (s + p.h = sumH (pbOf l H) (List.range (j + 1))) := by show _ = _; rw [sum_step, ← hs.out, pb_h hp]
        clear b0 b2 b3 b4 b5 hs
        obtain ⟨h1, h2⟩ := hph
        have r1 : ¬ p.h < 0 := by omega
        have r2 : ¬ 1048576 < p.h := by omega
        go_wp2
        go_roundw
        case rel => exact ⟨j + 1, s + p.h, by omega, by go_num, by go_num, hbw, by omega, by omega, HSN⟩
        case measure => simp [intOf]; omega
      · have e : j = n := by omega
        subst e
        have hsz := hbw.size
        by_cases hsH : H < s
        · clear hs
          go_wp2_with fail
          refine (awake_any _ (hG.below hbw)).mono ?_
          rintro e w9 ⟨rfl, hb9⟩
          have hb10 := hbw.trans (hb9.mono hbw.size)
          clear hb9 hbw
          go_wp2
          go_ret
          exact ⟨rfl, hb10⟩
        by_cases hH1 : H < 1
        · clear hs
          go_wp2_with fail
          refine (awake_any _ (hG.below hbw)).mono ?_
          rintro e w9 ⟨rfl, hb9⟩
          have hb10 := hbw.trans (hb9.mono hbw.size)
          clear hb9 hbw
          go_wp2
          go_ret
          exact ⟨rfl, hb10⟩
        have hsn : sumH (pbOf l H) (List.range (pbOf l H).n) = s := by rw [HN.out, hs.out]
        have hnn := pb_in (H := H) (P := fun x => 0 ≤ x) (fun b hb => by have := hh b hb; omega)
        have hall : ∀ b ∈ l, b.h ≤ H := fun b hb => by
          obtain ⟨i, hi⟩ := List.mem_iff_getElem?.1 hb
          have hil := (List.getElem?_eq_some_iff.1 hi).1
          have h := sumH_mem (b := pbOf l H) (List.range (pbOf l H).n) (fun i hi => hnn i (by simpa using hi)) i (by simp; exact hil)
          rw [pb_h hi, hsn] at h
          omega
        have hE : brkE l H = 0 := by unfold brkE; rw [if_neg (by simp [HC.out]), if_neg hH1, any_no hall]; rfl
        have hP : brkP l H = [(List.range j, s)] := by
          unfold brkP
          rw [if_pos hE, HL.out, show j = (j - 1) + 1 by omega, break_one hnn (by rw [HN.out]; omega) (by rw [hsn]; show s ≤ H; omega), hsn, HN.out]
          rw [show j - 1 + 1 = j by omega]
        clear hs
        go_wp2_with fail
        refine (break_any A j c l H _ (hx.step hbw) hF).mono ?_
        rintro e w3 ⟨A1, m1, c1, ps, rfl, hp, hd, hb3⟩
        rw [hE]
        rw [hP] at hd
        have hl1 := congrArg List.length hd
        rw [List.length_map, hp.len] at hl1
        replace hl1 : m1 = 1 := hl1
        subst hl1
        obtain ⟨pg, hpg⟩ : ∃ pg, ps = [pg] := List.length_eq_one_iff.1 hp.len
        subst hpg
        have hd0 : pgD pg = (nints (List.range j), s) := by injection hd
        have hbs : pg.bs = nints (List.range j) := congrArg Prod.fst hd0
        have hpb := hp.bs pg (List.mem_singleton.2 rfl)
        have hnb : pg.nb = j := by have h := hpb.ints_len; rw [hbs, nints_len, List.length_range] at h; exact h.symm
        obtain ⟨g, o, hA1, _, c0, _⟩ := hp.at2 (k := 0) rfl
        subst hA1
        rw [hnb] at c0 hpb
        replace c0 : w3.cell? ⟨g, o, none⟩ = some (.slice pg.A j pg.cb) := by simpa using c0
        replace hbw := hbw.trans (hb3.mono hsz)
        have HPB : Hid (Rd w3 w3.heap.size 1 pg.A j (ints (nints (List.range j)))) := by rw [← hbs]; exact hpb
        clear hd hd0 hpb hE hP hall hb3 hp hbs hnb
        go_wp2
        go_loopw [9] (fun i wr => ∃ k : Nat, k ≤ j ∧ i = .int .i64 k ∧ w3 = wr) (fun i _ => j - (intOf i).toNat)
        case atStart => exact ⟨0, Nat.zero_le _, rfl, rfl⟩
        case round =>
          obtain ⟨k, hk, rfl, rfl⟩ := hrel
          by_cases hkj : k < j
          · obtain ⟨g2, o2, hA2, _, e0⟩ := HPB.out.int (nints_at (show (List.range j)[k]? = some k from by simp [hkj]))
            rw [hA2] at c0
            have i1 : (0 : Int) ≤ (k : Int) := by omega
            have i2 : (k : Int) < (j : Int) := by omega
            have z0 : ((k : Int) != (k : Int)) = false := by simp
            go_wp2
            go_roundw
            case rel => exact ⟨k + 1, by omega, by go_num, by trivial⟩
            case measure => simp [intOf]; omega
          · clear c0
            go_wp2_with fail
            refine (awake_any _ (hG.below hbw)).mono ?_
            rintro e w9 ⟨rfl, hb9⟩
            have hb10 := hbw.trans (hb9.mono hbw.size)
            clear hb9 hbw
            go_wp2
            go_ret
            exact ⟨rfl, hb10⟩
end Go.Proofs.YtpgpkgpiengmkaaDoor
