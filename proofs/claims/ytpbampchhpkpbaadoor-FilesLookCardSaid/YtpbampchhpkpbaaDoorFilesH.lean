/-
  Layer 16 (files): the reference's Relative.
-/
import Derived.Test.YtpbampchhpkpbaaDoorFilesG
namespace Go.Proofs.YtpbampchhpkpbaaDoor
set_option linter.unusedSimpArgs false
open Go.RowKit
set_option linter.unusedVariables false
attribute [local go_sem] B_data B_size

set_option maxHeartbeats 4000000 in
set_option maxRecDepth 100000 in
theorem rrelative_any (a b : ByteArray) (w : World) (ha : a.size ≤ 999000) (hb : b.size ≤ 990000) :
    Calls Tryd.prog 16 #[.string a, .string b] w fun e w' => e = RelRet a.toList b.toList ∧ Below w.heap.size w w' := by
  have hcl := clean_le a.toList
  have hcl2 := clean_le b.toList
  have HN : Hid (∀ h : clean a.toList = [] ∨ clean b.toList = [], Ending.returned (.tuple #[.string ⟨#[]⟩, .int .i64 6]) = RelRet a.toList b.toList) := fun h => relRet_no h
  have HY : Hid (¬ clean a.toList = [] → ¬ clean b.toList = [] → RelRet a.toList b.toList = Ending.returned (.tuple #[.string (B (ups (stripC (namesL (dirL (clean a.toList))) (namesL (dirL (clean b.toList)))).1.length ++ slashed (stripC (namesL (dirL (clean a.toList))) (namesL (dirL (clean b.toList)))).2 ++ (parts (clean b.toList))[(clean b.toList).count 47]?.getD [])), .int .i64 0])) := fun h h' => by
    rw [relRet_yes h h', (names_clean _ h).1, (names_clean _ h').1]; rfl
  have HM : Hid (¬ clean a.toList = [] → ¬ clean b.toList = [] → (namesL (dirL (clean a.toList))).length ≤ 200 ∧ (namesL (dirL (clean b.toList))).length ≤ 200 ∧ room (namesL (dirL (clean b.toList))) ≤ 201 ∧ room (parts (clean b.toList)) ≤ 201) := fun h h' => by
    have r1 := parts_sum (clean b.toList) _ rfl
    have r2 : room (parts (clean b.toList)) ≤ 201 := by unfold room; omega
    rw [(names_clean _ h).1, (names_clean _ h').1, List.length_take, List.length_take]
    have c1 : (clean a.toList).count 47 ≤ 200 := Nat.le_trans List.count_le_length hcl
    have c2 : (clean b.toList).count 47 ≤ 200 := Nat.le_trans List.count_le_length hcl2
    exact ⟨by omega, by omega, Nat.le_trans (room_take _ _) r2, r2⟩
  go_enter Tryd.func16, Tryd.ntmps16
  go_wp2_with fail
  with_reducible refine (rclean_any a _ (by omega)).mono ?_
  rintro e w1 ⟨rfl, hb1⟩
  have hs1 := hb1.size
  unfold CleanRet
  generalize clean a.toList = f at *
  by_cases hf : f = []
  · have HR := Lib.hid (HN.out (.inl hf))
    subst hf
    have e0 : errK [] = 6 := rfl
    rw [e0]
    clear e0
    go_wp2
    go_ret2
    exact ⟨HR.out, hb1⟩
  · have e0 : errK f = 0 := by unfold errK; rw [if_neg hf]
    rw [e0]
    clear e0
    go_wp2_with fail
    with_reducible refine (rclean_any b _ (by omega)).mono ?_
    rintro e w2 ⟨rfl, hb2⟩
    have hs2 := hb2.size
    unfold CleanRet
    generalize clean b.toList = t at *
    by_cases ht : t = []
    · have HR := Lib.hid (HN.out (.inr ht))
      subst ht
      have e0 : errK [] = 6 := rfl
      rw [e0]
      clear e0
      go_wp2
      go_ret2
      exact ⟨HR.out, hb1.trans (hb2.mono hs1)⟩
    · have e0 : errK t = 0 := by unfold errK; rw [if_neg ht]
      rw [e0]
      clear e0
      have HR := Lib.hid (HY.out hf ht)
      obtain ⟨lm1, lm2, hrm, hrt⟩ := HM.out hf ht
      have hB2 : Below w.heap.size w w2 := hb1.trans (hb2.mono hs1)
      have hdl := ahead_le 47 f
      have hdl2 := ahead_le 47 t
      clear HN HY HM hf ht hb1 hb2
      go_wp2_with fail
      with_reducible refine (rdir_any (B f) _ (by rw [B_size]; omega)).mono ?_
      rintro e w' ⟨rfl, rfl⟩
      rw [B_data]
      go_wp2_with fail
      with_reducible refine (rnames_any (B (dirL f)) _ (by rw [B_size]; exact Nat.le_trans hdl (by omega))).mono ?_
      rintro e w3 ⟨v3, rfl, hown3, hb3⟩
      have hs3 := hb3.size
      rw [B_data] at hown3
      obtain ⟨A3, c3, rfl, hc3⟩ := own_form hown3
      go_wp2_with fail
      with_reducible refine (rdir_any (B t) _ (by rw [B_size]; omega)).mono ?_
      rintro e w' ⟨rfl, rfl⟩
      rw [B_data]
      go_wp2_with fail
      with_reducible refine (rnames_any (B (dirL t)) _ (by rw [B_size]; exact Nat.le_trans hdl2 (by omega))).mono ?_
      rintro e w4 ⟨v4, rfl, hown4, hb4⟩
      have hs4 := hb4.size
      rw [B_data] at hown4
      obtain ⟨A4, c4, rfl, hc4⟩ := own_form hown4
      have r3' := ((Rd.of_own hown3).below hb4).more hs4
      have r4' := Rd.of_own hown4
      have hB4 : Below w.heap.size w w4 := (hB2.trans (hb3.mono (by omega))).trans (hb4.mono (by omega))
      have hz4 := hB4.size
      clear hown3 hown4 hB2 hb3 hb4 hdl hdl2
      generalize namesL (dirL f) = ps' at *
      generalize namesL (dirL t) = qs' at *
      go_wp2
      go_loopw [10, 11] (fun v u wr => ∃ (h k : List (List UInt8)) (A B : Option Addr) (i j c d : Nat), v = .slice A i c ∧ u = .slice B j d ∧ i ≤ c ∧ j ≤ d ∧ i ≤ 200 ∧ j ≤ 200 ∧ Rd w4 w4.heap.size 1 A i (strs h) ∧ Rd w4 w4.heap.size 1 B j (strs k) ∧ Below w4.heap.size w4 wr ∧
          Hid (stripC ps' qs' = stripC h k ∧ room k ≤ 201)) (fun v _ _ => match v with | .slice _ n _ => n | _ => 0)
      case atStart => exact ⟨ps', qs', _, _, _, _, _, _, rfl, rfl, by omega, by omega, by omega, by omega, r3', r4', Below.refl _ _, rfl, hrm⟩
      case round =>
        obtain ⟨h, k, A, B', i, j, c, d, rfl, rfl, hic, hjd, hi2, hj2, rh, rk, hbr, hr⟩ := hrel
        have Lh := Lib.hid rh.strs_length; have Lk := Lib.hid rk.strs_length
        have hcase : (∃ x h' k', h = x :: h' ∧ k = x :: k') ∨ (stripC h k = (h, k) ∧ ((i ≤ 0) ∨ (0 < i ∧ j ≤ 0) ∨ (∃ x y h' k', 0 < i ∧ 0 < j ∧ h = x :: h' ∧ k = y :: k' ∧ x ≠ y))) := by
          have l1 := Lh.out; have l2 := Lk.out
          cases h with
          | nil => right; simp at l1; exact ⟨by unfold stripC; rfl, .inl (by omega)⟩
          | cons x h' => cases k with
            | nil => right; simp at l1 l2; exact ⟨by unfold stripC; rfl, .inr (.inl ⟨by omega, by omega⟩)⟩
            | cons y k' =>
              simp at l1 l2
              by_cases e : x = y
              · subst e; exact .inl ⟨x, h', k', rfl, rfl⟩
              · right; exact ⟨by rw [stripC, if_neg e], .inr (.inr ⟨x, y, h', k', by omega, by omega, rfl, rfl, e⟩)⟩
        rcases hcase with ⟨x, h', k', rfl, rfl⟩ | ⟨hst, hcase⟩
        · have hi0 : 0 < i := by have := Lh.out; simp at this; omega
          have hj0 : 0 < j := by have := Lk.out; simp at this; omega
          have rh' := rh.cut (k := 1) (by omega) hic
          have rk' := rk.cut (k := 1) (by omega) hjd
          obtain ⟨ad, rfl, ca⟩ := (rh.below hbr).str hi0
          obtain ⟨bd, rfl, cb⟩ := (rk.below hbr).str hj0
          have ca0 : wr.cell? ad = some (.string (B x)) := ca
          have cb0 : wr.cell? bd = some (.string (B x)) := cb
          have HS : Hid (stripC ps' qs' = stripC h' k' ∧ room k' ≤ 201) := ⟨by rw [hr.out.1, stripC, if_pos rfl], by have := hr.out.2; simp [room] at this ⊢; omega⟩
          clear ca cb
          have hc1 : (if c = 1 then some ad else (some ad).map (·.add (1 * 1))) = if c = 1 then some ad else some ⟨ad.block, ad.off + 1, none⟩ := rfl
          have hd1 : (if d = 1 then some bd else (some bd).map (·.add (1 * 1))) = if d = 1 then some bd else some ⟨bd.block, bd.off + 1, none⟩ := rfl
          rw [hc1] at rh'
          rw [hd1] at rk'
          clear hc1 hd1
          go_wp2
          go_quiet (fail)
          go_wp2
          all_goals
            go_roundw
            case rel => exact ⟨h', k', _, _, _, _, _, _, rfl, rfl, by omega, by omega, by omega, by omega, rh', rk', below_drewN hbr _, HS.out⟩
            case measure => show i - 1 < i; omega
        · have HF : Hid (RelRet a.toList b.toList = Ending.returned (.tuple #[.string (B (ups i ++ slashed k ++ (parts t)[t.count 47]?.getD [])), .int .i64 0]) ∧ room k ≤ 201) := by
            refine ⟨?_, hr.out.2⟩
            rw [HR.out, hr.out.1, hst]
            show _ = Ending.returned (.tuple #[.string (B (ups i ++ slashed k ++ (parts t)[t.count 47]?.getD [])), .int .i64 0])
            rw [Lh.out]
          clear hst HR
          have hwe : ∀ (x y : List UInt8) (h' k' : List (List UInt8)), h = x :: h' → k = y :: k' → 0 < i → 0 < j → ∃ ad bd, A = some ad ∧ B' = some bd ∧ wr.cell? ad = some (.string (B x)) ∧ wr.cell? bd = some (.string (B y)) := by
            rintro x y h' k' rfl rfl h1 h2
            obtain ⟨ad, rfl, ca⟩ := (rh.below hbr).str h1
            obtain ⟨bd, rfl, cb⟩ := (rk.below hbr).str h2
            exact ⟨ad, bd, rfl, rfl, ca, cb⟩
          have HW := Lib.hid hwe; clear hwe
          have hbrs := hbr.size
          obtain ⟨wo, rfl⟩ : ∃ wo : World, wo = wr := ⟨_, rfl⟩
          rcases hcase with hc | ⟨hc, hc2⟩ | ⟨x, y, h', k', hc, hc2, e1, e2, hxy⟩
          · have hd : decide (0 < (i : Int)) = false := by simp; omega
            have hd' : decide (0 < i) = false := by simp; omega
            clear HW
            go_wp2
            go_quiet (fail)
            go_wp2
            go_loopw [12, 13] (fun s x w5 => ∃ p : Nat, p ≤ i ∧ x = .int .i64 p ∧ s = .string (B (ups p)) ∧ Below w4.heap.size w4 w5) (fun _ x _ => i - (intOf x).toNat)
            case atStart => exact ⟨0, Nat.zero_le _, rfl, rfl, below_drewN hbr _⟩
            case round =>
              obtain ⟨p, hp, rfl, rfl, hb5⟩ := hrel
              obtain ⟨w5, rfl⟩ : ∃ w5 : World, w5 = wr := ⟨_, rfl⟩
              have hul := ups_len p
              by_cases hlt : p < i
              · exfalso; omega
              · obtain rfl : p = i := by omega
                have hul' : (ups p).length ≤ 600 := by omega
                clear hul
                go_wp2
                go_loopw [12, 14] (fun s x w6 => ∃ q : Nat, q ≤ j ∧ x = .int .i64 q ∧ s = .string (B (ups p ++ slashed (k.take q))) ∧ Below w4.heap.size w4 w6) (fun _ x _ => j - (intOf x).toNat)
                case atStart => exact ⟨0, Nat.zero_le _, rfl, by rw [List.take_zero]; simp [slashed], hb5⟩
                case round =>
                  obtain ⟨q, hq, rfl, rfl, hb6⟩ := hrel
                  obtain ⟨w6, rfl⟩ : ∃ w6 : World, w6 = wr := ⟨_, rfl⟩
                  have hsl := slashed_len (k.take q)
                  have hsr := room_take k q
                  have hrk := HF.out.2
                  have hss : (ups p ++ slashed (k.take q)).length ≤ 900 := by rw [List.length_append]; omega
                  clear hsl
                  by_cases hltq : q < j
                  · obtain ⟨bd2, hE, cb⟩ := (rk.below hb6).str hltq
                    cases hE
                    have HSS := Lib.hid (slashed_step k q (by rw [Lk.out]; exact hltq))
                    have hgl := room_getD k q
                    have z1 : (⟨#[47]⟩ : ByteArray).size = 1 := rfl
                    have HU : Hid (B (ups p ++ slashed (k.take q)) ++ B (k[q]?.getD []) ++ ⟨#[47]⟩ = B (ups p ++ slashed (k.take (q + 1)))) := by rw [HSS.out, ← List.append_assoc, ← List.append_assoc, B_app, B_app]; rfl
                    generalize ups p ++ slashed (k.take q) = zs at *
                    go_wp2
                    go_roundw
                    case rel => exact ⟨q + 1, by omega, by go_num, by rw [HU.out], hb6⟩
                    case measure => simp [intOf]; omega
                  · have HT : Hid (k.take q = k) := by exact List.take_of_length_le (by rw [Lk.out]; omega)
                    rw [HT.out] at hss
                    rw [HT.out]
                    go_wp2_with fail
                    with_reducible refine (rparts_any (B t) _ (by rw [B_size]; omega)).mono ?_
                    rintro e w7 ⟨v7, rfl, hown7, hb7⟩
                    rw [B_data] at hown7
                    have hcn : t.count 47 ≤ 200 := Nat.le_trans List.count_le_length hcl2
                    rw [lt_parts t] at hown7
                    obtain ⟨A7, c7, rfl, hc7⟩ := own_form hown7
                    obtain ⟨ad7, rfl, ca7⟩ := (Rd.of_own hown7).str (k := t.count 47) (by omega)
                    have hlr := room_getD (parts t) (t.count 47)
                    simp only [List.getD_eq_getElem?_getD] at ca7
                    clear hown7
                    generalize t.count 47 = m at *
                    generalize (parts t)[m]?.getD [] = last at *
                    have HU : Hid (B (ups p ++ slashed k) ++ B last = B (ups p ++ slashed k ++ last)) := by rw [B_app]; rfl
                    generalize ups p ++ slashed k = zs at *
                    go_wp2
                    go_ret2
                    exact ⟨by rw [HF.out.1, ← HU.out]; rfl, (hB4.trans (hb6.mono hz4)).trans (hb7.mono (Nat.le_trans hz4 hb6.size))⟩
          · have hd : decide (0 < (j : Int)) = false := by simp; omega
            have hd' : decide (0 < j) = false := by simp; omega
            clear HW
            go_wp2
            go_quiet (fail)
            go_wp2
            go_loopw [12, 13] (fun s x w5 => ∃ p : Nat, p ≤ i ∧ x = .int .i64 p ∧ s = .string (B (ups p)) ∧ Below w4.heap.size w4 w5) (fun _ x _ => i - (intOf x).toNat)
            case atStart => exact ⟨0, Nat.zero_le _, rfl, rfl, below_drewN hbr _⟩
            case round =>
              obtain ⟨p, hp, rfl, rfl, hb5⟩ := hrel
              obtain ⟨w5, rfl⟩ : ∃ w5 : World, w5 = wr := ⟨_, rfl⟩
              have hul := ups_len p
              by_cases hlt : p < i
              · have z3 : (⟨#[46, 46, 47]⟩ : ByteArray).size = 3 := rfl
                have hul' : (ups p).length ≤ 600 := by omega
                have HU : Hid (B (ups p) ++ ⟨#[46, 46, 47]⟩ = B (ups (p + 1))) := by rw [ups_succ, B_app]; rfl
                clear hul
                go_wp2
                go_roundw
                case rel => exact ⟨p + 1, by omega, by go_num, by rw [HU.out], hb5⟩
                case measure => simp [intOf]; omega
              · obtain rfl : p = i := by omega
                have hul' : (ups p).length ≤ 600 := by omega
                clear hul
                go_wp2
                go_loopw [12, 14] (fun s x w6 => ∃ q : Nat, q ≤ j ∧ x = .int .i64 q ∧ s = .string (B (ups p ++ slashed (k.take q))) ∧ Below w4.heap.size w4 w6) (fun _ x _ => j - (intOf x).toNat)
                case atStart => exact ⟨0, Nat.zero_le _, rfl, by rw [List.take_zero]; simp [slashed], hb5⟩
                case round =>
                  obtain ⟨q, hq, rfl, rfl, hb6⟩ := hrel
                  obtain ⟨w6, rfl⟩ : ∃ w6 : World, w6 = wr := ⟨_, rfl⟩
                  have hsl := slashed_len (k.take q)
                  have hsr := room_take k q
                  have hrk := HF.out.2
                  have hss : (ups p ++ slashed (k.take q)).length ≤ 900 := by rw [List.length_append]; omega
                  clear hsl
                  by_cases hltq : q < j
                  · exfalso; omega
                  · have HT : Hid (k.take q = k) := by exact List.take_of_length_le (by rw [Lk.out]; omega)
                    rw [HT.out] at hss
                    rw [HT.out]
                    go_wp2_with fail
                    with_reducible refine (rparts_any (B t) _ (by rw [B_size]; omega)).mono ?_
                    rintro e w7 ⟨v7, rfl, hown7, hb7⟩
                    rw [B_data] at hown7
                    have hcn : t.count 47 ≤ 200 := Nat.le_trans List.count_le_length hcl2
                    rw [lt_parts t] at hown7
                    obtain ⟨A7, c7, rfl, hc7⟩ := own_form hown7
                    obtain ⟨ad7, rfl, ca7⟩ := (Rd.of_own hown7).str (k := t.count 47) (by omega)
                    have hlr := room_getD (parts t) (t.count 47)
                    simp only [List.getD_eq_getElem?_getD] at ca7
                    clear hown7
                    generalize t.count 47 = m at *
                    generalize (parts t)[m]?.getD [] = last at *
                    have HU : Hid (B (ups p ++ slashed k) ++ B last = B (ups p ++ slashed k ++ last)) := by rw [B_app]; rfl
                    generalize ups p ++ slashed k = zs at *
                    go_wp2
                    go_ret2
                    exact ⟨by rw [HF.out.1, ← HU.out]; rfl, (hB4.trans (hb6.mono hz4)).trans (hb7.mono (Nat.le_trans hz4 hb6.size))⟩
          · obtain ⟨ad, bd, rfl, rfl, ca0, cb0⟩ := HW.out x y h' k' e1 e2 hc hc2
            have exy : (x == y) = false := by simpa using hxy
            clear e1 e2 hxy HW
            go_wp2
            go_quiet (fail)
            go_wp2
            go_loopw [12, 13] (fun s x w5 => ∃ p : Nat, p ≤ i ∧ x = .int .i64 p ∧ s = .string (B (ups p)) ∧ Below w4.heap.size w4 w5) (fun _ x _ => i - (intOf x).toNat)
            case atStart => exact ⟨0, Nat.zero_le _, rfl, rfl, below_drewN hbr _⟩
            case round =>
              obtain ⟨p, hp, rfl, rfl, hb5⟩ := hrel
              obtain ⟨w5, rfl⟩ : ∃ w5 : World, w5 = wr := ⟨_, rfl⟩
              have hul := ups_len p
              by_cases hlt : p < i
              · have z3 : (⟨#[46, 46, 47]⟩ : ByteArray).size = 3 := rfl
                have hul' : (ups p).length ≤ 600 := by omega
                have HU : Hid (B (ups p) ++ ⟨#[46, 46, 47]⟩ = B (ups (p + 1))) := by rw [ups_succ, B_app]; rfl
                clear hul
                go_wp2
                go_roundw
                case rel => exact ⟨p + 1, by omega, by go_num, by rw [HU.out], hb5⟩
                case measure => simp [intOf]; omega
              · obtain rfl : p = i := by omega
                have hul' : (ups p).length ≤ 600 := by omega
                clear hul
                go_wp2
                go_loopw [12, 14] (fun s x w6 => ∃ q : Nat, q ≤ j ∧ x = .int .i64 q ∧ s = .string (B (ups p ++ slashed (k.take q))) ∧ Below w4.heap.size w4 w6) (fun _ x _ => j - (intOf x).toNat)
                case atStart => exact ⟨0, Nat.zero_le _, rfl, by rw [List.take_zero]; simp [slashed], hb5⟩
                case round =>
                  obtain ⟨q, hq, rfl, rfl, hb6⟩ := hrel
                  obtain ⟨w6, rfl⟩ : ∃ w6 : World, w6 = wr := ⟨_, rfl⟩
                  have hsl := slashed_len (k.take q)
                  have hsr := room_take k q
                  have hrk := HF.out.2
                  have hss : (ups p ++ slashed (k.take q)).length ≤ 900 := by rw [List.length_append]; omega
                  clear hsl
                  by_cases hltq : q < j
                  · obtain ⟨bd2, hE, cb⟩ := (rk.below hb6).str hltq
                    cases hE
                    have HSS := Lib.hid (slashed_step k q (by rw [Lk.out]; exact hltq))
                    have hgl := room_getD k q
                    have z1 : (⟨#[47]⟩ : ByteArray).size = 1 := rfl
                    have HU : Hid (B (ups p ++ slashed (k.take q)) ++ B (k[q]?.getD []) ++ ⟨#[47]⟩ = B (ups p ++ slashed (k.take (q + 1)))) := by rw [HSS.out, ← List.append_assoc, ← List.append_assoc, B_app, B_app]; rfl
                    generalize ups p ++ slashed (k.take q) = zs at *
                    go_wp2
                    go_roundw
                    case rel => exact ⟨q + 1, by omega, by go_num, by rw [HU.out], hb6⟩
                    case measure => simp [intOf]; omega
                  · have HT : Hid (k.take q = k) := by exact List.take_of_length_le (by rw [Lk.out]; omega)
                    rw [HT.out] at hss
                    rw [HT.out]
                    go_wp2_with fail
                    with_reducible refine (rparts_any (B t) _ (by rw [B_size]; omega)).mono ?_
                    rintro e w7 ⟨v7, rfl, hown7, hb7⟩
                    rw [B_data] at hown7
                    have hcn : t.count 47 ≤ 200 := Nat.le_trans List.count_le_length hcl2
                    rw [lt_parts t] at hown7
                    obtain ⟨A7, c7, rfl, hc7⟩ := own_form hown7
                    obtain ⟨ad7, rfl, ca7⟩ := (Rd.of_own hown7).str (k := t.count 47) (by omega)
                    have hlr := room_getD (parts t) (t.count 47)
                    simp only [List.getD_eq_getElem?_getD] at ca7
                    clear hown7
                    generalize t.count 47 = m at *
                    generalize (parts t)[m]?.getD [] = last at *
                    have HU : Hid (B (ups p ++ slashed k) ++ B last = B (ups p ++ slashed k ++ last)) := by rw [B_app]; rfl
                    generalize ups p ++ slashed k = zs at *
                    go_wp2
                    go_ret2
                    exact ⟨by rw [HF.out.1, ← HU.out]; rfl, (hB4.trans (hb6.mono hz4)).trans (hb7.mono (Nat.le_trans hz4 hb6.size))⟩

end Go.Proofs.YtpbampchhpkpbaaDoor
