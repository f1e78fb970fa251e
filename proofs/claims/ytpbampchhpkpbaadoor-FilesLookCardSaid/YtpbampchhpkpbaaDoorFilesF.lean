/-
  Layer 16 (files): Relative.
-/
import Derived.Test.YtpbampchhpkpbaaDoorFilesE
namespace Go.Proofs.YtpbampchhpkpbaaDoor
set_option linter.unusedSimpArgs false
open Go.RowKit
set_option linter.unusedVariables false
attribute [local go_sem] B_data B_size

theorem Rd.cut {w : World} {M sz n k cap : Nat} {A : Option Addr} {xs : List Value} (h : Rd w M sz A n xs) (hk : k ≤ n) (hc : n ≤ cap) :
    Rd w M sz (if cap = k then A else A.map (·.add (k * sz))) (n - k) (xs.drop (k * sz)) := by
  refine ⟨by rw [List.length_drop, h.1, Nat.sub_mul], fun hn => ?_⟩
  obtain ⟨ad, rfl, hb, hcell⟩ := h.2 (by omega)
  rw [if_neg (by omega)]
  refine ⟨ad.add (k * sz), rfl, by rw [addr_block]; exact hb, fun j u hu => ?_⟩
  rw [addr_add]
  exact hcell _ u (by rw [← hu, List.getElem?_drop])
theorem Rd.take {w : World} {M sz n k : Nat} {A : Option Addr} {xs : List Value} (h : Rd w M sz A n xs) (hk : k ≤ n) : Rd w M sz A k (xs.take (k * sz)) := by
  refine ⟨by rw [List.length_take, h.1]; exact Nat.min_eq_left (Nat.mul_le_mul_right _ hk), fun hn => ?_⟩
  obtain ⟨ad, rfl, hb, hcell⟩ := h.2 (by omega)
  refine ⟨ad, rfl, hb, fun j u hu => hcell j u ?_⟩
  rw [List.getElem?_take] at hu
  split at hu
  · exact hu
  · cases hu

theorem strs_take (ls : List (List UInt8)) (k : Nat) : (strs ls).take k = strs (ls.take k) := by unfold strs; rw [List.map_take]
/-- two lists of names without what they begin with in common -/
def stripC : List (List UInt8) → List (List UInt8) → List (List UInt8) × List (List UInt8)
  | a :: x, b :: y => if a = b then stripC x y else (a :: x, b :: y)
  | x, y => (x, y)

/-- so many steps up -/
def ups (k : Nat) : List UInt8 := (List.replicate k [46, 46, 47]).flatten
theorem ups_succ (k : Nat) : ups (k + 1) = ups k ++ [46, 46, 47] := by unfold ups; rw [List.replicate_succ', List.flatten_append]; rfl
theorem ups_len (k : Nat) : (ups k).length = 3 * k := by induction k with | zero => rfl | succ k ih => rw [ups_succ, List.length_append, ih]; simp; omega
/-- names, each with a slash behind it -/
def slashed (ls : List (List UInt8)) : List UInt8 := ls.flatMap (· ++ [47])
theorem slashed_step (ls : List (List UInt8)) (k : Nat) (h : k < ls.length) : slashed (ls.take (k + 1)) = slashed (ls.take k) ++ ls[k]?.getD [] ++ [47] := by
  rw [take_getD' ls k h]; simp [slashed]
theorem slashed_len (ls : List (List UInt8)) : (slashed ls).length = room ls := by
  induction ls with
  | nil => rfl
  | cons a r ih => simp only [slashed, List.flatMap_cons, List.length_append] at ih ⊢; rw [ih]; simp [room]; omega
theorem room_append (a b : List (List UInt8)) : room (a ++ b) = room a + room b := by simp [room]; omega
theorem room_take (ls : List (List UInt8)) (k : Nat) : room (ls.take k) ≤ room ls := by
  conv => rhs; rw [← List.take_append_drop k ls]
  rw [room_append]; omega
theorem room_getD (ls : List (List UInt8)) (k : Nat) : (ls[k]?.getD []).length ≤ room ls := by
  by_cases h : k < ls.length
  · have h1 := room_take ls (k + 1)
    rw [take_getD' ls k h, room_snoc] at h1
    omega
  · rw [List.getElem?_eq_none (by omega)]; simp
/-- how the file with the parts qs is named in the file with the parts ps -/
def relR (ps qs : List (List UInt8)) (n m : Nat) : List UInt8 :=
  ups (stripC (ps.take n) (qs.take m)).1.length ++ slashed (stripC (ps.take n) (qs.take m)).2 ++ qs[m]?.getD []
def relL (f t : List UInt8) : List UInt8 := relR (parts f) (parts t) (f.count 47) (t.count 47)
def RelRet (a b : List UInt8) : Ending :=
  if clean a = [] ∨ clean b = [] then .returned (.tuple #[.string ⟨#[]⟩, .int .i64 6]) else .returned (.tuple #[.string (B (relL (clean a) (clean b))), .int .i64 0])
theorem relRet_no {a b : List UInt8} (h : clean a = [] ∨ clean b = []) : Ending.returned (.tuple #[.string ⟨#[]⟩, .int .i64 6]) = RelRet a b := by unfold RelRet; rw [if_pos h]
theorem relRet_yes {a b : List UInt8} (h : ¬ clean a = []) (h' : ¬ clean b = []) : RelRet a b = Ending.returned (.tuple #[.string (B (relL (clean a) (clean b))), .int .i64 0]) := by unfold RelRet; rw [if_neg (by simp [h, h'])]

set_option maxHeartbeats 4000000 in
set_option maxRecDepth 100000 in
theorem relative_any (a b : ByteArray) (w : World) (ha : a.size ≤ 999000) (hb : b.size ≤ 990000) (hG : Glob w) :
    Calls Tryd.prog 15 #[.string a, .string b] w fun e w' => e = RelRet a.toList b.toList ∧ Below w.heap.size w w' := by
  have hcl := clean_le a.toList
  have hcl2 := clean_le b.toList
  have HN : Hid (∀ h : clean a.toList = [] ∨ clean b.toList = [], Ending.returned (.tuple #[.string ⟨#[]⟩, .int .i64 6]) = RelRet a.toList b.toList) := fun h => relRet_no h
  have HY : Hid (¬ clean a.toList = [] → ¬ clean b.toList = [] → RelRet a.toList b.toList = Ending.returned (.tuple #[.string (B (relL (clean a.toList) (clean b.toList))), .int .i64 0])) := fun h h' => relRet_yes h h'
  go_enter Tryd.func15, Tryd.ntmps15
  go_wp2_with fail
  with_reducible refine (clean_any a _ (by omega) hG).mono ?_
  rintro e w1 ⟨rfl, hb1⟩
  have hG1 := hG.below hb1 (Nat.le_refl _)
  have hs1 := hb1.size
  unfold CleanRet
  generalize clean a.toList = f at *
  by_cases hf : f = []
  · have HR := Lib.hid (HN.out (.inl hf))
    subst hf
    have e0 : errK [] = 6 := rfl
    rw [e0]
    clear e0
    go_wp2
    go_ret2
    exact ⟨HR.out, hb1⟩
  · have e0 : errK f = 0 := by unfold errK; rw [if_neg hf]
    rw [e0]
    clear e0
    go_wp2_with fail
    with_reducible refine (clean_any b _ (by omega) hG1).mono ?_
    rintro e w2 ⟨rfl, hb2⟩
    have hG2 := hG1.below hb2 (Nat.le_refl _)
    have hs2 := hb2.size
    unfold CleanRet
    generalize clean b.toList = t at *
    by_cases ht : t = []
    · have HR := Lib.hid (HN.out (.inr ht))
      subst ht
      have e0 : errK [] = 6 := rfl
      rw [e0]
      clear e0
      go_wp2
      go_ret2
      exact ⟨HR.out, hb1.trans (hb2.mono hs1)⟩
    · have e0 : errK t = 0 := by unfold errK; rw [if_neg ht]
      rw [e0]
      clear e0
      have HR := Lib.hid (HY.out hf ht)
      have hB2 : Below w.heap.size w w2 := hb1.trans (hb2.mono hs1)
      clear HN HY hf ht hb1 hb2
      go_wp2_with fail
      with_reducible refine (ssplit_any (B f) _ (by rw [B_size]; omega) hG2).mono ?_
      rintro e w3 ⟨v3, rfl, hown3, hb3⟩
      have hG3 := hG2.below hb3 (Nat.le_refl _)
      have hs3 := hb3.size
      rw [B_data] at hown3
      obtain ⟨A3, c3, rfl, hc3⟩ := own_form hown3
      go_wp2_with fail
      with_reducible refine (ssplit_any (B t) _ (by rw [B_size]; omega) hG3).mono ?_
      rintro e w4 ⟨v4, rfl, hown4, hb4⟩
      have hs4 := hb4.size
      rw [B_data] at hown4
      obtain ⟨A4, c4, rfl, hc4⟩ := own_form hown4
      have r3 := ((Rd.of_own hown3).below hb4).more hs4
      have r4 := Rd.of_own hown4
      have hB4 : Below w.heap.size w w4 := (hB2.trans (hb3.mono (by omega))).trans (hb4.mono (by omega))
      have hz4 := hB4.size
      have hl3 : (parts f).length = f.count 47 + 1 := lt_parts f
      have hl4 : (parts t).length = t.count 47 + 1 := lt_parts t
      have hb3' : f.count 47 ≤ 200 := Nat.le_trans List.count_le_length hcl
      have hb4' : t.count 47 ≤ 200 := Nat.le_trans List.count_le_length hcl2
      have hrm : room (parts t) ≤ 201 := by have := parts_sum t _ rfl; unfold room; omega
      clear hown3 hown4 hB2 hb3 hb4 hG1 hG2 hG3
      rw [hl3] at r3 hc3
      rw [hl4] at r4 hc4
      rw [hl3, hl4]
      clear hl3 hl4
      unfold relL at HR
      generalize f.count 47 = n at *
      generalize t.count 47 = m at *
      generalize parts f = ps at *
      generalize parts t = qs at *
      obtain ⟨ad4, rfl, ha4⟩ := r4.str (k := m) (by omega)
      go_wp2
      go_quiet (fail)
      go_wp2
      have r3' := r3.take (k := n) (by omega)
      have r4' := r4.take (k := m) (by omega)
      rw [Nat.mul_one, strs_take] at r3' r4'
      have HM := Lib.hid (room_take qs m)
      have hlast := room_getD qs m
      clear ha4 r3 r4
      unfold relR at HR
      generalize qs[m]?.getD [] = last at *
      generalize ps.take n = ps' at *
      generalize qs.take m = qs' at *
      go_loopw [7, 8] (fun v u wr => ∃ (h k : List (List UInt8)) (A B : Option Addr) (i j c d : Nat), v = .slice A i c ∧ u = .slice B j d ∧ i ≤ c ∧ j ≤ d ∧ i ≤ 200 ∧ j ≤ 200 ∧ Rd w4 w4.heap.size 1 A i (strs h) ∧ Rd w4 w4.heap.size 1 B j (strs k) ∧ Below w4.heap.size w4 wr ∧
          Hid (stripC ps' qs' = stripC h k ∧ room k ≤ 201)) (fun v _ _ => match v with | .slice _ n _ => n | _ => 0)
      case atStart => exact ⟨ps', qs', _, _, _, _, _, _, rfl, rfl, by omega, by omega, by omega, by omega, r3', r4', below_of_drewN _ _ _, rfl, Nat.le_trans HM.out hrm⟩
      case round =>
        obtain ⟨h, k, A, B', i, j, c, d, rfl, rfl, hic, hjd, hi2, hj2, rh, rk, hbr, hr⟩ := hrel
        have Lh := Lib.hid rh.strs_length; have Lk := Lib.hid rk.strs_length
        have hcase : (∃ x h' k', h = x :: h' ∧ k = x :: k') ∨ (stripC h k = (h, k) ∧ ((i ≤ 0) ∨ (0 < i ∧ j ≤ 0) ∨ (∃ x y h' k', 0 < i ∧ 0 < j ∧ h = x :: h' ∧ k = y :: k' ∧ x ≠ y))) := by
          have l1 := Lh.out; have l2 := Lk.out
          cases h with
          | nil => right; simp at l1; exact ⟨by unfold stripC; rfl, .inl (by omega)⟩
          | cons x h' => cases k with
            | nil => right; simp at l1 l2; exact ⟨by unfold stripC; rfl, .inr (.inl ⟨by omega, by omega⟩)⟩
            | cons y k' =>
              simp at l1 l2
              by_cases e : x = y
              · subst e; exact .inl ⟨x, h', k', rfl, rfl⟩
              · right; exact ⟨by rw [stripC, if_neg e], .inr (.inr ⟨x, y, h', k', by omega, by omega, rfl, rfl, e⟩)⟩
        rcases hcase with ⟨x, h', k', rfl, rfl⟩ | ⟨hst, hcase⟩
        · have hi0 : 0 < i := by have := Lh.out; simp at this; omega
          have hj0 : 0 < j := by have := Lk.out; simp at this; omega
          have rh' := rh.cut (k := 1) (by omega) hic
          have rk' := rk.cut (k := 1) (by omega) hjd
          obtain ⟨ad, rfl, ca⟩ := (rh.below hbr).str hi0
          obtain ⟨bd, rfl, cb⟩ := (rk.below hbr).str hj0
          have ca0 : wr.cell? ad = some (.string (B x)) := ca
          have cb0 : wr.cell? bd = some (.string (B x)) := cb
          have HS : Hid (stripC ps' qs' = stripC h' k' ∧ room k' ≤ 201) := ⟨by rw [hr.out.1, stripC, if_pos rfl], by have := hr.out.2; simp [room] at this ⊢; omega⟩
          clear ca cb
          go_wp2
          go_quiet (fail)
          go_wp2
          go_quiet (fail)
          go_wp2
          go_roundw
          case rel => exact ⟨h', k', _, _, _, _, _, _, rfl, rfl, by omega, by omega, by omega, by omega, rh', rk', below_drewN (below_drewN hbr _) _, HS.out⟩
          case measure => show i - 1 < i; omega
        · have HF : Hid (RelRet a.toList b.toList = Ending.returned (.tuple #[.string (B (ups i ++ slashed k ++ last)), .int .i64 0]) ∧ room k ≤ 201) := by
            refine ⟨?_, hr.out.2⟩
            rw [HR.out, hr.out.1, hst]
            show _ = Ending.returned (.tuple #[.string (B (ups i ++ slashed k ++ last)), .int .i64 0])
            rw [Lh.out]
          clear hst
          have hwe : ∀ (x y : List UInt8) (h' k' : List (List UInt8)), h = x :: h' → k = y :: k' → 0 < i → 0 < j → ∃ ad bd, A = some ad ∧ B' = some bd ∧ wr.cell? ad = some (.string (B x)) ∧ wr.cell? bd = some (.string (B y)) := by
            rintro x y h' k' rfl rfl h1 h2
            obtain ⟨ad, rfl, ca⟩ := (rh.below hbr).str h1
            obtain ⟨bd, rfl, cb⟩ := (rk.below hbr).str h2
            exact ⟨ad, bd, rfl, rfl, ca, cb⟩
          have HW := Lib.hid hwe; clear hwe
          have hbrs := hbr.size
          obtain ⟨wo, rfl⟩ : ∃ wo : World, wo = wr := ⟨_, rfl⟩
          rcases hcase with hc | ⟨hc, hc2⟩ | ⟨x, y, h', k', hc, hc2, e1, e2, hxy⟩
          · have hd : decide (0 < (i : Int)) = false := by simp; omega
            have hd' : decide (0 < i) = false := by simp; omega
            clear HW
            go_wp2
            go_quiet (fail)
            go_wp2
            go_loopw [72] (fun x w5 => ∃ p : Nat, p ≤ i ∧ x = .int .i64 p ∧ Bd w5 wo.heap.size (ups p) ∧ Below w4.heap.size w4 w5 ∧ wo.heap.size ≤ w5.heap.size) (fun x _ => i - (intOf x).toNat)
            case atStart => exact ⟨0, Nat.zero_le _, rfl, Bd.new _, (below_drewN hbr _).alloc hbrs _, by simp⟩
            case round =>
              obtain ⟨p, hp, rfl, hbd, hb5, hs5⟩ := hrel
              obtain ⟨w5, rfl⟩ : ∃ w5 : World, w5 = wr := ⟨_, rfl⟩
              by_cases hlt : p < i
              · have hul := ups_len p
                have z3 : (⟨#[46, 46, 47]⟩ : ByteArray).size = 3 := rfl
                go_wp2_with fail
                with_reducible refine (writeString_any wo.heap.size (ups p) _ _ hbd (by rw [z3]; omega)).mono ?_
                rintro e w6 ⟨rfl, hbd6, hk6⟩
                have e3 : (⟨#[46, 46, 47]⟩ : ByteArray).toList = [46, 46, 47] := B_data _
                rw [e3, ← ups_succ] at hbd6
                have hs6 := hk6.1.size
                clear e3
                go_wp2
                go_roundw
                case rel => exact ⟨p + 1, by omega, by go_num, hbd6, hb5.trans (hk6.1.mono hbrs), by omega⟩
                case measure => simp [intOf]; omega
              · obtain rfl : p = i := by omega
                have rk5 := rk.below hb5
                have hul := ups_len p
                go_wp2
                go_loopw [78] (fun x w6 => ∃ q : Nat, q ≤ j ∧ x = .int .i64 q ∧ Bd w6 wo.heap.size (ups p ++ slashed (k.take q)) ∧ Below w4.heap.size w4 w6) (fun x _ => j - (intOf x).toNat)
                case atStart => exact ⟨0, Nat.zero_le _, rfl, by rw [List.take_zero]; simpa [slashed] using hbd, hb5⟩
                case round =>
                  obtain ⟨q, hq, rfl, hbd, hb6⟩ := hrel
                  obtain ⟨w6, rfl⟩ : ∃ w6 : World, w6 = wr := ⟨_, rfl⟩
                  have hsl := slashed_len (k.take q)
                  have hsr := room_take k q
                  have hrk := HF.out.2
                  by_cases hltq : q < j
                  · obtain ⟨bd2, hE, cb⟩ := (rk.below hb6).str hltq
                    cases hE
                    have HSS := Lib.hid (slashed_step k q (by rw [Lk.out]; exact hltq))
                    have hgl := room_getD k q
                    go_wp2_with fail
                    with_reducible refine (writeString_any wo.heap.size _ _ _ hbd (by rw [B_size, List.length_append, hul]; omega)).mono ?_
                    rintro e w7 ⟨rfl, hbd7, hk7⟩
                    rw [B_data] at hbd7
                    have z1 : (⟨#[47]⟩ : ByteArray).size = 1 := rfl
                    go_wp2_with fail
                    with_reducible refine (writeString_any wo.heap.size _ _ _ hbd7 (by rw [z1, List.length_append, List.length_append, hul]; omega)).mono ?_
                    rintro e w8 ⟨rfl, hbd8, hk8⟩
                    have e1 : (⟨#[47]⟩ : ByteArray).toList = [47] := B_data _
                    rw [e1] at hbd8
                    clear e1
                    go_wp2
                    go_roundw
                    case rel => exact ⟨q + 1, by omega, by go_num, by rw [HSS.out]; simpa using hbd8, (hb6.trans (hk7.1.mono hbrs)).trans (hk8.1.mono hbrs)⟩
                    case measure => simp [intOf]; omega
                  · have HT : Hid (k.take q = k) := by exact List.take_of_length_le (by rw [Lk.out]; omega)
                    rw [HT.out] at hbd hsl
                    go_wp2_with fail
                    with_reducible refine (writeString_any wo.heap.size _ _ _ hbd (by rw [B_size, List.length_append, hul]; omega)).mono ?_
                    rintro e w7 ⟨rfl, hbd7, hk7⟩
                    rw [B_data] at hbd7
                    go_wp2_with fail
                    with_reducible refine (string_any wo.heap.size _ _ hbd7).mono ?_
                    rintro e w8 ⟨rfl, hbd8, hk8⟩
                    go_wp2
                    go_ret2
                    exact ⟨by rw [HF.out.1, List.append_assoc]; rfl, hB4.trans (((hb6.trans (hk7.1.mono hbrs)).trans (hk8.1.mono hbrs)).mono hz4)⟩
          · have hd : decide (0 < (j : Int)) = false := by simp; omega
            have hd' : decide (0 < j) = false := by simp; omega
            clear HW
            go_wp2
            go_quiet (fail)
            go_wp2
            go_loopw [72] (fun x w5 => ∃ p : Nat, p ≤ i ∧ x = .int .i64 p ∧ Bd w5 wo.heap.size (ups p) ∧ Below w4.heap.size w4 w5 ∧ wo.heap.size ≤ w5.heap.size) (fun x _ => i - (intOf x).toNat)
            case atStart => exact ⟨0, Nat.zero_le _, rfl, Bd.new _, (below_drewN hbr _).alloc hbrs _, by simp⟩
            case round =>
              obtain ⟨p, hp, rfl, hbd, hb5, hs5⟩ := hrel
              obtain ⟨w5, rfl⟩ : ∃ w5 : World, w5 = wr := ⟨_, rfl⟩
              by_cases hlt : p < i
              · have hul := ups_len p
                have z3 : (⟨#[46, 46, 47]⟩ : ByteArray).size = 3 := rfl
                go_wp2_with fail
                with_reducible refine (writeString_any wo.heap.size (ups p) _ _ hbd (by rw [z3]; omega)).mono ?_
                rintro e w6 ⟨rfl, hbd6, hk6⟩
                have e3 : (⟨#[46, 46, 47]⟩ : ByteArray).toList = [46, 46, 47] := B_data _
                rw [e3, ← ups_succ] at hbd6
                have hs6 := hk6.1.size
                clear e3
                go_wp2
                go_roundw
                case rel => exact ⟨p + 1, by omega, by go_num, hbd6, hb5.trans (hk6.1.mono hbrs), by omega⟩
                case measure => simp [intOf]; omega
              · obtain rfl : p = i := by omega
                have rk5 := rk.below hb5
                have hul := ups_len p
                go_wp2
                go_loopw [78] (fun x w6 => ∃ q : Nat, q ≤ j ∧ x = .int .i64 q ∧ Bd w6 wo.heap.size (ups p ++ slashed (k.take q)) ∧ Below w4.heap.size w4 w6) (fun x _ => j - (intOf x).toNat)
                case atStart => exact ⟨0, Nat.zero_le _, rfl, by rw [List.take_zero]; simpa [slashed] using hbd, hb5⟩
                case round =>
                  obtain ⟨q, hq, rfl, hbd, hb6⟩ := hrel
                  obtain ⟨w6, rfl⟩ : ∃ w6 : World, w6 = wr := ⟨_, rfl⟩
                  have hsl := slashed_len (k.take q)
                  have hsr := room_take k q
                  have hrk := HF.out.2
                  by_cases hltq : q < j
                  · obtain ⟨bd2, hE, cb⟩ := (rk.below hb6).str hltq
                    cases hE
                    have HSS := Lib.hid (slashed_step k q (by rw [Lk.out]; exact hltq))
                    have hgl := room_getD k q
                    go_wp2_with fail
                    with_reducible refine (writeString_any wo.heap.size _ _ _ hbd (by rw [B_size, List.length_append, hul]; omega)).mono ?_
                    rintro e w7 ⟨rfl, hbd7, hk7⟩
                    rw [B_data] at hbd7
                    have z1 : (⟨#[47]⟩ : ByteArray).size = 1 := rfl
                    go_wp2_with fail
                    with_reducible refine (writeString_any wo.heap.size _ _ _ hbd7 (by rw [z1, List.length_append, List.length_append, hul]; omega)).mono ?_
                    rintro e w8 ⟨rfl, hbd8, hk8⟩
                    have e1 : (⟨#[47]⟩ : ByteArray).toList = [47] := B_data _
                    rw [e1] at hbd8
                    clear e1
                    go_wp2
                    go_roundw
                    case rel => exact ⟨q + 1, by omega, by go_num, by rw [HSS.out]; simpa using hbd8, (hb6.trans (hk7.1.mono hbrs)).trans (hk8.1.mono hbrs)⟩
                    case measure => simp [intOf]; omega
                  · have HT : Hid (k.take q = k) := by exact List.take_of_length_le (by rw [Lk.out]; omega)
                    rw [HT.out] at hbd hsl
                    go_wp2_with fail
                    with_reducible refine (writeString_any wo.heap.size _ _ _ hbd (by rw [B_size, List.length_append, hul]; omega)).mono ?_
                    rintro e w7 ⟨rfl, hbd7, hk7⟩
                    rw [B_data] at hbd7
                    go_wp2_with fail
                    with_reducible refine (string_any wo.heap.size _ _ hbd7).mono ?_
                    rintro e w8 ⟨rfl, hbd8, hk8⟩
                    go_wp2
                    go_ret2
                    exact ⟨by rw [HF.out.1, List.append_assoc]; rfl, hB4.trans (((hb6.trans (hk7.1.mono hbrs)).trans (hk8.1.mono hbrs)).mono hz4)⟩
          · obtain ⟨ad, bd, rfl, rfl, ca0, cb0⟩ := HW.out x y h' k' e1 e2 hc hc2
            have exy : (x == y) = false := by simpa using hxy
            clear e1 e2 hxy HW
            go_wp2
            go_quiet (fail)
            go_wp2
            go_loopw [72] (fun x w5 => ∃ p : Nat, p ≤ i ∧ x = .int .i64 p ∧ Bd w5 wo.heap.size (ups p) ∧ Below w4.heap.size w4 w5 ∧ wo.heap.size ≤ w5.heap.size) (fun x _ => i - (intOf x).toNat)
            case atStart => exact ⟨0, Nat.zero_le _, rfl, Bd.new _, (below_drewN hbr _).alloc hbrs _, by simp⟩
            case round =>
              obtain ⟨p, hp, rfl, hbd, hb5, hs5⟩ := hrel
              obtain ⟨w5, rfl⟩ : ∃ w5 : World, w5 = wr := ⟨_, rfl⟩
              by_cases hlt : p < i
              · have hul := ups_len p
                have z3 : (⟨#[46, 46, 47]⟩ : ByteArray).size = 3 := rfl
                go_wp2_with fail
                with_reducible refine (writeString_any wo.heap.size (ups p) _ _ hbd (by rw [z3]; omega)).mono ?_
                rintro e w6 ⟨rfl, hbd6, hk6⟩
                have e3 : (⟨#[46, 46, 47]⟩ : ByteArray).toList = [46, 46, 47] := B_data _
                rw [e3, ← ups_succ] at hbd6
                have hs6 := hk6.1.size
                clear e3
                go_wp2
                go_roundw
                case rel => exact ⟨p + 1, by omega, by go_num, hbd6, hb5.trans (hk6.1.mono hbrs), by omega⟩
                case measure => simp [intOf]; omega
              · obtain rfl : p = i := by omega
                have rk5 := rk.below hb5
                have hul := ups_len p
                go_wp2
                go_loopw [78] (fun x w6 => ∃ q : Nat, q ≤ j ∧ x = .int .i64 q ∧ Bd w6 wo.heap.size (ups p ++ slashed (k.take q)) ∧ Below w4.heap.size w4 w6) (fun x _ => j - (intOf x).toNat)
                case atStart => exact ⟨0, Nat.zero_le _, rfl, by rw [List.take_zero]; simpa [slashed] using hbd, hb5⟩
                case round =>
                  obtain ⟨q, hq, rfl, hbd, hb6⟩ := hrel
                  obtain ⟨w6, rfl⟩ : ∃ w6 : World, w6 = wr := ⟨_, rfl⟩
                  have hsl := slashed_len (k.take q)
                  have hsr := room_take k q
                  have hrk := HF.out.2
                  by_cases hltq : q < j
                  · obtain ⟨bd2, hE, cb⟩ := (rk.below hb6).str hltq
                    cases hE
                    have HSS := Lib.hid (slashed_step k q (by rw [Lk.out]; exact hltq))
                    have hgl := room_getD k q
                    go_wp2_with fail
                    with_reducible refine (writeString_any wo.heap.size _ _ _ hbd (by rw [B_size, List.length_append, hul]; omega)).mono ?_
                    rintro e w7 ⟨rfl, hbd7, hk7⟩
                    rw [B_data] at hbd7
                    have z1 : (⟨#[47]⟩ : ByteArray).size = 1 := rfl
                    go_wp2_with fail
                    with_reducible refine (writeString_any wo.heap.size _ _ _ hbd7 (by rw [z1, List.length_append, List.length_append, hul]; omega)).mono ?_
                    rintro e w8 ⟨rfl, hbd8, hk8⟩
                    have e1 : (⟨#[47]⟩ : ByteArray).toList = [47] := B_data _
                    rw [e1] at hbd8
                    clear e1
                    go_wp2
                    go_roundw
                    case rel => exact ⟨q + 1, by omega, by go_num, by rw [HSS.out]; simpa using hbd8, (hb6.trans (hk7.1.mono hbrs)).trans (hk8.1.mono hbrs)⟩
                    case measure => simp [intOf]; omega
                  · have HT : Hid (k.take q = k) := by exact List.take_of_length_le (by rw [Lk.out]; omega)
                    rw [HT.out] at hbd hsl
                    go_wp2_with fail
                    with_reducible refine (writeString_any wo.heap.size _ _ _ hbd (by rw [B_size, List.length_append, hul]; omega)).mono ?_
                    rintro e w7 ⟨rfl, hbd7, hk7⟩
                    rw [B_data] at hbd7
                    go_wp2_with fail
                    with_reducible refine (string_any wo.heap.size _ _ hbd7).mono ?_
                    rintro e w8 ⟨rfl, hbd8, hk8⟩
                    go_wp2
                    go_ret2
                    exact ⟨by rw [HF.out.1, List.append_assoc]; rfl, hB4.trans (((hb6.trans (hk7.1.mono hbrs)).trans (hk8.1.mono hbrs)).mono hz4)⟩

end Go.Proofs.YtpbampchhpkpbaaDoor
