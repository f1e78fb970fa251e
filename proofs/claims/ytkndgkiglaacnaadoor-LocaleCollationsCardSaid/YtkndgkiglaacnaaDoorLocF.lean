/-
  Layer 28 (locale): enumerations, on both sides.
-/
import Derived.Test.YtkndgkiglaacnaaDoorLocB
import Derived.Test.YtkndgkiglaacnaaDoorLocD
import Derived.Deep.RegionHeld3
namespace Go.Proofs.YtkndgkiglaacnaaDoor
set_option linter.unusedSimpArgs false
open Go.RowKit
set_option linter.unusedVariables false
attribute [local go_sem] B_data B_size

theorem addr_lit (b o j : Nat) : (⟨b, o, none⟩ : Addr).add j = ⟨b, o + j, none⟩ := by unfold Addr.add; split <;> simp_all
/-- texts, a comma and a space between -/
def joinC (ls : List (List UInt8)) : List UInt8 := Lib.join ls [44, 32]
theorem joinC_one (l : List UInt8) : joinC [l] = l := Lib.join_one l [44, 32]
theorem joinC_snoc (ls : List (List UInt8)) (l : List UInt8) (h : ls ≠ []) : joinC (ls ++ [l]) = joinC ls ++ [44, 32] ++ l := by
  cases ls with
  | nil => exact absurd rfl h
  | cons x r =>
    unfold joinC
    rw [List.cons_append, Lib.join_cons, Lib.join_cons]
    unfold Lib.joinTail
    simp
theorem take_getC (ls : List (List UInt8)) (k : Nat) (h : k < ls.length) : ls.take (k + 1) = ls.take k ++ [ls.getD k []] := by
  rw [List.take_succ_eq_append_getElem h]; simp [h]
theorem joinC_step (ls : List (List UInt8)) (k : Nat) (h : k < ls.length) : joinC (ls.take (k + 1)) = (if k = 0 then [] else joinC (ls.take k) ++ [44, 32]) ++ ls.getD k [] := by
  rw [take_getC ls k h]
  by_cases h0 : k = 0
  · subst h0; rw [if_pos rfl]; simpa using joinC_one _
  · rw [if_neg h0, joinC_snoc _ _ (by
      intro e
      rw [List.take_eq_nil_iff] at e
      rcases e with e | e
      · exact h0 e
      · rw [e] at h; simp at h)]
theorem joinC_len (ls : List (List UInt8)) (hl : ∀ x ∈ ls, x.length ≤ 100) (k : Nat) (hk : k ≤ ls.length) : (joinC (ls.take k)).length ≤ 102 * k := by
  induction k with
  | zero => simp [joinC, Lib.join_nil]
  | succ k ih =>
    rw [joinC_step ls k (by omega)]
    have := ih (by omega)
    have h1 : (ls.getD k []).length ≤ 100 := hl _ (by simp [show k < ls.length from by omega])
    by_cases h0 : k = 0
    · rw [if_pos h0]; simp only [List.nil_append]; omega
    · rw [if_neg h0]; simp only [List.length_append, List.length_cons, List.length_nil]; omega

theorem sjoinC_any (A : Option Addr) (n c : Nat) (ls : List (List UInt8)) (w : World) (hr : Rd w w.heap.size 1 A n (strs ls)) (hc : n ≤ c) (hn : n ≤ 140737488355328) (hlen : (joinC ls).length ≤ 140737488355328) :
    Calls Tryd.prog 40 #[.slice A n c, .string ⟨#[44, 32]⟩] w fun e w' => e = .returned (.string (B (joinC ls))) ∧ Below w.heap.size w w' := by
  have hl := hr.strs_length
  rcases Nat.eq_zero_or_pos n with h0 | h0
  · subst h0
    have e : ls = [] := List.eq_nil_of_length_eq_zero hl
    subst e
    exact (Tryd.strings_Join_none A c ⟨#[44, 32]⟩ w).mono fun _ _ ⟨h1, h2⟩ => ⟨h1, by rw [h2]; exact Below.refl _ _⟩
  · obtain ⟨ad, rfl, hb, hcell⟩ := hr.2 h0
    obtain ⟨bk, o, spot⟩ := ad
    have hx0 := hcell 0 _ (List.getElem?_eq_getElem (by rw [strs_len]; omega))
    have hsp : spot = none := by simpa [Addr.add] using World.cell?_spot hx0
    subst hsp
    have e1 : (ls.map B).map (·.data.toList) = ls := by rw [List.map_map]; conv => rhs; rw [← List.map_id ls]
                                                        apply List.map_congr_left; intro l _; simp [B]
    have h := Tryd.strings_Join bk o c (ls.map B) ⟨#[44, 32]⟩ w (fun j x hj => ?_) hb (by rw [List.length_map, hl]; exact hn) (by rw [List.length_map, hl]; exact hc) (by rw [e1]; exact hlen)
    · rw [List.length_map, hl, e1] at h
      exact h
    · rw [← addr_lit]
      refine hcell j _ ?_
      unfold strs
      rw [List.getElem?_map] at hj ⊢
      cases hk : ls[j]? with
      | none => rw [hk] at hj; simp at hj
      | some l => rw [hk] at hj; simp at hj; simp [hj]

/-- and, in a language -/
def andL (l : List UInt8) : List UInt8 := termS l [97, 110, 100] 1
theorem and_len (l : List UInt8) : (andL l).length ≤ 3 := by
  rcases lang_cases l with rfl | rfl | rfl | rfl | ⟨_, _, _, _, h⟩
  · decide +kernel
  · decide +kernel
  · decide +kernel
  · decide +kernel
  · unfold andL termS termF; rw [h]; decide
def andB (l : List UInt8) : Bool := termB l [97, 110, 100]
/-- the enumeration of texts -/
def listL (l : List UInt8) (ls : List (List UInt8)) : List UInt8 :=
  if andB l = true ∧ 2 ≤ ls.length then joinC (ls.take (ls.length - 1)) ++ [32] ++ andL l ++ [32] ++ ls.getD (ls.length - 1) [] else joinC ls
theorem rd_strb {w : World} {M n k : Nat} {A : Option Addr} {ls : List (List UInt8)} (h : Rd w M 1 A n (strs ls)) (hk : k < n) :
    ∃ b o, A = some ⟨b, o, none⟩ ∧ b < M ∧ w.cell? ⟨b, o + k, none⟩ = some (.string (B (ls.getD k []))) := by
  obtain ⟨ad, e, hb, hc⟩ := h.2 (by omega)
  have hl : k < (strs ls).length := by have := h.1; omega
  obtain ⟨b, o, spot⟩ := ad
  have hx0 := hc 0 _ (List.getElem?_eq_getElem (by omega))
  have hsp : spot = none := by simpa [Addr.add] using World.cell?_spot hx0
  subst hsp
  have hk' := hc k _ (List.getElem?_eq_getElem hl)
  rw [addr_lit, strs_at (List.getElem?_eq_getElem hl)] at hk'
  exact ⟨b, o, e, hb, hk'⟩
theorem rd_takeS {w : World} {M n k : Nat} {A : Option Addr} {ls : List (List UInt8)} (h : Rd w M 1 A n (strs ls)) (hk : k ≤ n) : Rd w M 1 A k (strs (ls.take k)) := by
  refine ⟨by rw [strs_len, List.length_take, h.strs_length]; omega, fun h0 => ?_⟩
  obtain ⟨ad, e, hb, hc⟩ := h.2 (by omega)
  refine ⟨ad, e, hb, fun j u hj => hc j u ?_⟩
  unfold strs at hj ⊢
  rw [List.map_take, List.getElem?_take] at hj
  split at hj
  · exact hj
  · cases hj

theorem str_add {P : Program} (a b : ByteArray) (w : World) (h : a.size + b.size ≤ 9223372036854775807) : (Op.stringOp .add a b).run P w = .ok (.string (a ++ b)) w := by
  unfold Op.stringOp
  simp only
  rw [if_neg (by simp only [show IntKind.i64.max = 9223372036854775807 from rfl]; omega)]
  rfl
set_option maxHeartbeats 2000000 in
theorem list_any (l : List UInt8) (A : Option Addr) (n c : Nat) (ls : List (List UInt8)) (w : World) (hr : Rd w w.heap.size 1 A n (strs ls)) (hc : n ≤ c) (hn : n ≤ 60) (hl : ∀ x ∈ ls, x.length ≤ 100) :
    Calls Tryd.prog 19 #[.string (B l), .slice A n c] w fun e w' => e = .returned (.string (B (listL l ls))) ∧ Below w.heap.size w w' := by
  have HL := Lib.hid hr.strs_length
  have HJ := Lib.hid (joinC_len ls hl)
  have hal := and_len l
  have C := term_any l [97, 110, 100] 1 w
  unfold TermRet at C
  have HC : Hid (Calls Tryd.prog 10 #[.string (B l), .string (B [97, 110, 100]), .int .i64 1] w fun e w' => e = .returned (.tuple #[.string (B (andL l)), .bool (andB l)]) ∧ Below w.heap.size w w') := C
  clear C
  have HX : Hid (∀ x, listL l ls = x → Ending.returned (.string (B x)) = .returned (.string (B (listL l ls)))) := fun x e => by rw [e]
  by_cases hcase : andB l = true ∧ 2 ≤ n
  · obtain ⟨h1, h2⟩ := hcase
    obtain ⟨m, rfl⟩ : ∃ m, n = m + 1 := ⟨n - 1, by omega⟩
    have HE : Hid (listL l ls = joinC (ls.take m) ++ [32] ++ andL l ++ [32] ++ ls.getD m []) := by
      unfold listL Hid
      rw [if_pos ⟨h1, by rw [HL.out]; exact h2⟩, HL.out]
      rfl
    rw [h1] at HC
    have hjl := HJ.out m (by rw [HL.out]; omega)
    have hxl : (ls.getD m []).length ≤ 100 := hl _ (by simp [show m < ls.length from by rw [HL.out]; omega])
    clear h1 HJ hl
    obtain ⟨b, o, rfl, hb0, hc0⟩ := rd_strb (k := m) hr (by omega)
    go_enter Tryd.func19, Tryd.ntmps19
    go_wp2_with fail
    refine HC.out.mono ?_
    rintro e w1 ⟨rfl, hb1⟩
    have hr1 := (hr.below hb1).more hb1.size
    have hrt := rd_takeS hr1 (k := m) (by omega)
    have c1 : w1.cell? ⟨b, o + m, none⟩ = some (.string (B (ls.getD m []))) := by rw [hb1.cell (p := ⟨b, o + m, none⟩) hb0]; exact hc0
    have hb01 : b < w1.heap.size := Nat.lt_of_lt_of_le hb0 hb1.size
    have d2 : decide ((m : Int) + 1 < 2) = false := by simp; omega
    clear HC hc0 hr
    generalize andL l = al at *
    generalize ls.getD m [] = lx at *
    have HR := Lib.hid hrt
    clear hrt hr1
    go_wp2
    generalize hjx : joinC (ls.take m) = jx at *
    have HJX := Lib.hid hjx
    clear hjx
    have q1 : ∀ W : World, (Op.stringOp .add (B jx) ⟨#[32]⟩).run Tryd.prog W = .ok (.string (B jx ++ ⟨#[32]⟩)) W := fun W => str_add _ _ _ (by have s32 : (⟨#[32]⟩ : ByteArray).size = 1 := rfl; simp [B_size]; omega)
    have q2 : ∀ W : World, (Op.stringOp .add (B jx ++ ⟨#[32]⟩) (B al)).run Tryd.prog W = .ok (.string (B jx ++ ⟨#[32]⟩ ++ B al)) W := fun W => str_add _ _ _ (by have s32 : (⟨#[32]⟩ : ByteArray).size = 1 := rfl; simp [B_size]; omega)
    have q3 : ∀ W : World, (Op.stringOp .add (B jx ++ ⟨#[32]⟩ ++ B al) ⟨#[32]⟩).run Tryd.prog W = .ok (.string (B jx ++ ⟨#[32]⟩ ++ B al ++ ⟨#[32]⟩)) W := fun W => str_add _ _ _ (by have s32 : (⟨#[32]⟩ : ByteArray).size = 1 := rfl; simp [B_size]; omega)
    have q4 : ∀ W : World, (Op.stringOp .add (B jx ++ ⟨#[32]⟩ ++ B al ++ ⟨#[32]⟩) (B lx)).run Tryd.prog W = .ok (.string (B jx ++ ⟨#[32]⟩ ++ B al ++ ⟨#[32]⟩ ++ B lx)) W := fun W => str_add _ _ _ (by have s32 : (⟨#[32]⟩ : ByteArray).size = 1 := rfl; simp [B_size]; omega)
    have CJ : ∀ W : World, Rd W W.heap.size 1 (some ⟨b, o, none⟩) m (strs (ls.take m)) → Calls Tryd.prog 40 #[.slice (some ⟨b, o, none⟩) m c, .string ⟨#[44, 32]⟩] W fun e w' => e = .returned (.string (B jx)) ∧ Below W.heap.size W w' := fun W hW => by
      rw [← HJX.out]; exact sjoinC_any _ m c (ls.take m) W hW (by omega) (by omega) (by rw [HJX.out]; omega)
    have HCJ := Lib.hid CJ
    clear CJ
    have hi2 : (m : Int) ≤ (c : Int) := by omega
    have hi3 : (m : Int) < (m : Int) + 1 := by omega
    go_region_held3 (fun w' => w'.cell? ⟨b, o + m, none⟩ = some (.string (B lx))) (first | exact c1 | (rw [hb2.cell (p := ⟨b, o + m, none⟩) hb01]; exact c1)) (first | (go_at_call 40; refine (HCJ.out w1.drew HR.out).mono ?_; rintro e w2 ⟨rfl, hb2⟩))
    clear q1 q2 q3 q4
    go_wp2
    go_ret
    refine ⟨?_, hb1.drew.trans (hb2.mono hb1.size)⟩
    rw [HE.out]
    show Ending.returned (.string (B jx ++ B [32] ++ B al ++ B [32] ++ B lx)) = _
    rw [B_cat, B_cat, B_cat, B_cat]
  · have HE : Hid (listL l ls = joinC ls) := by
      unfold listL Hid
      rw [if_neg (fun h => hcase ⟨h.1, by rw [← HL.out]; exact h.2⟩)]
    have hjl := HJ.out n (by rw [HL.out]; omega)
    rw [List.take_of_length_le (by rw [HL.out]; omega)] at hjl
    by_cases h1 : andB l = true
    · have h2 : n < 2 := Nat.not_le.1 (fun h => hcase ⟨h1, h⟩)
      rw [h1] at HC
      have d2 : decide (n < 2) = true := by simpa using h2
      have d3 : decide ((n : Int) < 2) = true := by simp; omega
      clear h1 hcase HJ hl
      go_enter Tryd.func19, Tryd.ntmps19
      go_wp2_with fail
      refine HC.out.mono ?_
      rintro e w1 ⟨rfl, hb1⟩
      have hr1 := (hr.below hb1).more hb1.size
      go_wp2_with fail
      refine (sjoinC_any A n c ls w1 hr1 hc (by omega) (by omega)).mono ?_
      rintro e w2 ⟨rfl, hb2⟩
      go_wp2
      go_ret
      exact ⟨by rw [HE.out]; rfl, hb1.trans (hb2.mono hb1.size)⟩
    · rw [show andB l = false from by simpa using h1] at HC
      clear h1 hcase HJ hl
      go_enter Tryd.func19, Tryd.ntmps19
      go_wp2_with fail
      refine HC.out.mono ?_
      rintro e w1 ⟨rfl, hb1⟩
      have hr1 := (hr.below hb1).more hb1.size
      go_wp2_with fail
      refine (sjoinC_any A n c ls w1 hr1 hc (by omega) (by omega)).mono ?_
      rintro e w2 ⟨rfl, hb2⟩
      go_wp2
      go_ret
      exact ⟨by rw [HE.out]; rfl, hb1.trans (hb2.mono hb1.size)⟩

/-- what stands there behind k texts -/
def lstK (l : List UInt8) (ls : List (List UInt8)) (k : Nat) : List UInt8 := if k = ls.length then listL l ls else joinC (ls.take k)
theorem lstK_join {l : List UInt8} {ls : List (List UInt8)} {k : Nat} (h : ¬ (andB l = true ∧ 2 ≤ ls.length ∧ k = ls.length)) : lstK l ls k = joinC (ls.take k) := by
  unfold lstK
  by_cases hk : k = ls.length
  · rw [if_pos hk, hk, List.take_length]
    unfold listL
    rw [if_neg (fun e => h ⟨e.1, e.2, hk⟩)]
  · rw [if_neg hk]
theorem lstK_last {l : List UInt8} {ls : List (List UInt8)} {k : Nat} (h1 : andB l = true) (h2 : 1 ≤ k) (h3 : k + 1 = ls.length) : lstK l ls (k + 1) = joinC (ls.take k) ++ [32] ++ andL l ++ [32] ++ ls.getD k [] := by
  unfold lstK listL
  rw [if_pos h3, if_pos ⟨h1, by omega⟩, show ls.length - 1 = k from by omega]

set_option maxHeartbeats 2000000 in
theorem rlist_any (l : List UInt8) (A : Option Addr) (n c : Nat) (ls : List (List UInt8)) (w : World) (hr : Rd w w.heap.size 1 A n (strs ls)) (hc : n ≤ c) (hn : n ≤ 60) (hl : ∀ x ∈ ls, x.length ≤ 100) :
    Calls Tryd.prog 20 #[.string (B l), .slice A n c] w fun e w' => e = .returned (.string (B (listL l ls))) ∧ Below w.heap.size w w' := by
  have HL := Lib.hid hr.strs_length
  have HJ := Lib.hid (joinC_len ls hl)
  have HXL := Lib.hid hl
  clear hl
  have hal := and_len l
  have C := rterm_any l [97, 110, 100] 1 w
  unfold TermRet at C
  have HC : Hid (Calls Tryd.prog 11 #[.string (B l), .string (B [97, 110, 100]), .int .i64 1] w fun e w' => e = .returned (.tuple #[.string (B (andL l)), .bool (andB l)]) ∧ Below w.heap.size w w') := C
  clear C
  go_enter Tryd.func20, Tryd.ntmps20
  go_wp2_with fail
  refine HC.out.mono ?_
  rintro e w1 ⟨rfl, hb1⟩
  have hr1 := (hr.below hb1).more hb1.size
  clear HC hr
  go_wp2
  go_loop [7, 8] (fun s i => ∃ k : Nat, k ≤ n ∧ i = .int .i64 k ∧ s = .string (B (lstK l ls k))) (fun _ i => n - (intOf i).toNat)
  case atStart =>
    refine ⟨0, Nat.zero_le _, rfl, ?_⟩
    rw [lstK_join (by omega)]
    rfl
  case round =>
    obtain ⟨k, hk, rfl, rfl⟩ := hrel
    by_cases hlt : k < n
    · obtain ⟨b, o, rfl, hb0, hc0⟩ := rd_strb hr1 hlt
      have hkl : k < ls.length := by rw [HL.out]; exact hlt
      have hxl : (ls.getD k []).length ≤ 100 := HXL.out _ (by simp [hkl])
      have HS := Lib.hid (joinC_step ls k hkl)
      have hjl := HJ.out k (by omega)
      rw [lstK_join (by omega)]
      by_cases h0 : k = 0
      · have hz : decide (0 < (k : Int)) = false := by simp; omega
        have hz2 : decide (0 < k) = false := by simp; omega
        have HN : Hid (B (joinC (ls.take k)) ++ B (ls.getD k []) = B (lstK l ls (k + 1))) := by
          rw [lstK_join (by omega), HS.out, if_pos h0, B_cat, h0]; rfl
        have hk0 : k ≤ 0 := by omega
        clear h0 hkl
        generalize joinC (ls.take k) = jx at *
        generalize ls.getD k [] = lx at *
        go_wp2
        go_round
        case rel => exact ⟨k + 1, by omega, by go_num, by rw [HN.out]⟩
        case measure => simp [intOf]; omega
      · have hz : decide (0 < (k : Int)) = true := by simp; omega
        have hz2 : decide (0 < k) = true := by simp; omega
        have hkp : 0 < k := by omega
        by_cases hla : k + 1 = n ∧ andB l = true
        · have HN : Hid (B (joinC (ls.take k)) ++ B [32] ++ B (andL l) ++ B [32] ++ B (ls.getD k []) = B (lstK l ls (k + 1))) := by
            rw [lstK_last hla.2 (by omega) (by rw [HL.out]; exact hla.1), B_cat, B_cat, B_cat, B_cat]; rfl
          have hq : ((k : Int) == (n : Int) - 1) = true := by simp; omega
          have hab := hla.2
          rw [hab]
          clear h0 hkl hla hab
          generalize joinC (ls.take k) = jx at *
          generalize ls.getD k [] = lx at *
          generalize andL l = al at *
          go_wp2
          go_round
          case rel => exact ⟨k + 1, by omega, by go_num, by rw [← HN.out]; rfl⟩
          case measure => simp [intOf]; omega
        · have HN : Hid (B (joinC (ls.take k)) ++ B [44, 32] ++ B (ls.getD k []) = B (lstK l ls (k + 1))) := by
            rw [lstK_join (fun e => hla ⟨by rw [← HL.out]; exact e.2.2, e.1⟩), HS.out, if_neg h0, B_cat, B_cat]; rfl
          by_cases hkn : k + 1 = n
          · have hab : andB l = false := by
              have := fun h => hla ⟨hkn, h⟩
              simpa using this
            have hq : ((k : Int) == (n : Int) - 1) = true := by simp; omega
            rw [hab]
            clear h0 hkl hla hab hkn
            generalize joinC (ls.take k) = jx at *
            generalize ls.getD k [] = lx at *
            go_wp2
            go_round
            case rel => exact ⟨k + 1, by omega, by go_num, by rw [← HN.out]; rfl⟩
            case measure => simp [intOf]; omega
          · have hq : ((k : Int) == (n : Int) - 1) = false := by simp; omega
            generalize andB l = ab at *
            clear h0 hkl hla hkn
            generalize joinC (ls.take k) = jx at *
            generalize ls.getD k [] = lx at *
            go_wp2
            go_round
            case rel => exact ⟨k + 1, by omega, by go_num, by rw [← HN.out]; rfl⟩
            case measure => simp [intOf]; omega
    · obtain rfl : k = n := by omega
      have HE : Hid (lstK l ls k = listL l ls) := by unfold lstK; rw [if_pos HL.out.symm]; rfl
      rw [HE.out]
      go_wp2
      go_ret
      exact ⟨rfl, hb1⟩
end Go.Proofs.YtkndgkiglaacnaaDoor
