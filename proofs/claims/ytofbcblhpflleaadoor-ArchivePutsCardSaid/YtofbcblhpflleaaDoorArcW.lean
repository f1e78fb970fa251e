/-
  Layer 35 (archive): the chapter's Archive.
-/
import Derived.Test.YtofbcblhpflleaaDoorArcV
namespace Go.Proofs.YtofbcblhpflleaaDoor
open Go.RowKit
set_option linter.unusedVariables false
attribute [local go_sem] B_data B_size

theorem str_add {P : Program} (a b : ByteArray) (w : World) (h : a.size + b.size ≤ 9223372036854775807) : (Op.stringOp .add a b).run P w = .ok (.string (a ++ b)) w := by
  unfold Op.stringOp
  simp only [ByteArray.size_append]
  rw [if_neg (by simp only [show IntKind.i64.max = 9223372036854775807 from rfl]; omega)]
  rfl
theorem cat_step (X Y : List UInt8) (y : ByteArray) (hy : y = B Y) (k : Nat) (hk : Y.length = k) (h : X.length + k ≤ 9000000000) :
    ∃ Z, Z = X ++ Y ∧ Z.length = X.length + k ∧ ∀ W, (Op.stringOp .add (B X) y).run Tryd.prog W = .ok (.string (B Z)) W := by
  subst hy
  subst hk
  refine ⟨_, rfl, by simp, fun W => ?_⟩
  rw [str_add _ _ _ (by rw [B_size, B_size]; omega), B_app]
theorem cell_drew {w : World} {p : Addr} {v : Value} (h : w.cell? p = some v) : w.drew.cell? p = some v := h
theorem cens_snoc : ∀ (fs : List (List UInt8 × List UInt8)) (ss : List Nat) (f : List UInt8 × List UInt8) (s off : Nat), fs.length = ss.length →
    cens (fs ++ [f]) (ss ++ [s]) off = cens fs ss off ++ (cenP f s (off + sizes fs)).flatten := by
  intro fs
  induction fs with
  | nil =>
    intro ss f s off h
    obtain rfl : ss = [] := List.length_eq_zero_iff.1 h.symm
    simp [cens, sizes]
  | cons g r ih =>
    intro ss f s off h
    cases ss with
    | nil => simp at h
    | cons t q =>
      have e : sizes (g :: r) = sizeF g + sizes r := by simp [sizes]
      rw [List.cons_append, List.cons_append, cens, cens, ih q f s _ (by simpa using h), e, List.append_assoc, Nat.add_assoc]
/-- the directory's list behind k files -/
def cenK (fs : List (List UInt8 × List UInt8)) (k : Nat) : List UInt8 := cens (fs.take k) (crcs (fs.take k)) 0
theorem cenK_succ (fs : List (List UInt8 × List UInt8)) (k : Nat) (h : k < fs.length) : cenK fs (k + 1) = cenK fs k ++ (cenP (fs[k]?.getD ([], [])) (crc (fs[k]?.getD ([], [])).2) (sizes (fs.take k))).flatten := by
  have e : fs.take (k + 1) = fs.take k ++ [fs[k]?.getD ([], [])] := by
    rw [List.take_succ_eq_append_getElem h, List.getElem?_eq_getElem h]; rfl
  unfold cenK
  rw [e]
  have := cens_snoc (fs.take k) (crcs (fs.take k)) (fs[k]?.getD ([], [])) (crc (fs[k]?.getD ([], [])).2) 0 (by simp [crcs])
  rw [Nat.zero_add] at this
  rw [← this]
  simp [crcs]

set_option maxHeartbeats 8000000 in
set_option maxRecDepth 100000 in
theorem rarchive_any (A : Option Addr) (n c : Nat) (fs : List (List UInt8 × List UInt8)) (w : World) (hx : Rd w w.heap.size 2 A n (fls fs)) (hn : n ≤ 140) (hsm : ∀ f ∈ fs, Small f) :
    Calls Tryd.prog 25 #[.slice A n c] w fun e w' => (∃ m, e = .returned (.tuple #[.string (B (putT fs)), .int .i64 m])) ∧ Below w.heap.size w w' := by
  have HL := Lib.hid hx.fls_length
  have HS := Lib.hid hsm
  clear hsm
  go_enter Tryd.func25, Tryd.ntmps25
  go_wp2
  go_loopw [4, 5, 6] (fun s l i wr => ∃ (k : Nat) (S L : List UInt8), k ≤ n ∧ i = .int .i64 k ∧ s = .string (B S) ∧ l = .string (B L) ∧ S.length ≤ 930 * k ∧ L.length ≤ 346 * k ∧ Hid (S = locs (fs.take k)) ∧ Hid (L = cenK fs k) ∧ Below w.heap.size w wr) (fun _ _ i _ => n - (intOf i).toNat)
  case atStart => exact ⟨0, [], [], Nat.zero_le _, rfl, rfl, rfl, by simp, by simp, rfl, rfl, Below.refl _ _⟩
  case round =>
    obtain ⟨k, S, L, hk, rfl, rfl, rfl, hSl, hLl, hS, hLL, hbw⟩ := hrel
    have hbs := hbw.size
    by_cases hlt : k < n
    · obtain ⟨b, o, rfl, hm, c0, c1⟩ := (hx.below hbw).file hlt
      have hkl : k < fs.length := by rw [HL.out]; exact hlt
      have HT := Lib.hid (locs_take fs k hkl)
      have HC := Lib.hid (cenK_succ fs k hkl)
      have hSL : S.length = sizes (fs.take k) := by rw [hS.out, locs_len]
      have HZ := Lib.hid hSL
      have hfl := HS.out _ (fl_mem fs k hkl)
      clear hSL
      generalize fs[k]?.getD ([], []) = f at *
      obtain ⟨hf1, hf2⟩ := hfl
      have j1 : IntKind.u32.wrap (S.length : Int) = (S.length : Int) := IntWalk.u32_in _ (by omega)
      have i1 : (k : Int) < (n : Int) := by omega
      have i2 : (0 : Int) ≤ (k : Int) := by omega
      have HCO := Lib.hid (fun W => rcommon_any f.1 f.2 W (by omega) (by omega))
      have HC := Lib.hid (show cenK fs (k + 1) = L ++ (cenP f (crc f.2) S.length).flatten by rw [HC.out, ← hLL.out, HZ.out])
      have HT := Lib.hid (show locs (fs.take (k + 1)) = S ++ (locP f (crc f.2)).flatten by rw [HT.out, ← hS.out]; rfl)
      have hlc : (comL f.1.length f.2.length (crc f.2)).length = 26 := com_len _ _ _
      have P20 := Lib.hid (fun W => rle2_int 20 W (by omega) (by omega))
      have P0 := Lib.hid (fun W => rle2_int 0 W (by omega) (by omega))
      have P04 := Lib.hid (fun W => rle4_int 0 W (by omega) (by omega))
      have PS := Lib.hid (fun W => rle4_int (S.length : Int) W (by omega) (by omega))
      rw [show ((20 : Int).toNat) = 20 from rfl] at P20
      rw [show ((0 : Int).toNat) = 0 from rfl] at P0 P04
      rw [Int.toNat_natCast] at PS
      simp only [cenP, locP] at HC HT
      generalize hcm : comL f.1.length f.2.length (crc f.2) = cm at *
      have lp20 : (le2L 20).length = 2 := rfl
      have lp0 : (le2L 0).length = 2 := rfl
      have lp04 : (le4L 0).length = 4 := rfl
      have lpS : (le4L S.length).length = 4 := rfl
      generalize le2L 20 = p20 at *
      generalize le2L 0 = p0 at *
      generalize le4L 0 = p04 at *
      generalize le4L S.length = pS at *
      obtain ⟨X1, eX1, lX1, qX1⟩ := cat_step L [80, 75, 1, 2] ⟨#[80, 75, 1, 2]⟩ rfl 4 rfl (by omega)
      obtain ⟨X2, eX2, lX2, qX2⟩ := cat_step X1 p20 (B p20) rfl 2 lp20 (by omega)
      obtain ⟨X3, eX3, lX3, qX3⟩ := cat_step X2 cm (B cm) rfl 26 hlc (by omega)
      obtain ⟨X4, eX4, lX4, qX4⟩ := cat_step X3 p0 (B p0) rfl 2 lp0 (by omega)
      obtain ⟨X5, eX5, lX5, qX5⟩ := cat_step X4 p0 (B p0) rfl 2 lp0 (by omega)
      obtain ⟨X6, eX6, lX6, qX6⟩ := cat_step X5 p0 (B p0) rfl 2 lp0 (by omega)
      obtain ⟨X7, eX7, lX7, qX7⟩ := cat_step X6 p04 (B p04) rfl 4 lp04 (by omega)
      obtain ⟨X8, eX8, lX8, qX8⟩ := cat_step X7 pS (B pS) rfl 4 lpS (by omega)
      obtain ⟨X9, eX9, lX9, qX9⟩ := cat_step X8 f.1 (B f.1) rfl f.1.length rfl (by omega)
      obtain ⟨Y1, eY1, lY1, qY1⟩ := cat_step S [80, 75, 3, 4] ⟨#[80, 75, 3, 4]⟩ rfl 4 rfl (by omega)
      obtain ⟨Y2, eY2, lY2, qY2⟩ := cat_step Y1 cm (B cm) rfl 26 hlc (by omega)
      obtain ⟨Y3, eY3, lY3, qY3⟩ := cat_step Y2 f.1 (B f.1) rfl f.1.length rfl (by omega)
      obtain ⟨Y4, eY4, lY4, qY4⟩ := cat_step Y3 f.2 (B f.2) rfl f.2.length rfl (by omega)
      have HN2 : Hid (X9 = cenK fs (k + 1)) := by rw [HC.out, eX9, eX8, eX7, eX6, eX5, eX4, eX3, eX2, eX1]; simp [Hid]
      have HN1 : Hid (Y4 = locs (fs.take (k + 1))) := by rw [HT.out, eY4, eY3, eY2, eY1]; simp [Hid]
      have hX9 : X9.length ≤ 346 * (k + 1) := by omega
      have hY4 : Y4.length ≤ 930 * (k + 1) := by omega
      clear HC HT eX1 lX1 eX2 lX2 eX3 lX3 eX4 lX4 eX5 lX5 eX6 lX6 eX7 lX7 eX8 lX8 eX9 lX9 eY1 lY1 eY2 lY2 eY3 lY3 eY4 lY4 lp20 lp0 lp04 lpS hlc hcm
      have hbm : b < w.heap.size := hm
      go_wp2
      have hB := hbw.drew
      replace c0 := cell_drew c0
      replace c1 := cell_drew c1
      go_region_held3 (fun w' => w'.cell? ⟨b, o + k * 2, none⟩ = some (.string (B f.1)) ∧ w'.cell? ⟨b, o + k * 2 + 1, none⟩ = some (.string (B f.2))) (exact ⟨c0, c1⟩)
        (first
          | (go_at_call 37; with_reducible refine (P20.out _).mono ?_; rintro e w' ⟨rfl, hb⟩; have hB' := hB.trans (hb.mono hB.size); have c0' := keeps hb (Nat.le_refl _) c0; have c1' := keeps hb (Nat.le_refl _) c1; clear hB c0 c1 hb; have hB := hB'; have c0 := c0'; have c1 := c1'; clear hB' c0' c1')
          | (go_at_call 37; with_reducible refine (P0.out _).mono ?_; rintro e w' ⟨rfl, hb⟩; have hB' := hB.trans (hb.mono hB.size); have c0' := keeps hb (Nat.le_refl _) c0; have c1' := keeps hb (Nat.le_refl _) c1; clear hB c0 c1 hb; have hB := hB'; have c0 := c0'; have c1 := c1'; clear hB' c0' c1')
          | (go_at_call 37; with_reducible refine (P04.out _).mono ?_; rintro e w' ⟨rfl, hb⟩; have hB' := hB.trans (hb.mono hB.size); have c0' := keeps hb (Nat.le_refl _) c0; have c1' := keeps hb (Nat.le_refl _) c1; clear hB c0 c1 hb; have hB := hB'; have c0 := c0'; have c1 := c1'; clear hB' c0' c1')
          | (go_at_call 37; with_reducible refine (PS.out _).mono ?_; rintro e w' ⟨rfl, hb⟩; have hB' := hB.trans (hb.mono hB.size); have c0' := keeps hb (Nat.le_refl _) c0; have c1' := keeps hb (Nat.le_refl _) c1; clear hB c0 c1 hb; have hB := hB'; have c0 := c0'; have c1 := c1'; clear hB' c0' c1')
          | (go_at_call 38; with_reducible refine (HCO.out _).mono ?_; rintro e w' ⟨rfl, hb⟩; have hB' := hB.trans (hb.mono hB.size); have c0' := keeps hb (Nat.le_refl _) c0; have c1' := keeps hb (Nat.le_refl _) c1; clear hB c0 c1 hb; have hB := hB'; have c0 := c0'; have c1 := c1'; clear hB' c0' c1'))
      replace c0 := cell_drew c0
      replace c1 := cell_drew c1
      have hB' := hB.drew
      clear hB
      have hB := hB'
      clear hB' hbw hbs
      go_wp2
      go_region_held3 (fun w' => w'.cell? ⟨b, o + k * 2, none⟩ = some (.string (B f.1)) ∧ w'.cell? ⟨b, o + k * 2 + 1, none⟩ = some (.string (B f.2))) (exact ⟨c0, c1⟩)
        (first
          | (go_at_call 38; with_reducible refine (HCO.out _).mono ?_; rintro e w' ⟨rfl, hb⟩; have hB' := hB.trans (hb.mono hB.size); have c0' := keeps hb (Nat.le_refl _) c0; have c1' := keeps hb (Nat.le_refl _) c1; clear hB c0 c1 hb; have hB := hB'; have c0 := c0'; have c1 := c1'; clear hB' c0' c1'))
      go_wp2
      go_roundw
      case rel => exact ⟨k + 1, Y4, X9, by omega, by go_num, rfl, rfl, hY4, hX9, HN1.out, HN2.out, hB⟩
      case measure => simp [intOf]; omega
    · obtain rfl : k = n := by omega
      have e : fs.take k = fs := List.take_of_length_le (by rw [HL.out]; omega)
      have HZ := Lib.hid (show S.length = sizes fs by rw [hS.out, locs_len, e])
      have HR := Lib.hid (show locs fs = S ∧ cens fs (crcs fs) 0 = L ∧ fs.length = k from ⟨by rw [hS.out, e], by rw [hLL.out, cenK, e], HL.out⟩)
      clear e hS hLL
      have j1 : IntKind.u32.wrap (S.length : Int) = (S.length : Int) := IntWalk.u32_in _ (by omega)
      have j2 : IntKind.u32.wrap (L.length : Int) = (L.length : Int) := IntWalk.u32_in _ (by omega)
      have j3 : IntKind.u32.wrap (k : Int) = (k : Int) := IntWalk.u32_in _ (by omega)
      have P0 := Lib.hid (fun W => rle2_int 0 W (by omega) (by omega))
      have PN := Lib.hid (fun W => rle2_int (k : Int) W (by omega) (by omega))
      have PS := Lib.hid (fun W => rle4_int (S.length : Int) W (by omega) (by omega))
      have PL := Lib.hid (fun W => rle4_int (L.length : Int) W (by omega) (by omega))
      rw [show ((0 : Int).toNat) = 0 from rfl] at P0
      rw [Int.toNat_natCast] at PS PL PN
      have HPT := Lib.hid (show putT fs = S ++ ([L, [80, 75, 5, 6], le2L 0, le2L 0, le2L k, le2L k, le4L L.length, le4L S.length, le2L 0] : List (List UInt8)).flatten from by unfold putT dirT dirP; rw [HR.out.1, HR.out.2.1, HR.out.2.2, HZ.out])
      have lp0 : (le2L 0).length = 2 := rfl
      have lpN : (le2L k).length = 2 := rfl
      have lpL : (le4L L.length).length = 4 := rfl
      have lpS : (le4L S.length).length = 4 := rfl
      generalize le2L 0 = p0 at *
      generalize le2L k = pN at *
      generalize le4L L.length = pL at *
      generalize le4L S.length = pS at *
      obtain ⟨Z1, eZ1, lZ1, qZ1⟩ := cat_step S L (B L) rfl L.length rfl (by omega)
      obtain ⟨Z2, eZ2, lZ2, qZ2⟩ := cat_step Z1 [80, 75, 5, 6] ⟨#[80, 75, 5, 6]⟩ rfl 4 rfl (by omega)
      obtain ⟨Z3, eZ3, lZ3, qZ3⟩ := cat_step Z2 p0 (B p0) rfl 2 lp0 (by omega)
      obtain ⟨Z4, eZ4, lZ4, qZ4⟩ := cat_step Z3 p0 (B p0) rfl 2 lp0 (by omega)
      obtain ⟨Z5, eZ5, lZ5, qZ5⟩ := cat_step Z4 pN (B pN) rfl 2 lpN (by omega)
      obtain ⟨Z6, eZ6, lZ6, qZ6⟩ := cat_step Z5 pN (B pN) rfl 2 lpN (by omega)
      obtain ⟨Z7, eZ7, lZ7, qZ7⟩ := cat_step Z6 pL (B pL) rfl 4 lpL (by omega)
      obtain ⟨Z8, eZ8, lZ8, qZ8⟩ := cat_step Z7 pS (B pS) rfl 4 lpS (by omega)
      obtain ⟨Z9, eZ9, lZ9, qZ9⟩ := cat_step Z8 p0 (B p0) rfl 2 lp0 (by omega)
      have HN : Hid (Z9 = putT fs) := by rw [HPT.out, eZ9, eZ8, eZ7, eZ6, eZ5, eZ4, eZ3, eZ2, eZ1]; simp [Hid]
      clear HPT eZ1 lZ1 eZ2 lZ2 eZ3 lZ3 eZ4 lZ4 eZ5 lZ5 eZ6 lZ6 eZ7 lZ7 eZ8 lZ8 eZ9 lZ9 lp0 lpN lpL lpS
      have hB0 := hbw
      clear hbw hbs
      go_wp2_with fail
      with_reducible refine (P0.out _).mono ?_
      rintro e w1 ⟨rfl, hb1⟩
      have hB1 := hB0.trans (hb1.mono hB0.size)
      clear hb1 hB0
      go_wp2_with fail
      with_reducible refine (P0.out _).mono ?_
      rintro e w2 ⟨rfl, hb2⟩
      have hB2 := hB1.trans (hb2.mono hB1.size)
      clear hb2 hB1
      go_wp2_with fail
      with_reducible refine (PN.out _).mono ?_
      rintro e w3 ⟨rfl, hb3⟩
      have hB3 := hB2.trans (hb3.mono hB2.size)
      clear hb3 hB2
      go_wp2_with fail
      with_reducible refine (PN.out _).mono ?_
      rintro e w4 ⟨rfl, hb4⟩
      have hB4 := hB3.trans (hb4.mono hB3.size)
      clear hb4 hB3
      go_wp2_with fail
      with_reducible refine (PL.out _).mono ?_
      rintro e w5 ⟨rfl, hb5⟩
      have hB5 := hB4.trans (hb5.mono hB4.size)
      clear hb5 hB4
      go_wp2_with fail
      with_reducible refine (PS.out _).mono ?_
      rintro e w6 ⟨rfl, hb6⟩
      have hB6 := hB5.trans (hb6.mono hB5.size)
      clear hb6 hB5
      go_wp2_with fail
      with_reducible refine (P0.out _).mono ?_
      rintro e w7 ⟨rfl, hb7⟩
      have hB7 := hB6.trans (hb7.mono hB6.size)
      clear hb7 hB6
      go_wp2
      go_ret2
      exact ⟨⟨_, by rw [← HN.out]; rfl⟩, hB7⟩
end Go.Proofs.YtofbcblhpflleaaDoor
