/-
  Layer 28 (locale): the walk of LocaleDiffer.
-/
import Derived.Test.YtkndgkiglaacnaaDoorLocX
import Derived.Test.YtkndgkiglaacnaaDoorLocDifP
import Derived.Laws.StructEq
import Derived.Laws.IdiomArrays
namespace Go.Proofs.YtkndgkiglaacnaaDoor
open Go.RowKit
set_option linter.unusedVariables false
attribute [local go_sem] B_data B_size

set_option maxHeartbeats 1000000 in
theorem arr_eqIn (x0 x1 x2 y0 y1 y2 : Int) (W : World) : (Op.equalIn 10000 32 (.agg #[.int .i64 x0, .int .i64 x1, .int .i64 x2]) (.agg #[.int .i64 y0, .int .i64 y1, .int .i64 y2])).run Tryd.prog W = .ok (x0 == y0 && x1 == y1 && x2 == y2) W := by
  have u3 := Tryd.underlying3
  have a3 := Tryd.isAgg3
  have z3 := Tryd.sizeOf3
  rw [show (10000 : Nat) = 9999 + 1 from rfl, Op.equalIn]
  simp only [Sem.run_bind, run_underlying Tryd.underlying32, Result.andThen_ok]
  simp only [Std.Legacy.Range.forIn_eq_forIn_range', Std.Legacy.Range.size, Nat.sub_zero, Nat.add_sub_cancel, Nat.div_one, List.range'_succ, List.range'_zero, List.forIn_cons, List.forIn_nil]
  go_simp
  by_cases h0 : x0 = y0 <;> by_cases h1 : x1 = y1 <;> by_cases h2 : x2 = y2 <;> simp [h0, h1, h2]
theorem arr_eq (x0 x1 x2 y0 y1 y2 : Int) (W : World) : (binOp .eql 32 (.agg #[.int .i64 x0, .int .i64 x1, .int .i64 x2]) (.agg #[.int .i64 y0, .int .i64 y1, .int .i64 y2])).run Tryd.prog W = .ok (.bool (x0 == y0 && x1 == y1 && x2 == y2)) W := by
  rw [run_eql_struct, arr_eqIn]; rfl
theorem keeps {w w' : World} {M : Nat} (hb : Below M w w') (hM : w.heap.size ≤ M) {p : Addr} {v : Value} (h : w.cell? p = some v) : w'.cell? p = some v := by
  rw [hb.cell (Nat.lt_of_lt_of_le (World.block_lt_of_cell? w _ h) hM)]; exact h
set_option maxRecDepth 100000 in
theorem open_arr3 {H : Type} {enc : TypeId × Value → H} {W : World} {base b0 : Nat} {sp : Nat → Bool} {held : Bool} {v : Value} {d : DataW H} {p : List MemPlace}
    (hv : Value.okWide Tryd.prog W .any b0 32 v) (h : DataW.Trod enc Tryd.prog W base sp held 32 v d p) :
    ∃ x y z : Int, v = .agg #[.int .i64 x, .int .i64 y, .int .i64 z] := by
  unfold Value.okWide at hv
  rw [Tryd.underlying32] at hv
  obtain ⟨cs, rfl, hsz, _⟩ := hv
  rw [show Tryd.prog.cellsOf 32 = 3 from by kernel_rfl] at hsz
  obtain ⟨l⟩ := cs
  obtain ⟨c0, c1, c2, rfl⟩ : ∃ c0 c1 c2, l = [c0, c1, c2] := by
    have hsz : l.length = 3 := hsz
    match l, hsz with
    | [a, b, c], _ => exact ⟨a, b, c, rfl⟩
  obtain ⟨fuel, hf⟩ := h
  obtain ⟨y0, y1, y2, n, _, h0, h1, h2⟩ := Go.ChangeShapes.trod_array3 Tryd.underlying32 (by kernel_rfl) hf
  obtain ⟨i0, e0, _⟩ := DataW.trod_int Tryd.underlying3 h0
  obtain ⟨i1, e1, _⟩ := DataW.trod_int Tryd.underlying3 h1
  obtain ⟨i2, e2, _⟩ := DataW.trod_int Tryd.underlying3 h2
  injection e0 with e0
  injection e1 with e1
  injection e2 with e2
  exact ⟨i0, i1, i2, by rw [e0, e1, e2]⟩
/-- an array of three numbers in memory -/
def Arr (w : World) (b : Nat) (x y z : Int) : Prop := w.heap[b]? = some (.cells #[.int .i64 x, .int .i64 y, .int .i64 z] 32 (0, 0))
theorem Arr.below {w w' : World} {b : Nat} {x y z : Int} (h : Arr w b x y z) {M : Nat} (hb : Below M w w') (hM : w.heap.size ≤ M) : Arr w' b x y z := (hb.block b (Nat.lt_of_lt_of_le (Array.getElem?_eq_some_iff.1 h).1 hM)).trans h
theorem Arr.cells {w : World} {b : Nat} {x y z : Int} (h : Arr w b x y z) : w.cell? ⟨b, 0, none⟩ = some (.int .i64 x) ∧ w.cell? ⟨b, 1, none⟩ = some (.int .i64 y) ∧ w.cell? ⟨b, 2, none⟩ = some (.int .i64 z) := by
  unfold Arr at h
  simp [World.cell?, h]
set_option maxHeartbeats 8000000 in
set_option maxRecDepth 100000 in
theorem localeDiffer_walk (w : World) (x0 x1 x2 y0 y1 y2 : Int) (hG : GlobL w) :
    Calls Tryd.prog 6 #[.agg #[.int .i64 x0, .int .i64 x1, .int .i64 x2], .agg #[.int .i64 y0, .int .i64 y1, .int .i64 y2]] w fun e w' => e = .returned (.bool true) ∧ Below w.heap.size w w' := by
  have hA0 : Arr ((w.alloc (.cells #[.int .i64 x0, .int .i64 x1, .int .i64 x2] 32)).alloc (.cells #[.int .i64 y0, .int .i64 y1, .int .i64 y2] 32)) w.heap.size x0 x1 x2 := by
    unfold Arr; rw [Lib.alloc_old _ _ _ (by simp)]; exact heap_alloc_new w _
  have hC0 : Arr ((w.alloc (.cells #[.int .i64 x0, .int .i64 x1, .int .i64 x2] 32)).alloc (.cells #[.int .i64 y0, .int .i64 y1, .int .i64 y2] 32)) (w.heap.size + 1) y0 y1 y2 := by
    have := heap_alloc_new (w.alloc (.cells #[.int .i64 x0, .int .i64 x1, .int .i64 x2] 32)) (.cells #[.int .i64 y0, .int .i64 y1, .int .i64 y2] 32)
    rw [show (w.alloc (.cells #[.int .i64 x0, .int .i64 x1, .int .i64 x2] 32)).heap.size = w.heap.size + 1 from by simp] at this
    exact this
  have hB0 : Below w.heap.size w ((w.alloc (.cells #[.int .i64 x0, .int .i64 x1, .int .i64 x2] 32)).alloc (.cells #[.int .i64 y0, .int .i64 y1, .int .i64 y2] 32)) := (below_alloc _ _).alloc (by simp) _
  have heq := arr_eq x0 x1 x2 y0 y1 y2
  go_enter Tryd.func6, Tryd.ntmps6
  go_wp2_with fail
  generalize ((w.alloc (.cells #[.int .i64 x0, .int .i64 x1, .int .i64 x2] 32)).alloc (.cells #[.int .i64 y0, .int .i64 y1, .int .i64 y2] 32)) = W at *
  refine (langs_any W).mono ?_
  rintro e w1 ⟨rfl, hw⟩
  have HLG := Lib.hid (rd_cells W langC langL 4 rfl rfl)
  rw [hw] at HLG
  have hbl : Below W.heap.size W w1 := by rw [← hw]; exact below_alloc _ _
  clear hw
  have hA1 := hA0.below hbl (Nat.le_refl _)
  have hC1 := hC0.below hbl (Nat.le_refl _)
  have hB1 := hB0.trans (hbl.mono hB0.size)
  clear hA0 hC0 hB0 hbl
  generalize W.heap.size = bl at *
  go_wp2
  go_loopw [6] (fun i wr => ∃ k : Nat, k ≤ 4 ∧ i = .int .i64 k ∧ Arr wr w.heap.size x0 x1 x2 ∧ Arr wr (w.heap.size + 1) y0 y1 y2 ∧ Rd wr wr.heap.size 1 (some ⟨bl, 0, none⟩) 4 (strs langL) ∧ Below w.heap.size w wr) (fun i _ => 4 - (intOf i).toNat)
  case atStart => exact ⟨0, by omega, rfl, hA1, hC1, HLG.out, hB1⟩
  case round =>
    obtain ⟨k, hk, rfl, hA, hC, hL, hbw⟩ := hrel
    obtain ⟨a0, a1, a2⟩ := hA.cells
    obtain ⟨c0, c1, c2⟩ := hC.cells
    by_cases hlt : k < 4
    · obtain ⟨b, o, hbo, _, hl⟩ := rd_strb hL hlt
      injection hbo with hbo
      injection hbo with hb1 hb2
      subst hb1; subst hb2
      rw [Nat.zero_add] at hl
      generalize langL.getD k [] = lg at *
      have hbd := (Below.refl wr.heap.size wr).drew
      have D1 := Lib.hid (date_any lg x0 x1 x2 wr.drew (hG.below hbw.drew))
      have D2 := Lib.hid (fun W h => date_any lg y0 y1 y2 W h)
      have HI := Lib.hid (dateS_inj lg x0 x1 x2 y0 y1 y2)
      unfold DateRet at D1 D2
      generalize dateS lg x0 x1 x2 = sx at *
      generalize dateS lg y0 y1 y2 = sy at *
      generalize dateE lg x0 x1 x2 = ex at *
      generalize dateE lg y0 y1 y2 = ey at *
      have hi0 : (0 : Int) ≤ (k : Int) := by omega
      have hi1 : (k : Int) < 4 := by omega
      go_wp2
      go_region_held3 (fun w' => w'.cell? ⟨bl, k, none⟩ = some (.string (B lg)) ∧ w'.cell? ⟨w.heap.size, 0, none⟩ = some (.int .i64 x0) ∧ w'.cell? ⟨w.heap.size, 1, none⟩ = some (.int .i64 x1) ∧ w'.cell? ⟨w.heap.size, 2, none⟩ = some (.int .i64 x2)) (first | exact ⟨hl, a0, a1, a2⟩ | exact ⟨keeps hb2 (Nat.le_refl _) hl, keeps hb2 (Nat.le_refl _) a0, keeps hb2 (Nat.le_refl _) a1, keeps hb2 (Nat.le_refl _) a2⟩)
        (first | (go_at_call 15; refine D1.out.mono ?_; rintro e w2 ⟨rfl, hb2⟩))
      have hB2 := hbw.drew.trans (hb2.mono hbw.size)
      have l2 := keeps hb2 (Nat.le_refl _) hl
      have d0 := keeps hb2 (Nat.le_refl _) c0
      have d1 := keeps hb2 (Nat.le_refl _) c1
      have d2 := keeps hb2 (Nat.le_refl _) c2
      have a0' := keeps hb2 (Nat.le_refl _) a0
      have a1' := keeps hb2 (Nat.le_refl _) a1
      have a2' := keeps hb2 (Nat.le_refl _) a2
      have hA2 := hA.below ((Below.refl wr.heap.size wr).drew.trans hb2) (Nat.le_refl _)
      have hC2 := hC.below ((Below.refl wr.heap.size wr).drew.trans hb2) (Nat.le_refl _)
      have hL2 := (hL.below ((Below.refl wr.heap.size wr).drew.trans hb2)).more (show wr.heap.size ≤ w2.heap.size from hb2.size)
      have E2 := Lib.hid (D2.out w2.drew (hG.below hB2.drew))
      clear a0 a1 a2 c0 c1 c2 hl D1 D2 hb2 hbd hA hC hL hbw
      go_wp2
      go_region_held3 (fun w' => w'.cell? ⟨bl, k, none⟩ = some (.string (B lg)) ∧ w'.cell? ⟨w.heap.size + 1, 0, none⟩ = some (.int .i64 y0) ∧ w'.cell? ⟨w.heap.size + 1, 1, none⟩ = some (.int .i64 y1) ∧ w'.cell? ⟨w.heap.size + 1, 2, none⟩ = some (.int .i64 y2)) (first | exact ⟨l2, d0, d1, d2⟩ | exact ⟨keeps hb3 (Nat.le_refl _) l2, keeps hb3 (Nat.le_refl _) d0, keeps hb3 (Nat.le_refl _) d1, keeps hb3 (Nat.le_refl _) d2⟩)
        (first | (go_at_call 15; refine E2.out.mono ?_; rintro e w3 ⟨rfl, hb3⟩))
      have hb3' := (Below.refl w2.heap.size w2).drew.trans hb3
      have hB3 := hB2.trans (hb3'.mono hB2.size)
      have hA3 := hA2.below hb3' (Nat.le_refl _)
      have hC3 := hC2.below hb3' (Nat.le_refl _)
      have hL3 := (hL2.below hb3').more hb3'.size
      obtain ⟨a0, a1, a2⟩ := hA3.cells
      obtain ⟨c0, c1, c2⟩ := hC3.cells
      clear a0' a1' a2' d0 d1 d2 l2 E2 hb3 hb3' hA2 hC2 hL2 hB2
      by_cases h1 : ex = 0
      · have e1 : (ex == 0) = true := by simp [h1]
        by_cases h2 : ey = 0
        · have e2 : (ey == 0) = true := by simp [h2]
          have HQ := Lib.hid (HI.out h1 h2)
          clear h1 h2 HI
          by_cases zz : x0 = y0 ∧ x1 = y1 ∧ x2 = y2
          · have t1 : (sx == sy) = true := by rw [HQ.out]; simpa using zz
            have t2 : (x0 == y0 && x1 == y1 && x2 == y2) = true := by simp [zz.1, zz.2.1, zz.2.2]
            rw [t2] at heq
            clear t2 zz HQ
            go_wp2
            go_roundw
            case rel => exact ⟨k + 1, by omega, by go_num, hA3, hC3, hL3, hB3⟩
            case measure => simp [intOf]; omega
          · have t1 : (sx == sy) = false := by rw [HQ.out]; simpa using zz
            have t2 : (x0 == y0 && x1 == y1 && x2 == y2) = false := by
              by_cases z0 : x0 = y0 <;> by_cases z1 : x1 = y1 <;> by_cases z2 : x2 = y2 <;> simp [z0, z1, z2] at zz ⊢
            rw [t2] at heq
            clear t2 zz HQ
            go_wp2
            go_roundw
            case rel => exact ⟨k + 1, by omega, by go_num, hA3, hC3, hL3, hB3⟩
            case measure => simp [intOf]; omega
        · have e2 : (ey == 0) = false := by simpa using h2
          clear h1 h2 HI
          go_wp2
          go_roundw
          case rel => exact ⟨k + 1, by omega, by go_num, hA3, hC3, hL3, hB3⟩
          case measure => simp [intOf]; omega
      · have e1 : (ex == 0) = false := by simpa using h1
        clear h1 HI
        go_wp2
        go_roundw
        case rel => exact ⟨k + 1, by omega, by go_num, hA3, hC3, hL3, hB3⟩
        case measure => simp [intOf]; omega
    · have R1 := Lib.hid (roman_any x0 wr)
      have R2 := Lib.hid (fun W => roman_any y0 W)
      have HI := Lib.hid (romR_inj x0 y0)
      unfold RomRet at R1 R2
      generalize romR x0 = sx at *
      generalize romR y0 = sy at *
      generalize romE x0 = ex at *
      generalize romE y0 = ey at *
      go_wp2_with fail
      refine R1.out.mono ?_
      rintro e w2 ⟨rfl, hb2⟩
      have hB2 := hbw.trans (hb2.mono hbw.size)
      have c0' := keeps hb2 (Nat.le_refl _) c0
      have a0' := keeps hb2 (Nat.le_refl _) a0
      clear R1 a0 a1 a2 c0 c1 c2
      go_wp2_with fail
      refine (R2.out w2).mono ?_
      rintro e w3 ⟨rfl, hb3⟩
      have hB3 := hB2.trans (hb3.mono hB2.size)
      have c0 := keeps hb3 (Nat.le_refl _) c0'
      have a0 := keeps hb3 (Nat.le_refl _) a0'
      have hG3 := hG.below hB3
      clear R2 a0' c0'
      by_cases h1 : ex = 0
      · have e1 : (ex != 0) = false := by simp [h1]
        by_cases h2 : ey = 0
        · have e2 : (ey != 0) = false := by simp [h2]
          have HQ := Lib.hid (HI.out h1 h2)
          clear h1 h2 HI
          by_cases zz : x0 = y0
          · have t1 : (sx == sy) = true := by rw [HQ.out]; simpa using zz
            have t2 : (x0 == y0) = true := by simpa using zz
            clear zz HQ
            go_wp2_with fail
            refine (awake_any w3 hG3).mono ?_
            rintro e w4 ⟨rfl, hb4⟩
            go_wp2
            go_ret
            exact ⟨rfl, hB3.trans (hb4.mono hB3.size)⟩
          · have t1 : (sx == sy) = false := by rw [HQ.out]; simpa using zz
            have t2 : (x0 == y0) = false := by simpa using zz
            clear zz HQ
            go_wp2_with fail
            refine (awake_any w3 hG3).mono ?_
            rintro e w4 ⟨rfl, hb4⟩
            go_wp2
            go_ret
            exact ⟨rfl, hB3.trans (hb4.mono hB3.size)⟩
        · have e2 : (ey != 0) = true := by simpa using h2
          clear h1 h2 HI
          go_wp2_with fail
          refine (awake_any w3 hG3).mono ?_
          rintro e w4 ⟨rfl, hb4⟩
          go_wp2
          go_ret
          exact ⟨rfl, hB3.trans (hb4.mono hB3.size)⟩
      · have e1 : (ex != 0) = true := by simpa using h1
        clear h1 HI
        go_wp2_with fail
        refine (awake_any w3 hG3).mono ?_
        rintro e w4 ⟨rfl, hb4⟩
        go_wp2
        go_ret
        exact ⟨rfl, hB3.trans (hb4.mono hB3.size)⟩
end Go.Proofs.YtkndgkiglaacnaaDoor
