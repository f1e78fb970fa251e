/-
  Layer 35 (archive): a builder among other blocks; the directory.
-/
import Derived.Test.YtofbcblhpflleaaDoorArcF
import Derived.Test.YtofbcblhpflleaaDoorBuilder
namespace Go.Proofs.YtofbcblhpflleaaDoor
open Go.RowKit
set_option linter.unusedVariables false
attribute [local go_sem] B_data B_size
attribute [local go_sem ↓] Go.wp_at_zero Go.wp_at_succ

theorem BuilderAtF_below {T e : TypeId} {B b : Nat} {p : Value} {bs : List Value} {w w' : World} (h : Lib.BuilderAtF T e B b p bs w) (hb : Below w.heap.size w w') : Lib.BuilderAtF T e B b p bs w' := by
  obtain ⟨hB, v, hbk, hown, hne⟩ := h
  refine ⟨hB, v, (hb.block b (Array.getElem?_eq_some_iff.1 hbk).1).trans hbk, ?_, hne⟩
  exact hown.kept (grown_of_below hb none) (by cases hv : v.ownBlock <;> simp)
theorem Bd.below {w w' : World} {b : Nat} {l : List UInt8} (h : Bd w b l) (hb : Below w.heap.size w w') : Bd w' b l := by
  rcases h with h | h
  · exact .inl (BuilderAtF_below h hb)
  · exact .inr (BuilderAtF_below h hb)
/-- a cell of a block that is no row of bytes is kept by a builder -/
theorem kept_cell {b : Nat} {w w' : World} (h : Bkeep b w w') {k : Nat} {C : Array Value} {t : TypeId} (hk : w.heap[k]? = some (.cells C t (0, 0))) (hne : k ≠ b) (ht : t ≠ 5) : w'.heap[k]? = some (.cells C t (0, 0)) :=
  h.2 k _ hk (fun e => hne (Option.some.inj e)) (fun c fz e => by injection e with _ e2 _; exact ht e2)
/-- what is known while a builder at block bb is filled: from the world w on, and since the world W0 -/
structure DI (w W0 : World) (bb : Nat) (L : List UInt8) (W : World) : Prop where
  b : Below w.heap.size w W
  d : Bd W bb L
  k : ∀ (k : Nat) (o : Obj), W0.heap[k]? = some o → W.heap[k]? = some o
theorem DI.step {w W0 W w' : World} {bb : Nat} {L : List UInt8} (h : DI w W0 bb L W) (hb : Below W.heap.size W w') : DI w W0 bb L w' :=
  ⟨h.b.trans (hb.mono h.b.size), h.d.below hb, fun k o ho => by
    have := h.k k o ho
    exact (hb.block k (Array.getElem?_eq_some_iff.1 this).1).trans this⟩
theorem DI.cell {w W0 W : World} {bb : Nat} {L : List UInt8} (h : DI w W0 bb L W) {p : Addr} {v : Value} (hc : W0.cell? p = some v) : W.cell? p = some v := by
  have hlt := World.block_lt_of_cell? W0 _ hc
  have e := h.k p.block W0.heap[p.block] (Array.getElem?_eq_getElem hlt)
  have e2 : W.heap[p.block]? = W0.heap[p.block]? := by rw [e, Array.getElem?_eq_getElem hlt]
  unfold World.cell? at hc ⊢
  rw [e2]; exact hc
theorem DI.refl {w W : World} {bb : Nat} {L : List UInt8} (hb : Below w.heap.size w W) (hd : Bd W bb L) : DI w W bb L W := ⟨hb, hd, fun _ _ h => h⟩
/-- the parts of a file in the directory -/
def cenP (f : List UInt8 × List UInt8) (s off : Nat) : List (List UInt8) := [[80, 75, 1, 2], le2L 20, comL f.1.length f.2.length s, le2L 0, le2L 0, le2L 0, le4L 0, le4L off, f.1]
def sizeF (f : List UInt8 × List UInt8) : Nat := 30 + f.1.length + f.2.length
def cens : List (List UInt8 × List UInt8) → List Nat → Nat → List UInt8
  | f :: r, s :: q, off => (cenP f s off).flatten ++ cens r q (off + sizeF f)
  | _, _, _ => []
def sizes (fs : List (List UInt8 × List UInt8)) : Nat := (fs.map sizeF).sum
theorem cenP_len (f : List UInt8 × List UInt8) (s off : Nat) : (cenP f s off).flatten.length = 46 + f.1.length := by
  simp [cenP, com_len, le2L, le4L]; omega
/-- the directory -/
def dirP (fs : List (List UInt8 × List UInt8)) (ss : List Nat) : List (List UInt8) := [cens fs ss 0, [80, 75, 5, 6], le2L 0, le2L 0, le2L fs.length, le2L fs.length, le4L (cens fs ss 0).length, le4L (sizes fs), le2L 0]
def dirT (fs : List (List UInt8 × List UInt8)) (ss : List Nat) : List UInt8 := (dirP fs ss).flatten
def u32s (ss : List Nat) : List Value := ss.map fun s => .int .u32 ((s : Nat) : Int)
theorem rd_u32 {w : World} {M n k : Nat} {A : Option Addr} {ss : List Nat} (h : Rd w M 1 A n (u32s ss)) (hk : k < n) :
    ∃ b o, A = some ⟨b, o, none⟩ ∧ b < M ∧ w.cell? ⟨b, o + k, none⟩ = some (.int .u32 ((ss.getD k 0 : Nat) : Int)) := by
  obtain ⟨ad, e, hb, hc⟩ := h.2 (by omega)
  have hl : k < ss.length := by have := h.1; simp [u32s] at this; omega
  obtain ⟨b, o, spot⟩ := ad
  have hx0 := hc 0 _ (List.getElem?_eq_getElem (by simp [u32s]; omega))
  have hsp : spot = none := by simpa [Addr.add] using World.cell?_spot hx0
  subst hsp
  have hk' := hc k (.int .u32 ((ss.getD k 0 : Nat) : Int)) (by simp [u32s, hl])
  rw [addr_lit] at hk'
  exact ⟨b, o, e, hb, hk'⟩
theorem u32_length {w : World} {M n : Nat} {A : Option Addr} {ss : List Nat} (h : Rd w M 1 A n (u32s ss)) : ss.length = n := by
  have := h.1; simp [u32s] at this; omega
theorem ndrop (ss : List Nat) (k : Nat) (h : k < ss.length) : ss.drop k = ss.getD k 0 :: ss.drop (k + 1) := by
  rw [List.drop_eq_getElem_cons h]; simp [h]
theorem take_sizes (fs : List (List UInt8 × List UInt8)) (k : Nat) (h : k < fs.length) : sizes (fs.take (k + 1)) = sizes (fs.take k) + sizeF (fs[k]?.getD ([], [])) := by
  unfold sizes
  rw [List.take_succ_eq_append_getElem h, List.map_append, List.sum_append, List.getElem?_eq_getElem h]
  rfl
theorem sizes_le (fs : List (List UInt8 × List UInt8)) (k : Nat) (hf : ∀ f ∈ fs, f.1.length ≤ 1000000 ∧ f.2.length ≤ 100000000) : sizes (fs.take k) ≤ 101000030 * k := by
  induction k with
  | zero => simp [sizes]
  | succ k ih =>
    by_cases h : k < fs.length
    · rw [take_sizes fs k h]
      have := hf (fs[k]?.getD ([], [])) (fl_mem fs k h)
      unfold sizeF
      omega
    · rw [List.take_of_length_le (by omega)]
      rw [List.take_of_length_le (by omega)] at ih
      omega

set_option maxHeartbeats 1000000 in
theorem len_any (b : Nat) (l : List UInt8) (w : World) (h : Bd w b l) (hl : l.length ≤ 1000000000000) : Calls Tryd.prog 33 #[.pointer (some ⟨b, 0, none⟩)] w fun e w' => e = .returned (.int .i64 (l.length : Nat)) ∧ w = w' := by
  obtain ⟨A, c, h1⟩ : ∃ A c, w.cell? ⟨b, 1, none⟩ = some (.slice A l.length c) := by
    have key : ∀ p, Lib.BuilderAtF 46 5 b b p (Lib.byteCells l) w → ∃ A c, w.cell? ⟨b, 1, none⟩ = some (.slice A l.length c) := by
      rintro p ⟨_, v, hb, ho, _⟩
      have hc : w.cell? ⟨b, 1, none⟩ = some v := by rw [Lib.cell_of_heap hb]; rfl
      rw [Lib.byteCells_length] at ho
      rcases ho.2 with ⟨hv, h0⟩ | ⟨g, cap, cur, fz, hv, _⟩
      · exact ⟨none, 0, by rw [hc, hv, h0]⟩
      · exact ⟨_, cap, by rw [hc, hv]⟩
    rcases h with h | h
    · exact key _ h
    · exact key _ h
  go_enter Tryd.func33, Tryd.ntmps33
  go_wp2
  go_ret
  exact ⟨rfl, rfl⟩
set_option maxHeartbeats 8000000 in
set_option maxRecDepth 100000 in
theorem directory_any (A A2 : Option Addr) (n c c2 : Nat) (fs : List (List UInt8 × List UInt8)) (ss : List Nat) (w : World) (hx : Rd w w.heap.size 2 A n (fls fs)) (hy : Rd w w.heap.size 1 A2 n (u32s ss)) (hn : n ≤ 128) (hf : ∀ f ∈ fs, f.1.length ≤ 1000000 ∧ f.2.length ≤ 100000000) (hss : ∀ s ∈ ss, s < 4294967296) :
    Calls Tryd.prog 22 #[.slice A n c, .slice A2 n c2] w fun e w' => e = .returned (.string (B (dirT fs ss))) ∧ Below w.heap.size w w' := by
  have HL := Lib.hid hx.fls_length
  have HL2 := Lib.hid (u32_length hy)
  have HF := Lib.hid hf
  have HSS := Lib.hid hss
  have HZ := Lib.hid (fun k => sizes_le fs k hf)
  clear hf hss
  have h0 : Bd (w.alloc (.cells #[.pointer none, .slice none 0 0] 46)) w.heap.size [] := Bd.new w
  have hb0 := below_alloc w (.cells #[.pointer none, .slice none 0 0] 46)
  go_enter Tryd.func22, Tryd.ntmps22
  go_wp2
  generalize w.alloc (.cells #[.pointer none, .slice none 0 0] 46) = W at *
  go_loopw [6, 12] (fun a i wr => ∃ (k : Nat) (L : List UInt8), k ≤ n ∧ i = .int .i64 k ∧ a = .int .i64 (sizes (fs.take k) : Nat) ∧ L.length ≤ 1000100 * k ∧ Bd wr w.heap.size L ∧ Below w.heap.size w wr ∧ Hid (cens fs ss 0 = L ++ cens (fs.drop k) (ss.drop k) (sizes (fs.take k)))) (fun _ i _ => n - (intOf i).toNat)
  case atStart => exact ⟨0, [], Nat.zero_le _, rfl, rfl, by simp, h0, hb0, rfl⟩
  case round =>
    obtain ⟨k, L, hk, rfl, rfl, hLl, hbd, hbw, hr⟩ := hrel
    have hbs := hbw.size
    by_cases hlt : k < n
    · obtain ⟨b, o, rfl, hm, h0', h1'⟩ := (hx.below hbw).file hlt
      obtain ⟨b2, o2, rfl, hm2, h2'⟩ := rd_u32 (hy.below hbw) hlt
      have hkl : k < fs.length := by rw [HL.out]; exact hlt
      have hkl2 : k < ss.length := by rw [HL2.out]; exact hlt
      have HD := Lib.hid (fdrop fs k hkl)
      have HD2 := Lib.hid (ndrop ss k hkl2)
      have HT := Lib.hid (take_sizes fs k hkl)
      have hfl := HF.out _ (fl_mem fs k hkl)
      have hsl : ss.getD k 0 < 4294967296 := HSS.out _ (by simp [hkl2])
      have hzl := HZ.out k
      generalize fs[k]?.getD ([], []) = f at *
      generalize ss.getD k 0 = sm at *
      generalize sizes (fs.take k) = off at *
      obtain ⟨hf1, hf2⟩ := hfl
      have hbb : w.heap.size < wr.heap.size := hbd.lt
      have hD : DI w (wr.alloc (.cells #[.string (B f.1), .string (B f.2)] 35)) w.heap.size L (wr.alloc (.cells #[.string (B f.1), .string (B f.2)] 35)).drew := ⟨(hbw.alloc hbs _).drew, (hbd.alloc _).drewN 1, fun _ _ h => h⟩
      have hbx : (wr.alloc (.cells #[.string (B f.1), .string (B f.2)] 35)).heap[wr.heap.size]? = some (.cells #[.string (B f.1), .string (B f.2)] 35 (0, 0)) := heap_alloc_new wr _
      have k0 : (wr.alloc (.cells #[.string (B f.1), .string (B f.2)] 35)).cell? ⟨wr.heap.size, 0, none⟩ = some (.string (B f.1)) := by simp
      have k1 : (wr.alloc (.cells #[.string (B f.1), .string (B f.2)] 35)).cell? ⟨wr.heap.size, 1, none⟩ = some (.string (B f.2)) := by simp
      have k2 : (wr.alloc (.cells #[.string (B f.1), .string (B f.2)] 35)).cell? ⟨b2, o2 + k, none⟩ = some (.int .u32 ((sm : Nat) : Int)) := by rw [World.cell?_alloc_lt _ _ _ (by show b2 < _; omega)]; exact h2'
      have HK := Lib.hid (And.intro hbx (And.intro k0 (And.intro k1 k2)))
      clear hbx k0 k1 k2
      have hws : IntKind.i64.wrap (sm : Int) = (sm : Int) := IntWalk.i64_in _ (by omega)
      go_wp2
      have hi0 : (0 : Int) ≤ (k : Int) := by omega
      have hi1 : (k : Int) < (n : Int) := by omega
      go_region_held3 (fun w' => w'.cell? ⟨wr.heap.size, 0, none⟩ = some (.string (B f.1)) ∧ w'.cell? ⟨wr.heap.size, 1, none⟩ = some (.string (B f.2)) ∧ w'.cell? ⟨b2, o2 + k, none⟩ = some (.int .u32 ((sm : Nat) : Int)))
        (first | exact HSW | exact ⟨hD.cell HK.out.2.1, hD.cell HK.out.2.2.1, hD.cell HK.out.2.2.2⟩ | exact ⟨keeps (below_alloc _ _) (Nat.le_refl _) (hD.cell HK.out.2.1), keeps (below_alloc _ _) (Nat.le_refl _) (hD.cell HK.out.2.2.1), keeps (below_alloc _ _) (Nat.le_refl _) (hD.cell HK.out.2.2.2)⟩)
        (first
          | (go_at_call 32; refine (le2_int _ _ (by omega) (by omega)).mono ?_; rintro e w' ⟨rfl, hb⟩; have hD' := hD.step hb; clear hD hb; have hD := hD'; clear hD')
          | (go_at_call 31; refine (le4_int _ _ (by omega) (by omega)).mono ?_; rintro e w' ⟨rfl, hb⟩; have hD' := hD.step hb; clear hD hb; have hD := hD'; clear hD')
          | (go_at_call 21; refine (common_any f.1 f.2 sm _ (by omega) (by omega) hsl).mono ?_; rintro e w' ⟨rfl, hb⟩; have hD' := hD.step hb; clear hD hb; have hD := hD'; clear hD')
          | (go_at_call 20; refine (sjoinE_any _ 9 9 (cenP f sm off) _ (rd_cells _ _ _ 9 rfl rfl) (by omega) (by omega) (by rw [cenP_len]; omega)).mono ?_; rintro e w' ⟨rfl, hb⟩; have hD' := (hD.step (below_alloc _ _)).step hb; clear hD hb; have hD := hD'; clear hD')
          | (go_at_call 19; refine (writeString_any w.heap.size L _ _ hD.d (by rw [B_size, cenP_len]; omega)).mono ?_; rintro e w' ⟨rfl, hd', hkp⟩; rw [B_data] at hd'; have hB' := hD.b.trans hkp.1; have hx' := kept_cell hkp (hD.k _ _ HK.out.1) (by omega) (by decide); have HSW : w'.cell? ⟨wr.heap.size, 0, none⟩ = some (.string (B f.1)) ∧ w'.cell? ⟨wr.heap.size, 1, none⟩ = some (.string (B f.2)) ∧ w'.cell? ⟨b2, o2 + k, none⟩ = some (.int .u32 ((sm : Nat) : Int)) := ⟨by simp [World.cell?, hx'], by simp [World.cell?, hx'], by rw [hkp.1.cell (p := ⟨b2, o2 + k, none⟩) hm2]; exact hD.cell HK.out.2.2.2⟩))
      have HN : Hid (cens fs ss 0 = (L ++ (cenP f sm off).flatten) ++ cens (fs.drop (k + 1)) (ss.drop (k + 1)) (sizes (fs.take (k + 1)))) := by
        rw [hr.out, HD.out, HD2.out, HT.out, cens, List.append_assoc]; rfl
      have hl' : (L ++ (cenP f sm off).flatten).length ≤ 1000100 * (k + 1) := by rw [List.length_append, cenP_len]; omega
      have HO : Hid ((off : Int) + (30 + (f.1.length : Int) + (f.2.length : Int)) = ((sizes (fs.take (k + 1)) : Nat) : Int)) := by
        rw [HT.out]; unfold sizeF Hid; omega
      obtain ⟨s0, s1, s2⟩ := HSW
      generalize (L ++ (cenP f sm off).flatten) = L' at *
      clear hD HK s2 hx' hkp hbd
      go_wp2
      go_roundw
      case rel => exact ⟨k + 1, L', by omega, by go_num, by rw [HO.out], hl', hd', hB', HN.out⟩
      case measure => simp [intOf]; omega
    · obtain rfl : k = n := by omega
      have HT : Hid (fs.take k = fs) := List.take_of_length_le (by rw [HL.out]; omega)
      have HC : Hid (cens fs ss 0 = L) := by rw [hr.out, List.drop_of_length_le (by rw [HL.out]; omega)]; simp [cens, Hid]
      have hzl := HZ.out k
      rw [HT.out] at hzl
      rw [HT.out]
      have HP : Hid (dirP fs ss = [L, [80, 75, 5, 6], le2L 0, le2L 0, le2L k, le2L k, le4L L.length, le4L (sizes fs), le2L 0]) := by
        unfold dirP; rw [HC.out, HL.out]; rfl
      have HPL : Hid (([L, [80, 75, 5, 6], le2L 0, le2L 0, le2L k, le2L k, le4L L.length, le4L (sizes fs), le2L 0] : List (List UInt8)).flatten.length = L.length + 22) := by
        simp [le2L, le4L, Hid]
      generalize sizes fs = off at *
      rename World => wo
      go_wp2_with fail
      refine (le2_int _ _ (by omega) (by omega)).mono ?_
      rintro e w1 ⟨rfl, hb1⟩
      have hd1 := hbd.below hb1
      have hB1 := hbw.trans (hb1.mono hbw.size)
      clear hbd hbw hb1
      go_wp2_with fail
      refine (string_any _ L w1 hd1).mono ?_
      rintro e w2 ⟨rfl, hd2, hk2⟩
      have hB2 := hB1.trans hk2.1
      clear hd1 hB1 hk2
      go_wp2_with fail
      refine (le2_int _ _ (by omega) (by omega)).mono ?_
      rintro e w3 ⟨rfl, hb3⟩
      have hd3 := hd2.below hb3
      have hB3 := hB2.trans (hb3.mono hB2.size)
      clear hd2 hB2 hb3
      go_wp2_with fail
      refine (le2_int _ _ (by omega) (by omega)).mono ?_
      rintro e w4 ⟨rfl, hb4⟩
      have hd4 := hd3.below hb4
      have hB4 := hB3.trans (hb4.mono hB3.size)
      clear hd3 hB3 hb4
      go_wp2_with fail
      refine (len_any _ L w4 hd4 (by omega)).mono ?_
      rintro e w5 ⟨rfl, rfl⟩
      go_wp2_with fail
      refine (le4_int _ _ (by omega) (by omega)).mono ?_
      rintro e w6 ⟨rfl, hb6⟩
      have hB6 := hB4.trans (hb6.mono hB4.size)
      clear hd4 hB4 hb6
      go_wp2_with fail
      refine (le4_int _ _ (by omega) (by omega)).mono ?_
      rintro e w7 ⟨rfl, hb7⟩
      have hB7 := hB6.trans (hb7.mono hB6.size)
      clear hB6 hb7
      go_wp2_with fail
      refine (le2_int _ _ (by omega) (by omega)).mono ?_
      rintro e w8 ⟨rfl, hb8⟩
      have hB8 := hB7.trans (hb8.mono hB7.size)
      clear hB7 hb8
      go_wp2_with fail
      refine (sjoinE_any _ 9 9 [L, [80, 75, 5, 6], le2L 0, le2L 0, le2L k, le2L k, le4L L.length, le4L off, le2L 0] _ (rd_cells w8 _ _ 9 rfl rfl) (by omega) (by omega) (by rw [HPL.out]; omega)).mono ?_
      rintro e w9 ⟨rfl, hb9⟩
      have hB9 := (hB8.alloc hB8.size _).trans (hb9.mono (hB8.alloc hB8.size _).size)
      clear hB8 hb9
      go_wp2
      go_ret
      exact ⟨by unfold dirT; rw [HP.out]; rfl, hB9⟩
end Go.Proofs.YtofbcblhpflleaaDoor
