/-
  Layer 35 (archive): Put, the program's side.
-/
import Derived.Test.YtofbcblhpflleaaDoorArcG
import Derived.Laws.MakeOwn
namespace Go.Proofs.YtofbcblhpflleaaDoor
open Go.RowKit
set_option linter.unusedVariables false
attribute [local go_sem] B_data B_size
attribute [local go_sem ↓] Go.wp_at_zero Go.wp_at_succ

theorem Tryd.infoU32 : (Tryd.prog.info? 23).map (fun i => (i.zero, i.size, i.bytes)) = some (some (.int .u32 0), 1, 4) := by kernel_rfl
theorem u32_rep (n : Nat) : (u32s (List.replicate n 0)).toArray = madeCells #[.int .u32 0] (n * 1) := by
  apply Array.ext
  · simp [u32s, madeCells]
  · intro i h1 h2
    simp [u32s, madeCells, Nat.mod_one]
theorem run_makeU32 (n : Nat) (hn : n ≤ 1000000) (W : World) : (Instr.makeSlice 47 (.int .i64 (n : Int)) (.int .i64 (n : Int))).run Tryd.prog W =
    .ok (.slice (some ⟨W.heap.size, 0, none⟩) n n) (W.alloc (.cells (u32s (List.replicate n 0)).toArray 23)) := by
  obtain ⟨i0, hi, hz0, hz1, hz2⟩ := info_parts Tryd.infoU32
  have hb : (i0.bytes : Int) * (n : Int) ≤ 281474976710656 := by rw [hz2]; omega
  have hr := run_make (P := Tryd.prog) W 47 23 i0 _ Tryd.underlying47 hi hz0 .i64 .i64 n n (by omega) (by omega) hb (by omega)
  simp only [Int.toNat_natCast] at hr
  rw [hr, hz1, u32_rep]
  rfl
/-- the sums behind k files -/
def sumK (fs : List (List UInt8 × List UInt8)) (n k : Nat) : List Nat := (fs.take k).map (fun f => crc f.2) ++ List.replicate (n - k) 0
theorem sumK_len (fs : List (List UInt8 × List UInt8)) (n k : Nat) (hl : fs.length = n) (hk : k ≤ n) : (sumK fs n k).length = n := by
  unfold sumK
  rw [List.length_append, List.length_map, List.length_take, List.length_replicate, hl]; omega
theorem sumK_set (fs : List (List UInt8 × List UInt8)) (n k : Nat) (hl : fs.length = n) (hk : k < n) : (sumK fs n k).set k (crc (fs[k]?.getD ([], [])).2) = sumK fs n (k + 1) := by
  unfold sumK
  have hk' : k < fs.length := by omega
  rw [show n - k = (n - (k + 1)) + 1 from by omega, List.replicate_succ, List.set_append_right _ _ (by rw [List.length_map, List.length_take]; omega), List.length_map, List.length_take, Nat.min_eq_left (by omega), Nat.sub_self, List.set_cons_zero, List.take_succ_eq_append_getElem hk', List.map_append, List.append_assoc, List.getElem?_eq_getElem hk']
  rfl
def Sums (w : World) (b : Nat) (ss : List Nat) : Prop := w.heap[b]? = some (.cells (u32s ss).toArray 23 (0, 0))
theorem Sums.cell {w : World} {b k : Nat} {ss : List Nat} (h : Sums w b ss) (hk : k < ss.length) : w.cell? ⟨b, k, none⟩ = some (.int .u32 ((ss.getD k 0 : Nat) : Int)) := by
  unfold Sums at h
  simp [World.cell?, h, u32s, hk]
theorem Sums.free {w : World} {b k : Nat} {ss : List Nat} (h : Sums w b ss) : w.frozen? ⟨b, k, none⟩ = false := by
  unfold Sums at h
  simp [World.frozen?, h]
theorem Sums.set {w : World} {b k : Nat} {ss : List Nat} (h : Sums w b ss) (v : Nat) : Sums (w.setCell ⟨b, k, none⟩ (.int .u32 ((v : Nat) : Int))) b (ss.set k v) := by
  unfold Sums at h ⊢
  simp [World.setCell, Array.getElem?_modify, h, u32s, List.map_set]
theorem Sums.rd {w : World} {b n : Nat} {ss : List Nat} (h : Sums w b ss) (hn : ss.length = n) : Rd w w.heap.size 1 (some ⟨b, 0, none⟩) n (u32s ss) := by
  refine ⟨by simp [u32s]; omega, fun _ => ⟨_, rfl, (Array.getElem?_eq_some_iff.1 h).1, fun j u hj => ?_⟩⟩
  rw [addr_lit, Lib.cell_of_heap h]
  simpa using hj
/-- the parts of a file ahead of the directory -/
def locP (f : List UInt8 × List UInt8) (s : Nat) : List (List UInt8) := [[80, 75, 3, 4], comL f.1.length f.2.length s, f.1, f.2]
def locT (f : List UInt8 × List UInt8) : List UInt8 := (locP f (crc f.2)).flatten
def locs (fs : List (List UInt8 × List UInt8)) : List UInt8 := fs.flatMap locT
theorem locT_len (f : List UInt8 × List UInt8) : (locT f).length = sizeF f := by
  simp [locT, locP, com_len, sizeF]; omega
theorem locs_take (fs : List (List UInt8 × List UInt8)) (k : Nat) (h : k < fs.length) : locs (fs.take (k + 1)) = locs (fs.take k) ++ locT (fs[k]?.getD ([], [])) := by
  unfold locs
  rw [List.take_succ_eq_append_getElem h, List.flatMap_append, List.getElem?_eq_getElem h]
  simp
theorem locs_len (fs : List (List UInt8 × List UInt8)) : (locs fs).length = sizes fs := by
  induction fs with
  | nil => rfl
  | cons f r ih =>
    unfold locs sizes at *
    rw [List.flatMap_cons, List.length_append, ih, locT_len]; simp
def crcs (fs : List (List UInt8 × List UInt8)) : List Nat := fs.map fun f => crc f.2
/-- the archive of files -/
def putT (fs : List (List UInt8 × List UInt8)) : List UInt8 := locs fs ++ dirT fs (crcs fs)
def putS (fs : List (List UInt8 × List UInt8)) : List UInt8 := if acheck fs = 0 then putT fs else []
def PutRet (fs : List (List UInt8 × List UInt8)) : Ending := .returned (.tuple #[.string (B (putS fs)), .int .i64 (acheck fs)])
theorem cens_len (fs : List (List UInt8 × List UInt8)) (hf : ∀ f ∈ fs, f.1.length ≤ 1000000 ∧ f.2.length ≤ 100000000) : ∀ ss off, (cens fs ss off).length ≤ 1000046 * fs.length := by
  induction fs with
  | nil => intro ss off; simp [cens]
  | cons f r ih =>
    intro ss off
    cases ss with
    | nil => simp [cens]
    | cons s q =>
      rw [cens, List.length_append, cenP_len, List.length_cons]
      have := ih (fun g hg => hf g (List.mem_cons_of_mem _ hg)) q (off + sizeF f)
      have := (hf f (List.mem_cons_self ..)).1
      omega

theorem set_block {w : World} {c k i : Nat} {u : Value} (h : c ≠ k) : (w.setCell ⟨c, i, none⟩ u).heap[k]? = w.heap[k]? := by
  unfold World.setCell
  simp only
  rw [Array.getElem?_modify, if_neg h]
theorem Bd.setOther {w : World} {b c i : Nat} {l : List UInt8} {C : Array Value} {t : TypeId} {fz : Nat × Nat} {u : Value} (h : Bd w b l) (hc : w.heap[c]? = some (.cells C t fz)) (ht : t ≠ 5) (hcb : c ≠ b) : Bd (w.setCell ⟨c, i, none⟩ u) b l := by
  have key : ∀ p, Lib.BuilderAtF 46 5 b b p (Lib.byteCells l) w → Lib.BuilderAtF 46 5 b b p (Lib.byteCells l) (w.setCell ⟨c, i, none⟩ u) := by
    rintro p ⟨h1, v, hb, ho, hne⟩
    refine ⟨h1, v, (set_block hcb).trans hb, ⟨ho.1, ?_⟩, hne⟩
    rcases ho.2 with h0 | ⟨g, cap, cur, fz', hv, h2, hg, rest⟩
    · exact .inl h0
    · refine .inr ⟨g, cap, cur, fz', hv, h2, ?_, rest⟩
      have hgc : c ≠ g := by
        rintro rfl
        rw [hc] at hg
        injection hg with hg
        injection hg with _ e2 _
        exact ht e2
      exact (set_block hgc).trans hg
  rcases h with h | h
  · exact .inl (key _ h)
  · exact .inr (key _ h)
set_option maxHeartbeats 8000000 in
set_option maxRecDepth 100000 in
theorem put_any (A : Option Addr) (n c : Nat) (fs : List (List UInt8 × List UInt8)) (w : World) (hx : Rd w w.heap.size 2 A n (fls fs)) (hn : n ≤ 1000000) (hf : ∀ f ∈ fs, f.1.length ≤ 1000000 ∧ f.2.length ≤ 100000000) (hG : Glob w) :
    Calls Tryd.prog 13 #[.slice A n c] w fun e w' => e = PutRet fs ∧ Below w.heap.size w w' := by
  have HL := Lib.hid hx.fls_length
  have HF := Lib.hid hf
  have HZ := Lib.hid (fun k => sizes_le fs k hf)
  have HC := Lib.hid (acheck_any A n c fs w hx hn (fun f h => (hf f h).1) hG)
  clear hf
  by_cases hck : acheck fs = 0
  · have h128 : n ≤ 128 := by
      unfold acheck at hck
      by_cases h : 128 < fs.length
      · rw [if_pos h] at hck; cases hck
      · rw [HL.out] at h; omega
    have HR : Hid (PutRet fs = .returned (.tuple #[.string (B (putT fs)), .int .i64 0])) := by unfold PutRet putS; rw [hck, if_pos rfl]; rfl
    rw [hck] at HC
    have hmk := fun W => run_makeU32 n hn W
    have HCRC : Hid (sumK fs n n = crcs fs) := by
      unfold sumK crcs
      rw [List.take_of_length_le (by rw [HL.out]; omega), Nat.sub_self]; simp [Hid]
    clear hck
    go_enter Tryd.func13, Tryd.ntmps13
    go_wp2_with fail
    refine HC.out.mono ?_
    rintro e w1 ⟨rfl, hb1⟩
    have h0 : Bd (w1.alloc (.cells #[.pointer none, .slice none 0 0] 46)) w1.heap.size [] := Bd.new w1
    have hs1 := hb1.size
    have hba := hb1.alloc hb1.size (.cells #[.pointer none, .slice none 0 0] 46)
    obtain ⟨wa, hwa⟩ : ∃ wa, wa = w1.alloc (.cells #[.pointer none, .slice none 0 0] 46) := ⟨_, rfl⟩
    have hsa : wa.heap.size = w1.heap.size + 1 := by rw [hwa]; simp
    rw [← hwa] at h0 hba
    have h0b : Bd (wa.alloc (.cells (u32s (List.replicate n 0)).toArray 23)) w1.heap.size [] := h0.alloc _
    have hbb := hba.alloc hba.size (.cells (u32s (List.replicate n 0)).toArray 23)
    have hsb : Sums (wa.alloc (.cells (u32s (List.replicate n 0)).toArray 23)) (w1.heap.size + 1) (sumK fs n 0) := by
      have := heap_alloc_new wa (.cells (u32s (List.replicate n 0)).toArray 23)
      rw [hsa] at this
      exact this
    clear HC h0
    rw [hwa] at hbb hsb h0b
    clear hsa hwa hba
    go_wp2
    generalize ((w1.alloc (.cells #[.pointer none, .slice none 0 0] 46)).alloc (.cells (u32s (List.replicate n 0)).toArray 23)) = W at *
    generalize w1.heap.size = bb at *
    clear hmk
    go_loopw [19] (fun i wr => ∃ k : Nat, k ≤ n ∧ i = .int .i64 k ∧ Bd wr bb (locs (fs.take k)) ∧ Sums wr (bb + 1) (sumK fs n k) ∧ Below w.heap.size w wr) (fun i _ => n - (intOf i).toNat)
    case atStart => exact ⟨0, Nat.zero_le _, rfl, h0b, hsb, hbb⟩
    case round =>
      obtain ⟨k, hk, rfl, hbd, hsu, hbw⟩ := hrel
      have hbs := hbw.size
      have hb1lt : bb + 1 < wr.heap.size := (Array.getElem?_eq_some_iff.1 hsu).1
      by_cases hlt : k < n
      · obtain ⟨b, o, rfl, hm, h0', h1'⟩ := (hx.below hbw).file hlt
        have hkl : k < fs.length := by rw [HL.out]; exact hlt
        have HT := Lib.hid (locs_take fs k hkl)
        have HSK := Lib.hid (sumK_set fs n k HL.out hlt)
        have hskl : k < (sumK fs n k).length := by rw [sumK_len fs n k HL.out hk]; exact hlt
        have hskl2 : k < (sumK fs n (k + 1)).length := by rw [sumK_len fs n (k + 1) HL.out (by omega)]; exact hlt
        have hfl := HF.out _ (fl_mem fs k hkl)
        have hzl := HZ.out k
        have hll : (locs (fs.take k)).length ≤ 101000030 * k := by rw [locs_len]; exact hzl
        generalize fs[k]?.getD ([], []) = f at *
        obtain ⟨hf1, hf2⟩ := hfl
        generalize locs (fs.take k) = L at *
        go_wp2_with fail
        refine (sum_any (B f.2) _ (by rw [B_size]; omega)).mono ?_
        rintro e w2 ⟨rfl, hb2⟩
        rw [B_data]
        have hcl := crc_lt f.2
        have HCR := Lib.hid (show crc f.2 = crc f.2 from rfl)
        have hB2 : Below w.heap.size w w2 := (hbw.alloc hbs _).trans (hb2.mono (hbw.alloc hbs _).size)
        have hB2' : Below wr.heap.size wr w2 := (below_alloc _ _).trans (hb2.mono (by simp))
        have hbd2 := hbd.below hB2'
        have hsu2 : Sums w2 (bb + 1) (sumK fs n k) := (hB2'.block _ hb1lt).trans hsu
        have hbx2 : w2.heap[wr.heap.size]? = some (.cells #[.string (B f.1), .string (B f.2)] 35 (0, 0)) := (hb2.block _ (by simp)).trans (heap_alloc_new wr _)
        have y1 := hsu2.cell hskl
        have y2 := hsu2.free (k := k)
        have hsu3 := hsu2.set (k := k) (crc f.2)
        rw [HSK.out] at hsu3
        have hbd3 : Bd (w2.setCell ⟨bb + 1, k, none⟩ (.int .u32 ((crc f.2 : Nat) : Int))) bb L := hbd2.setOther hsu2 (by decide) (by omega)
        have hbx3 : (w2.setCell ⟨bb + 1, k, none⟩ (.int .u32 ((crc f.2 : Nat) : Int))).heap[wr.heap.size]? = some (.cells #[.string (B f.1), .string (B f.2)] 35 (0, 0)) := (set_block (by omega)).trans hbx2
        have hB3 := hB2.setCell (p := ⟨bb + 1, k, none⟩) (show w.heap.size ≤ bb + 1 by omega) (.int .u32 ((crc f.2 : Nat) : Int))
        have z0 : w2.cell? ⟨wr.heap.size, 0, none⟩ = some (.string (B f.1)) := by simp [World.cell?, hbx2]
        have z1 : w2.cell? ⟨wr.heap.size, 1, none⟩ = some (.string (B f.2)) := by simp [World.cell?, hbx2]
        have HBX := Lib.hid hbx3
        have HSM : Hid ((sumK fs n (k + 1)).getD k 0 = crc f.2) := by rw [← HSK.out]; simp [hskl, Hid]
        clear hb2 hbd hbd2 hsu hsu2 hbx2 hbx3 h0' h1' hB2 hB2'
        have hi0 : (0 : Int) ≤ (k : Int) := by omega
        have hi1 : (k : Int) < (n : Int) := by omega
        generalize hsm : crc f.2 = sm at *
        have HSME := Lib.hid hsm
        clear hsm
        go_wp2
        generalize w2.setCell ⟨bb + 1, k, none⟩ (.int .u32 ((sm : Nat) : Int)) = w3 at *
        have k2 : w3.cell? ⟨bb + 1, k, none⟩ = some (.int .u32 ((sm : Nat) : Int)) := by rw [hsu3.cell hskl2, HSM.out]
        have k0 : w3.cell? ⟨wr.heap.size, 0, none⟩ = some (.string (B f.1)) := by simp [World.cell?, HBX.out]
        have k1 : w3.cell? ⟨wr.heap.size, 1, none⟩ = some (.string (B f.2)) := by simp [World.cell?, HBX.out]
        have hD : DI w w3 bb L w3.drew := ⟨hB3.drew, hbd3.drewN 1, fun _ _ h => h⟩
        have HKK := Lib.hid (And.intro k0 (And.intro k1 k2))
        have hne1 : wr.heap.size ≠ bb := by omega
        clear k0 k1 k2 y1 y2 z0 z1
        have hlp : (locP f sm).flatten.length = sizeF f := by simp [locP, com_len, sizeF]; omega
        have HLP := Lib.hid hlp
        have hsz : sizeF f ≤ 101000030 := by unfold sizeF; omega
        clear hlp
        go_region_held3 (fun w' => w'.cell? ⟨wr.heap.size, 0, none⟩ = some (.string (B f.1)) ∧ w'.cell? ⟨wr.heap.size, 1, none⟩ = some (.string (B f.2)) ∧ w'.cell? ⟨bb + 1, k, none⟩ = some (.int .u32 ((sm : Nat) : Int)))
          (first | exact HSW | exact ⟨hD.cell HKK.out.1, hD.cell HKK.out.2.1, hD.cell HKK.out.2.2⟩ | exact ⟨keeps (below_alloc _ _) (Nat.le_refl _) (hD.cell HKK.out.1), keeps (below_alloc _ _) (Nat.le_refl _) (hD.cell HKK.out.2.1), keeps (below_alloc _ _) (Nat.le_refl _) (hD.cell HKK.out.2.2)⟩)
          (first
            | (go_at_call 21; refine (common_any f.1 f.2 sm _ (by omega) (by omega) hcl).mono ?_; rintro e w' ⟨rfl, hb⟩; have hD' := hD.step hb; clear hD hb; have hD := hD'; clear hD')
            | (go_at_call 20; refine (sjoinE_any _ 4 4 (locP f sm) _ (rd_cells _ _ _ 4 rfl rfl) (by omega) (by omega) (by rw [HLP.out]; omega)).mono ?_; rintro e w' ⟨rfl, hb⟩; have hD' := (hD.step (below_alloc _ _)).step hb; clear hD hb; have hD := hD'; clear hD')
            | (go_at_call 19; refine (writeString_any bb L _ _ hD.d (by rw [B_size, HLP.out]; omega)).mono ?_; rintro e w' ⟨rfl, hd', hkp⟩; rw [B_data] at hd'; have hB' := hD.b.trans (hkp.1.mono hs1); have hx' := kept_cell hkp (hD.k _ _ HBX.out) hne1 (by decide); have hs' : Sums w' (bb + 1) (sumK fs n (k + 1)) := kept_cell hkp (hD.k _ _ hsu3) (by omega) (by decide); have HSW : w'.cell? ⟨wr.heap.size, 0, none⟩ = some (.string (B f.1)) ∧ w'.cell? ⟨wr.heap.size, 1, none⟩ = some (.string (B f.2)) ∧ w'.cell? ⟨bb + 1, k, none⟩ = some (.int .u32 ((sm : Nat) : Int)) := ⟨by simp [World.cell?, hx'], by simp [World.cell?, hx'], by rw [hs'.cell hskl2, HSM.out]⟩))
        have HN : Hid (L ++ (locP f sm).flatten = locs (fs.take (k + 1))) := by rw [HT.out]; unfold locT; rw [HSME.out]; rfl
        rw [HN.out] at hd'
        clear HSW hx' hkp hD HKK HBX hbd3 hsu3
        go_wp2
        go_roundw
        case rel => exact ⟨k + 1, by omega, by go_num, hd', hs', hB'⟩
        case measure => simp [intOf]; omega
      · obtain rfl : k = n := by omega
        have HT : Hid (fs.take k = fs) := List.take_of_length_le (by rw [HL.out]; omega)
        rw [HT.out] at hbd
        rw [HCRC.out] at hsu
        have hzl := HZ.out k
        rw [HT.out] at hzl
        have hll : (locs fs).length ≤ 101000030 * k := by rw [locs_len]; exact hzl
        have hcn := cens_len fs HF.out (crcs fs) 0
        rw [HL.out] at hcn
        have hdl : (dirT fs (crcs fs)).length = (cens fs (crcs fs) 0).length + 22 := by simp [dirT, dirP, le2L, le4L]
        have hdl2 : (dirT fs (crcs fs)).length ≤ 1000046 * k + 22 := by omega
        have hcl2 : (crcs fs).length = k := by unfold crcs; rw [List.length_map, HL.out]
        have HCL := Lib.hid (fun (s : Nat) (hs : s ∈ crcs fs) => show s < 4294967296 from by
          unfold crcs at hs
          obtain ⟨f, _, rfl⟩ := List.mem_map.1 hs
          exact crc_lt _)
        rename World => wo
        have hxo := (hx.below hbw).more hbs
        have hso := hsu.rd hcl2
        have HD := Lib.hid (directory_any A (some ⟨bb + 1, 0, none⟩) k c k fs (crcs fs) wo hxo hso h128 HF.out HCL.out)
        have HPT : Hid (putT fs = locs fs ++ dirT fs (crcs fs)) := rfl
        clear hdl hcn hcl2 hxo hso
        generalize dirT fs (crcs fs) = DT at *
        generalize locs fs = L at *
        go_wp2_with fail
        refine HD.out.mono ?_
        rintro e w2 ⟨rfl, hb2⟩
        have hd2 := hbd.below hb2
        have hB2 := hbw.trans (hb2.mono hbw.size)
        clear HD hbd hb2 hbw
        go_wp2_with fail
        refine (writeString_any bb L (B DT) w2 hd2 (by rw [B_size]; omega)).mono ?_
        rintro e w3 ⟨rfl, hd3, hk3⟩
        rw [B_data] at hd3
        have hB3 := hB2.trans (hk3.1.mono hs1)
        clear hd2 hB2 hk3
        go_wp2_with fail
        refine (string_any bb _ w3 hd3).mono ?_
        rintro e w4 ⟨rfl, hd4, hk4⟩
        have hB4 := hB3.trans (hk4.1.mono hs1)
        go_wp2
        go_ret2
        exact ⟨by rw [HR.out, HPT.out]; rfl, hB4⟩
  · have HR : Hid (PutRet fs = .returned (.tuple #[.string ⟨#[]⟩, .int .i64 (acheck fs)])) := by unfold PutRet putS; rw [if_neg hck]; rfl
    have en : (acheck fs != 0) = true := by simpa using hck
    generalize acheck fs = ck at *
    clear hck
    go_enter Tryd.func13, Tryd.ntmps13
    go_wp2_with fail
    refine HC.out.mono ?_
    rintro e w1 ⟨rfl, hb1⟩
    go_wp2
    go_ret2
    exact ⟨by rw [HR.out]; rfl, hb1⟩
end Go.Proofs.YtofbcblhpflleaaDoor
