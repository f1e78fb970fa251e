/-
  Layer 4's reference: heavy, Small: what is known of a small document.
-/
import Derived.Test.YtejjidbodfoiiaaGreatDoorLdE
import Derived.Deep.RegionHeld3
namespace Go.Proofs.YtejjidbodfoiiaaGreatDoor
open Go.RowKit
set_option linter.unusedVariables false
set_option linter.unusedSimpArgs false
attribute [local go_sem] B_data B_size

/-- what is known of a block of a small document -/
def smB : Bk → Prop
  | .mk k lv nf tx ds ti id ao ln ks => tx.length + nf.length + ds.length + ti.length ≤ 300 ∧ longB id ao = false ∧ ∀ x ∈ dpL ln, smI x
def HvPost (l : List Bk) (d : Nat) (w : World) (e : Ending) (w' : World) : Prop := ∃ r : Nat, e = .returned (.int .i64 (r : Int)) ∧ r ≤ (22 - d) * 100000000000000000 ∧ (r < 1000 → (evL l).length ≤ r ∧ ∀ x ∈ flL l, smB x) ∧ Below w.heap.size w w'
theorem evL_cons_take {l : List Bk} {j : Nat} (h : j < l.length) : evL (l.take (j + 1)) = evL (l.take j) ++ (.b l[j] :: ((dpL l[j].ln).map Ev.i ++ evL l[j].ks)) := by
  rw [evL_take (List.getElem?_eq_getElem h), evB_eq]
theorem flL_cons_take {l : List Bk} {j : Nat} (h : j < l.length) : flL (l.take (j + 1)) = flL (l.take j) ++ (l[j] :: flL l[j].ks) := by
  rw [flL_take (List.getElem?_eq_getElem h)]
  congr 1
  cases l[j]; rfl
set_option maxHeartbeats 20000000 in
set_option maxRecDepth 100000 in
theorem heavy_list (l : List Bk)
    (IH : ∀ x ∈ l, ∀ (A : Option Addr) (n c d : Nat) (di : Int) (w : World), BsB w w.heap.size x.ks ⟨A, n, c⟩ → d ≤ 21 → di = (d : Int) → Calls Tryz.prog 29 #[.slice A n c, .int .i64 di] w (HvPost x.ks d w))
    (A : Option Addr) (n c d : Nat) (di : Int) (w : World) (h : BsB w w.heap.size l ⟨A, n, c⟩) (hd : d ≤ 21) (hdi : di = (d : Int)) :
    Calls Tryz.prog 29 #[.slice A n c, .int .i64 di] w (HvPost l d w) := by
  subst hdi
  have hln := h.count
  have hn := h.max
  simp only at hln hn
  subst hln
  have HI := Lib.hid IH
  have HB := Lib.hid h
  clear IH h
  by_cases h20 : 20 < d
  · have d1 : (20 : Int) < (d : Int) := by omega
    go_enter Tryz.func29, Tryz.ntmps29
    go_wp2
    go_ret
    exact ⟨1000, rfl, by omega, fun h => by omega, .refl _ _⟩
  have d1 : ¬ (20 : Int) < (d : Int) := by omega
  by_cases h200 : 200 < l.length
  · have d2 : (200 : Int) < (l.length : Int) := by omega
    go_enter Tryz.func29, Tryz.ntmps29
    go_wp2
    go_ret
    exact ⟨1000, rfl, by omega, fun h => by omega, .refl _ _⟩
  have d2 : ¬ (200 : Int) < (l.length : Int) := by omega
  go_enter Tryz.func29, Tryz.ntmps29
  go_wp2
  clear d1 d2
  go_loopw [5, 6] (fun nv i wr => ∃ (j m : Nat), j ≤ l.length ∧ i = .int .i64 j ∧ nv = .int .i64 (m : Int) ∧ m ≤ (22 - d) * 100000000000000000 ∧ Hid (m < 1000 → (evL (l.take j)).length + (l.length - j) ≤ m ∧ ∀ x ∈ flL (l.take j), smB x) ∧ Below w.heap.size w wr) (fun _ i _ => l.length - (intOf i).toNat)
  case atStart => exact ⟨0, l.length, Nat.zero_le _, rfl, rfl, by omega, fun _ => ⟨by simp [evL], by simp [flL]⟩, .refl _ _⟩
  case round =>
    obtain ⟨j, m, hj, rfl, rfl, hmx, hf, hb⟩ := hrel
    by_cases hlt : j < l.length
    · have hj1 : (j : Int) < (l.length : Int) := by omega
      by_cases hm : m < 1000
      · have hm1 : (m : Int) < 1000 := by omega
        have hkj : l[j]? = some l[j] := List.getElem?_eq_getElem hlt
        have HT := Lib.hid (evL_cons_take hlt)
        have HT2 := Lib.hid (flL_cons_take hlt)
        obtain ⟨x, bb, o, e, hx, hcell, hbm⟩ := HB.out.elem hkj
        (try simp only at e)
        subst e
        have hx := (hx.below hb).more hb.size
        have hcell : CellsAt wr bb (o + j * 11) x.cells := fun r u hu => (hb.cell (p := ⟨bb, o + j * 11 + r, none⟩) (by show bb < _; omega)).trans (hcell r u hu)
        have HI2 := Lib.hid (HI.out _ (List.getElem_mem hlt))
        generalize l[j] = z at *
        obtain ⟨k, lv, nf, tx, ds, ti, id, ao, ln, ks⟩ := z
        have HSM : Hid (smB (.mk k lv nf tx ds ti id ao ln ks) ↔ tx.length + nf.length + ds.length + ti.length ≤ 300 ∧ longB id ao = false ∧ ∀ x ∈ dpL ln, smI x) := Iff.rfl
        obtain ⟨⟨ek, ev, en, et, ed, ei, eid⟩, ⟨hc1, hp1⟩, hli, hkd⟩ := hx.parts
        have hok := hx.ok
        obtain ⟨xk, xlv, xnf, xtx, xds, xti, xid, xcl, xpr, xln, xkd⟩ := x
        simp only at ek ev en et ed ei eid hc1 hp1 hli hkd
        subst ek ev en et ed ei eid
        have c0 : wr.cell? ⟨bb, o + j * 11, none⟩ = some (.int .i64 xk) := hcell 0 _ rfl
        have c1 : wr.cell? ⟨bb, o + j * 11 + 1, none⟩ = some (.int .i64 xlv) := hcell 1 _ rfl
        have c2 : wr.cell? ⟨bb, o + j * 11 + 2, none⟩ = some (.string (B xnf)) := hcell 2 _ rfl
        have c3 : wr.cell? ⟨bb, o + j * 11 + 3, none⟩ = some (.string (B xtx)) := hcell 3 _ rfl
        have c4 : wr.cell? ⟨bb, o + j * 11 + 4, none⟩ = some (.string (B xds)) := hcell 4 _ rfl
        have c5 : wr.cell? ⟨bb, o + j * 11 + 5, none⟩ = some (.string (B xti)) := hcell 5 _ rfl
        have c6 : wr.cell? ⟨bb, o + j * 11 + 6, none⟩ = some (.string (B xid)) := hcell 6 _ rfl
        have c7 : wr.cell? ⟨bb, o + j * 11 + 7, none⟩ = some (.slice xcl.A xcl.n xcl.c) := hcell 7 _ rfl
        have c8 : wr.cell? ⟨bb, o + j * 11 + 8, none⟩ = some (.slice xpr.A xpr.n xpr.c) := hcell 8 _ rfl
        have c9 : wr.cell? ⟨bb, o + j * 11 + 9, none⟩ = some (.slice xln.A xln.n xln.c) := hcell 9 _ rfl
        have c10 : wr.cell? ⟨bb, o + j * 11 + 10, none⟩ = some (.slice xkd.A xkd.n xkd.c) := hcell 10 _ rfl
        clear hcell hx
        have l0 : xnf.length ≤ 140737488355328 := hok _ (by simp [bkT])
        have l1 : xtx.length ≤ 140737488355328 := hok _ (by simp [bkT])
        have l2 : xds.length ≤ 140737488355328 := hok _ (by simp [bkT])
        have l3 : xti.length ≤ 140737488355328 := hok _ (by simp [bkT])
        have l4 : xid.length ≤ 140737488355328 := hok _ (by simp [bkT])
        have hoo : okT (aoT ao) := fun s hs => hok s (by unfold bkT; exact List.mem_append.2 (.inr hs))
        have HOO := Lib.hid hoo
        clear hok hoo
        have bA := below_alloc wr (.cells #[.int .i64 xk, .int .i64 xlv, .string (B xnf), .string (B xtx), .string (B xds), .string (B xti), .string (B xid), .slice xcl.A xcl.n xcl.c, .slice xpr.A xpr.n xpr.c, .slice xln.A xln.n xln.c, .slice xkd.A xkd.n xkd.c] 54)
        have hqA : CellsAt (wr.alloc (.cells #[.int .i64 xk, .int .i64 xlv, .string (B xnf), .string (B xtx), .string (B xds), .string (B xti), .string (B xid), .slice xcl.A xcl.n xcl.c, .slice xpr.A xpr.n xpr.c, .slice xln.A xln.n xln.c, .slice xkd.A xkd.n xkd.c] 54)) wr.heap.size 0 [.int .i64 xk, .int .i64 xlv, .string (B xnf), .string (B xtx), .string (B xds), .string (B xti), .string (B xid), .slice xcl.A xcl.n xcl.c, .slice xpr.A xpr.n xpr.c, .slice xln.A xln.n xln.c, .slice xkd.A xkd.n xkd.c] := cells_of_new wr _ _
        go_upto_region 8 with fail
        have hszA : (wr.alloc (.cells #[.int .i64 xk, .int .i64 xlv, .string (B xnf), .string (B xtx), .string (B xds), .string (B xti), .string (B xid), .slice xcl.A xcl.n xcl.c, .slice xpr.A xpr.n xpr.c, .slice xln.A xln.n xln.c, .slice xkd.A xkd.n xkd.c] 54)).heap.size = wr.heap.size + 1 := by simp
        generalize wr.alloc (.cells #[.int .i64 xk, .int .i64 xlv, .string (B xnf), .string (B xtx), .string (B xds), .string (B xti), .string (B xid), .slice xcl.A xcl.n xcl.c, .slice xpr.A xpr.n xpr.c, .slice xln.A xln.n xln.c, .slice xkd.A xkd.n xkd.c] 54) = W at *
        have hBW := hb.trans (bA.mono hb.size)
        have hc1W := (hc1.below bA).more bA.size
        have hp1W := (hp1.below bA).more bA.size
        have hliW := (hli.below bA).more bA.size
        have hkdW := (hkd.below bA).more bA.size
        have HL := Lib.hid (long_any xid ao xcl xpr W hc1W hp1W l4 HOO.out)
        clear hc1 hp1 hli hkd hc1W hp1W c0 c1 c2 c3 c4 c5 c6 c7 c8 c9 c10 bA hb HOO
        have q2 : W.cell? ⟨wr.heap.size, 2, none⟩ = some (.string (B xnf)) := hqA 2 _ rfl
        have q3 : W.cell? ⟨wr.heap.size, 3, none⟩ = some (.string (B xtx)) := hqA 3 _ rfl
        have q4 : W.cell? ⟨wr.heap.size, 4, none⟩ = some (.string (B xds)) := hqA 4 _ rfl
        have q5 : W.cell? ⟨wr.heap.size, 5, none⟩ = some (.string (B xti)) := hqA 5 _ rfl
        have q6 : W.cell? ⟨wr.heap.size, 6, none⟩ = some (.string (B xid)) := hqA 6 _ rfl
        have q7 : W.cell? ⟨wr.heap.size, 7, none⟩ = some (.slice xcl.A xcl.n xcl.c) := hqA 7 _ rfl
        have q8 : W.cell? ⟨wr.heap.size, 8, none⟩ = some (.slice xpr.A xpr.n xpr.c) := hqA 8 _ rfl
        have q9 : W.cell? ⟨wr.heap.size, 9, none⟩ = some (.slice xln.A xln.n xln.c) := hqA 9 _ rfl
        have q10 : W.cell? ⟨wr.heap.size, 10, none⟩ = some (.slice xkd.A xkd.n xkd.c) := hqA 10 _ rfl
        clear hqA
        have hqW : wr.heap.size < W.heap.size := by omega
        have i1 : IntKind.i64.wrap ((xtx.length : Int) + (xnf.length : Int)) = (xtx.length : Int) + (xnf.length : Int) := IntWalk.i64_in _ (by omega)
        have i2 : IntKind.i64.wrap ((xtx.length : Int) + (xnf.length : Int) + (xds.length : Int)) = (xtx.length : Int) + (xnf.length : Int) + (xds.length : Int) := IntWalk.i64_in _ (by omega)
        have i3 : IntKind.i64.wrap ((xtx.length : Int) + (xnf.length : Int) + (xds.length : Int) + (xti.length : Int)) = (xtx.length : Int) + (xnf.length : Int) + (xds.length : Int) + (xti.length : Int) := IntWalk.i64_in _ (by omega)
        generalize wr.heap.size = qb at *
        clear hszA
        by_cases h300 : 300 < xtx.length + xnf.length + xds.length + xti.length
        · have p1 : decide ((300 : Int) < (xtx.length : Int) + (xnf.length : Int) + (xds.length : Int) + (xti.length : Int)) = true := by simp; omega
          go_wp2
          go_ret
          exact ⟨1000, rfl, by omega, fun h => by omega, hBW⟩
        have p1 : decide ((300 : Int) < (xtx.length : Int) + (xnf.length : Int) + (xds.length : Int) + (xti.length : Int)) = false := by simp; omega
        by_cases hlg : longB xid ao = true
        · rw [hlg] at HL
          go_wp2_with fail
          refine HL.out.mono ?_
          rintro e w5 ⟨rfl, hb5⟩
          have hB5 := hBW.trans (hb5.mono hBW.size)
          go_wp2
          go_ret
          exact ⟨1000, rfl, by omega, fun h => by omega, hB5⟩
        have hlg : longB xid ao = false := by simpa using hlg
        rw [hlg] at HL
        go_wp2_with fail
        refine HL.out.mono ?_
        rintro e w5 ⟨rfl, hb5⟩
        have hb5 := hb5.drew
        have hB5 := hBW.trans (hb5.mono hBW.size)
        have r9 : w5.drew.cell? ⟨qb, 9, none⟩ = some (.slice xln.A xln.n xln.c) := (hb5.cell (p := ⟨qb, 9, none⟩) hqW).trans q9
        have r10 : w5.drew.cell? ⟨qb, 10, none⟩ = some (.slice xkd.A xkd.n xkd.c) := (hb5.cell (p := ⟨qb, 10, none⟩) hqW).trans q10
        have hG : IsB w5.drew w5.drew.heap.size ln ⟨xln.A, xln.n, xln.c⟩ ∧ BsB w5.drew w5.drew.heap.size ks ⟨xkd.A, xkd.n, xkd.c⟩ ∧ qb < w5.drew.heap.size := ⟨(hliW.below hb5).more hb5.size, (hkdW.below hb5).more hb5.size, Nat.lt_of_lt_of_le hqW hb5.size⟩
        have C1 := Lib.hid (fun V (hV : IsB V V.heap.size ln ⟨xln.A, xln.n, xln.c⟩) => weight_any ln xln.A xln.n xln.c 0 V hV (by omega))
        have C2 := Lib.hid (fun V (hV : BsB V V.heap.size ks ⟨xkd.A, xkd.n, xkd.c⟩) => HI2.out xkd.A xkd.n xkd.c (d + 1) ((d : Int) + 1) V hV (by omega) (by omega))
        have hmz : m ≤ 1000 := by omega
        clear hliW hkdW hqW q2 q3 q4 q5 q6 q7 q8 q9 q10 hb5 hBW HL i1 i2 i3 HI2
        have i0 : IntKind.i64.wrap ((d : Int) + 1) = (d : Int) + 1 := IntWalk.i64_in _ (by omega)
        go_wp2_with fail
        go_region_held3 (fun w' => w'.cell? ⟨qb, 9, none⟩ = some (.slice xln.A xln.n xln.c) ∧ w'.cell? ⟨qb, 10, none⟩ = some (.slice xkd.A xkd.n xkd.c)) (first | exact ⟨r9, r10⟩)
          (first
            | (go_at_call 51; refine (C1.out _ hG.1).mono ?_; rintro e w' ⟨r1, rfl, hr1, hrf1, hb⟩; have HRF1 := Lib.hid hrf1; have hG' := And.intro ((hG.1.below hb).more hb.size) (And.intro ((hG.2.1.below hb).more hb.size) (Nat.lt_of_lt_of_le hG.2.2 hb.size)); have hB' := hB5.trans (hb.mono hB5.size); have r9' := (hb.cell (p := ⟨qb, 9, none⟩) hG.2.2).trans r9; have r10' := (hb.cell (p := ⟨qb, 10, none⟩) hG.2.2).trans r10; clear hG hB5 r9 r10 hb hrf1; have hG := hG'; have hB5 := hB'; have r9 := r9'; have r10 := r10'; clear hG' hB' r9' r10'; (try (have iA : IntKind.i64.wrap ((r1 : Int) + (r2 : Int)) = (r1 : Int) + (r2 : Int) := IntWalk.i64_in _ (by omega); have iB : IntKind.i64.wrap ((m : Int) + ((r1 : Int) + (r2 : Int))) = (m : Int) + ((r1 : Int) + (r2 : Int)) := IntWalk.i64_in _ (by omega))))
            | (go_at_call 29; refine (C2.out _ hG.2.1).mono ?_; rintro e w' ⟨r2, rfl, hr2, hrf2, hb⟩; have HRF2 := Lib.hid hrf2; have hG' := And.intro ((hG.1.below hb).more hb.size) (And.intro ((hG.2.1.below hb).more hb.size) (Nat.lt_of_lt_of_le hG.2.2 hb.size)); have hB' := hB5.trans (hb.mono hB5.size); have r9' := (hb.cell (p := ⟨qb, 9, none⟩) hG.2.2).trans r9; have r10' := (hb.cell (p := ⟨qb, 10, none⟩) hG.2.2).trans r10; clear hG hB5 r9 r10 hb hrf2; have hG := hG'; have hB5 := hB'; have r9 := r9'; have r10 := r10'; clear hG' hB' r9' r10'; (try (have iA : IntKind.i64.wrap ((r1 : Int) + (r2 : Int)) = (r1 : Int) + (r2 : Int) := IntWalk.i64_in _ (by omega); have iB : IntKind.i64.wrap ((m : Int) + ((r1 : Int) + (r2 : Int))) = (m : Int) + ((r1 : Int) + (r2 : Int)) := IntWalk.i64_in _ (by omega)))))
        have HF2 : Hid (m + (r1 + r2) < 1000 → (evL (l.take (j + 1))).length + (l.length - (j + 1)) ≤ m + (r1 + r2) ∧ ∀ x ∈ flL (l.take (j + 1)), smB x) := fun hmr => by
          obtain ⟨f1, f2⟩ := hf.out hm
          obtain ⟨g1, g2⟩ := HRF1.out (by omega)
          obtain ⟨k1, k2⟩ := HRF2.out (by omega)
          rw [HT.out, HT2.out]
          refine ⟨?_, fun x hx => ?_⟩
          · rw [List.length_append, List.length_cons, List.length_append, List.length_map]
            have g1 : (dpL (Bk.ln (.mk xk xlv xnf xtx xds xti xid ao ln ks))).length ≤ r1 := g1
            have k1 : (evL (Bk.ks (.mk xk xlv xnf xtx xds xti xid ao ln ks))).length ≤ r2 := k1
            omega
          · rcases List.mem_append.1 hx with hx | hx
            · exact f2 x hx
            rcases List.mem_cons.1 hx with rfl | hx
            · exact HSM.out.2 ⟨by omega, hlg, g2⟩
            · exact k2 x hx
        clear HRF1 HRF2 C1 C2 hf HT HT2 HSM r9 r10 hG
        go_wp2
        go_roundw
        case rel => exact ⟨j + 1, m + (r1 + r2), by omega, by go_num, by go_num, by omega, HF2, hB5⟩
        case measure => simp [intOf]; omega
      · have hm1 : ¬ (m : Int) < 1000 := by omega
        go_wp2
        go_ret
        exact ⟨m, rfl, hmx, fun h => absurd h hm, hb⟩
    · have hj1 : ¬ (j : Int) < (l.length : Int) := by omega
      have HX : Hid (m < 1000 → (evL l).length ≤ m ∧ ∀ x ∈ flL l, smB x) := fun hm => by
        have := hf.out hm
        rw [List.take_of_length_le (by omega)] at this
        exact ⟨by omega, this.2⟩
      go_wp2
      go_ret
      exact ⟨m, rfl, hmx, HX.out, hb⟩
theorem heavy_any (l : List Bk) (A : Option Addr) (n c d : Nat) (w : World) (h : BsB w w.heap.size l ⟨A, n, c⟩) (hd : d ≤ 21) :
    Calls Tryz.prog 29 #[.slice A n c, .int .i64 (d : Int)] w (HvPost l d w) := by
  have H : ∀ x : Bk, ∀ (A : Option Addr) (n c d : Nat) (di : Int) (w : World), BsB w w.heap.size x.ks ⟨A, n, c⟩ → d ≤ 21 → di = (d : Int) → Calls Tryz.prog 29 #[.slice A n c, .int .i64 di] w (HvPost x.ks d w) := by
    refine Bk.ind ?_
    intro k lv nf tx ds ti id ao ln ks IH A n c d di w h hd hdi
    exact heavy_list ks IH A n c d di w h hd hdi
  exact heavy_list l (fun x _ => H x) A n c d _ w h hd rfl
/-- what is known of a small document -/
def smD (ms : List (Bs × Bs)) (l : List Bk) : Prop := ms.length ≤ 70 ∧ (∀ p ∈ ms, p.1.length + p.2.length ≤ 300) ∧ (evL l).length ≤ 120 ∧ ∀ x ∈ flL l, smB x
def SmPost (ms : List (Bs × Bs)) (l : List Bk) (w : World) (e : Ending) (w' : World) : Prop := ∃ b : Bool, e = .returned (.bool b) ∧ (b = true → smD ms l) ∧ Below w.heap.size w w'
set_option maxHeartbeats 8000000 in
set_option maxRecDepth 100000 in
theorem small_any (ms : List (Bs × Bs)) (l : List Bk) (mt s : Sl) (w : World) (hm : Rd w w.heap.size 2 mt.A mt.n (ms.flatMap prF)) (ho : okT (ms.flatMap fun p => [p.1, p.2])) (h : BsB w w.heap.size l s) :
    Calls Tryz.prog 11 #[.agg #[.slice mt.A mt.n mt.c, .slice s.A s.n s.c]] w (SmPost ms l w) := by
  obtain ⟨A1, n1, c1⟩ := mt
  obtain ⟨A2, n2, c2⟩ := s
  have e1 : ms.length = n1 := hm.count prF 2 prF_len (by omega)
  subst e1
  have bA := below_alloc w (.cells #[.slice A1 ms.length c1, .slice A2 n2 c2] 30)
  have hq := heap_alloc_new w (.cells #[.slice A1 ms.length c1, .slice A2 n2 c2] 30)
  have hlw : w.heap.size < (w.alloc (.cells #[.slice A1 ms.length c1, .slice A2 n2 c2] 30)).heap.size := by simp
  go_enter Tryz.func11, Tryz.ntmps11
  by_cases h70 : 70 < ms.length
  · have p1 : (70 : Int) < (ms.length : Int) := by omega
    go_wp2
    go_ret
    exact ⟨false, rfl, fun h => by simp at h, bA⟩
  have p1 : ¬ (70 : Int) < (ms.length : Int) := by omega
  go_wp2_with fail
  generalize w.alloc (.cells #[.slice A1 ms.length c1, .slice A2 n2 c2] 30) = W at *
  have k0 : W.cell? ⟨w.heap.size, 0, none⟩ = some (.slice A1 ms.length c1) := by simp [World.cell?, hq]
  have k1 : W.cell? ⟨w.heap.size, 1, none⟩ = some (.slice A2 n2 c2) := by simp [World.cell?, hq]
  clear hq
  go_wp2
  go_loopw [3] (fun i wx => ∃ (j : Nat), j ≤ ms.length ∧ i = .int .i64 j ∧ Hid (∀ p ∈ ms.take j, p.1.length + p.2.length ≤ 300) ∧ Below W.heap.size W wx) (fun i _ => ms.length - (intOf i).toNat)
  case atStart => exact ⟨0, Nat.zero_le _, rfl, (fun p hp => by simp at hp), .refl _ _⟩
  case round =>
    obtain ⟨j, hj, rfl, hf, hbx⟩ := hrel
    have hB2 := bA.trans (hbx.mono bA.size)
    have j0 : wr.cell? ⟨w.heap.size, 0, none⟩ = some (.slice A1 ms.length c1) := (hbx.cell (p := ⟨w.heap.size, 0, none⟩) hlw).trans k0
    have j1 : wr.cell? ⟨w.heap.size, 1, none⟩ = some (.slice A2 n2 c2) := (hbx.cell (p := ⟨w.heap.size, 1, none⟩) hlw).trans k1
    by_cases hlt : j < ms.length
    · have hfa : ms[j]? = some ms[j] := List.getElem?_eq_getElem hlt
      obtain ⟨bb, o, e, hbm, hcell⟩ := (hm.below hB2).elem prF 2 prF_len (by omega) hfa
      (try simp only at e)
      subst e
      have d0 : wr.cell? ⟨bb, o + j * 2, none⟩ = some (.string (B ms[j].1)) := hcell 0 _ rfl
      have d1 : wr.cell? ⟨bb, o + j * 2 + 1, none⟩ = some (.string (B ms[j].2)) := hcell 1 _ rfl
      have q1 := ho ms[j].1 (List.mem_flatMap.2 ⟨ms[j], List.getElem_mem hlt, by simp⟩)
      have q2 := ho ms[j].2 (List.mem_flatMap.2 ⟨ms[j], List.getElem_mem hlt, by simp⟩)
      have HTK : Hid (∀ a ∈ ms.take (j + 1), a ∈ ms.take j ∨ a = ms[j]) := fun a ha => by rw [List.take_succ_eq_append_getElem hlt, List.mem_append, List.mem_singleton] at ha; exact ha
      have hj1 : (j : Int) < (ms.length : Int) := by omega
      clear hcell
      generalize ms[j] = p at *
      have i1 : IntKind.i64.wrap ((p.1.length : Int) + (p.2.length : Int)) = (p.1.length : Int) + (p.2.length : Int) := IntWalk.i64_in _ (by omega)
      by_cases h3 : 300 < p.1.length + p.2.length
      · have p2 : decide ((300 : Int) < (p.1.length : Int) + (p.2.length : Int)) = true := by simp; omega
        go_wp2
        go_quiet (fail)
        go_wp2
        go_ret
        exact ⟨false, rfl, fun h => by simp at h, below_drewN hB2 _⟩
      · have p2 : decide ((300 : Int) < (p.1.length : Int) + (p.2.length : Int)) = false := by simp; omega
        go_wp2
        go_quiet (fail)
        go_wp2
        go_roundw
        case rel => exact ⟨j + 1, by omega, by go_num, fun a ha => (HTK.out a ha).elim (hf.out a) (fun h => by rw [h]; omega), below_drewN hbx _⟩
        case measure => simp [intOf]; omega
    · have hj1 : ¬ (j : Int) < (ms.length : Int) := by omega
      have HFM : Hid (∀ p ∈ ms, p.1.length + p.2.length ≤ 300) := fun p hp => hf.out p (by rw [List.take_of_length_le (by omega)]; exact hp)
      have hsW := (h.below hB2).more hB2.size
      have HC := Lib.hid (heavy_any l A2 n2 c2 0 wr hsW (by omega))
      clear hf
      go_wp2_with fail
      refine HC.out.mono ?_
      rintro e w7 ⟨r, rfl, hr, hrf, hb7⟩
      have HRF := Lib.hid hrf
      have hB7 := hB2.trans (hb7.mono hB2.size)
      clear hrf HC
      by_cases h120 : r ≤ 120
      · have p2 : decide ((r : Int) ≤ 120) = true := by simp; omega
        go_wp2
        go_ret
        exact ⟨true, rfl, fun _ => ⟨by omega, HFM.out, by have := (HRF.out (by omega)).1; omega, (HRF.out (by omega)).2⟩, hB7⟩
      · have p2 : decide ((r : Int) ≤ 120) = false := by simp; omega
        go_wp2
        go_ret
        exact ⟨false, rfl, fun h => by simp at h, hB7⟩
end Go.Proofs.YtejjidbodfoiiaaGreatDoor
