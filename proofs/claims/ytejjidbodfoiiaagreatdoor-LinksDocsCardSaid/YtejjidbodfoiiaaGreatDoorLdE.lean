/-
  Layer 4's reference: long, weight, heavy, Small: what is known of a small document.
-/
import Derived.Test.YtejjidbodfoiiaaGreatDoorLkDV
import Derived.Deep.CutBlock
import Derived.Deep.DeepCutAuto
namespace Go.Proofs.YtejjidbodfoiiaaGreatDoor
open Go.RowKit
set_option linter.unusedVariables false
set_option linter.unusedSimpArgs false
attribute [local go_sem] B_data B_size

def sumL (l : List Bs) : Nat := (l.map List.length).sum
def sumP (l : List (Bs × Bs)) : Nat := (l.map fun p => p.1.length + p.2.length).sum
/-- are attributes many, or their texts? -/
def longB (id : Bs) (a : Ao) : Bool := decide (40 < a.cls.length) || decide (40 < a.prs.length) || decide (600 < id.length + sumL a.cls + sumP a.prs)
theorem sumL_snoc {l : List Bs} {j : Nat} (h : j < l.length) : sumL (l.take (j + 1)) = sumL (l.take j) + l[j].length := by
  unfold sumL; rw [List.take_succ_eq_append_getElem h, List.map_append, List.sum_append]; simp
theorem sumP_snoc {l : List (Bs × Bs)} {j : Nat} (h : j < l.length) : sumP (l.take (j + 1)) = sumP (l.take j) + (l[j].1.length + l[j].2.length) := by
  unfold sumP; rw [List.take_succ_eq_append_getElem h, List.map_append, List.sum_append]; simp
theorem sumL_le {l : List Bs} (h : okT l) : ∀ j, j ≤ l.length → sumL (l.take j) ≤ 140737488355328 * j := by
  intro j
  induction j with
  | zero => intro _; simp [sumL]
  | succ j ih =>
    intro hj
    rw [sumL_snoc hj]
    have := h _ (List.getElem_mem hj)
    have := ih (by omega)
    omega
theorem sumP_le {l : List (Bs × Bs)} (h : okT (l.flatMap fun p => [p.1, p.2])) : ∀ j, j ≤ l.length → sumP (l.take j) ≤ 281474976710656 * j := by
  intro j
  induction j with
  | zero => intro _; simp [sumP]
  | succ j ih =>
    intro hj
    rw [sumP_snoc hj]
    have h1 := h l[j].1 (List.mem_flatMap.2 ⟨l[j], List.getElem_mem hj, by simp⟩)
    have h2 := h l[j].2 (List.mem_flatMap.2 ⟨l[j], List.getElem_mem hj, by simp⟩)
    have := ih (by omega)
    omega
set_option maxHeartbeats 4000000 in
set_option maxRecDepth 100000 in
theorem long_any (id : Bs) (ao : Ao) (cl pr : Sl) (w : World) (h1 : Rd w w.heap.size 1 cl.A cl.n (strs ao.cls)) (h2 : Rd w w.heap.size 2 pr.A pr.n (ao.prs.flatMap prF)) (hi : id.length ≤ 140737488355328) (ho : okT (aoT ao)) :
    Calls Tryz.prog 50 #[.agg #[.string (B id), .slice cl.A cl.n cl.c, .slice pr.A pr.n pr.c]] w (fun e w' => e = .returned (.bool (longB id ao)) ∧ Below w.heap.size w w') := by
  obtain ⟨cls, prs⟩ := ao
  obtain ⟨A1, n1, c1⟩ := cl
  obtain ⟨A2, n2, c2⟩ := pr
  have e1 : cls.length = n1 := by have := h1.1; rw [strs_len] at this; simpa using this
  have e2 : prs.length = n2 := h2.count prF 2 prF_len (by omega)
  subst e1 e2
  have oc : okT cls := fun s hs => ho s (List.mem_append.2 (.inl hs))
  have op : okT (prs.flatMap fun p => [p.1, p.2]) := fun s hs => ho s (List.mem_append.2 (.inr hs))
  have HSC := Lib.hid (sumL_le oc)
  have HSP := Lib.hid (sumP_le op)
  have HLB : Hid (longB id ⟨cls, prs⟩ = (decide (40 < cls.length) || decide (40 < prs.length) || decide (600 < id.length + sumL cls + sumP prs))) := rfl
  have hba := below_alloc w (.cells #[.string (B id), .slice A1 cls.length c1, .slice A2 prs.length c2] 48)
  go_enter Tryz.func50, Tryz.ntmps50
  by_cases hc : 40 < cls.length
  · have hc1 : (40 : Int) < (cls.length : Int) := by omega
    go_wp2
    go_ret
    exact ⟨ret_bool (by rw [HLB.out]; simp [hc]), hba⟩
  by_cases hp : 40 < prs.length
  · have hc1 : ¬ (40 : Int) < (cls.length : Int) := by omega
    have hp1 : (40 : Int) < (prs.length : Int) := by omega
    go_wp2
    go_ret
    exact ⟨ret_bool (by rw [HLB.out]; simp [hp]), hba⟩
  have hc1 : ¬ (40 : Int) < (cls.length : Int) := by omega
  have hp1 : ¬ (40 : Int) < (prs.length : Int) := by omega
  have hq := heap_alloc_new w (.cells #[.string (B id), .slice A1 cls.length c1, .slice A2 prs.length c2] 48)
  go_wp2_with fail
  have hlw : w.heap.size < (w.alloc (.cells #[.string (B id), .slice A1 cls.length c1, .slice A2 prs.length c2] 48)).heap.size := by simp
  generalize w.alloc (.cells #[.string (B id), .slice A1 cls.length c1, .slice A2 prs.length c2] 48) = W at *
  have k1 : W.cell? ⟨w.heap.size, 1, none⟩ = some (.slice A1 cls.length c1) := by simp [World.cell?, hq]
  have k2 : W.cell? ⟨w.heap.size, 2, none⟩ = some (.slice A2 prs.length c2) := by simp [World.cell?, hq]
  clear hq
  go_wp2
  go_loop [3, 4] (fun n i => ∃ (j : Nat), j ≤ cls.length ∧ i = .int .i64 j ∧ n = .int .i64 ((id.length + sumL (cls.take j) : Nat) : Int)) (fun _ i => cls.length - (intOf i).toNat)
  case atStart => exact ⟨0, Nat.zero_le _, rfl, by simp [sumL]⟩
  case round =>
    obtain ⟨j, hj, rfl, rfl⟩ := hrel
    by_cases hlt : j < cls.length
    · have hfa : cls[j]? = some cls[j] := List.getElem?_eq_getElem hlt
      obtain ⟨ad, e, hcc⟩ := (h1.below hba).str hlt
      (try simp only at e)
      subst e
      rw [show cls.getD j [] = cls[j] by simp [List.getD, hfa]] at hcc
      have HT := Lib.hid (sumL_snoc hlt)
      have hl1 := oc _ (List.getElem_mem hlt)
      have hl2 := HSC.out j (by omega)
      have hj1 : (j : Int) < (cls.length : Int) := by omega
      generalize cls[j] = x at *
      generalize hS : sumL (cls.take j) = S at *
      go_wp2
      go_round
      case rel => exact ⟨j + 1, by omega, by go_num, by rw [HT.out]; go_num⟩
      case measure => simp [intOf]; omega
    · rw [List.take_of_length_le (by omega)]
      have hj1 : ¬ (j : Int) < (cls.length : Int) := by omega
      have hl2 := HSC.out cls.length (Nat.le_refl _)
      rw [List.take_length] at hl2
      generalize hS : sumL cls = S at *
      go_wp2
      go_loopw [3, 5] (fun n i wx => ∃ (m : Nat), m ≤ prs.length ∧ i = .int .i64 m ∧ n = .int .i64 ((id.length + S + sumP (prs.take m) : Nat) : Int) ∧ Below W.heap.size W wx) (fun _ i _ => prs.length - (intOf i).toNat)
      case atStart => exact ⟨0, Nat.zero_le _, rfl, by simp [sumP], .refl _ _⟩
      case round =>
        obtain ⟨m, hm, rfl, rfl, hbx⟩ := hrel
        have hba2 := hba.trans (hbx.mono hba.size)
        have j2 : wr.cell? ⟨w.heap.size, 2, none⟩ = some (.slice A2 prs.length c2) := (hbx.cell (p := ⟨w.heap.size, 2, none⟩) hlw).trans k2
        by_cases hlm : m < prs.length
        · have hfa : prs[m]? = some prs[m] := List.getElem?_eq_getElem hlm
          obtain ⟨bb, o, e, hbm, hcell⟩ := (h2.below hba2).elem prF 2 prF_len (by omega) hfa
          (try simp only at e)
          subst e
          have d0 : wr.cell? ⟨bb, o + m * 2, none⟩ = some (.string (B prs[m].1)) := hcell 0 _ rfl
          have d1 : wr.cell? ⟨bb, o + m * 2 + 1, none⟩ = some (.string (B prs[m].2)) := hcell 1 _ rfl
          clear hcell
          have HT := Lib.hid (sumP_snoc hlm)
          have hm1 : (m : Int) < (prs.length : Int) := by omega
          have q1 := op prs[m].1 (List.mem_flatMap.2 ⟨prs[m], List.getElem_mem hlm, by simp⟩)
          have q2 := op prs[m].2 (List.mem_flatMap.2 ⟨prs[m], List.getElem_mem hlm, by simp⟩)
          have q3 := HSP.out m (by omega)
          generalize prs[m].1 = x at *
          generalize prs[m].2 = y at *
          generalize hP : sumP (prs.take m) = P at *
          have i1 : IntKind.i64.wrap ((x.length : Int) + (y.length : Int)) = (x.length : Int) + (y.length : Int) := IntWalk.i64_in _ (by omega)
          have i2 : IntKind.i64.wrap (((id.length + S + P : Nat) : Int) + ((x.length : Int) + (y.length : Int))) = ((id.length + S + P : Nat) : Int) + ((x.length : Int) + (y.length : Int)) := IntWalk.i64_in _ (by omega)
          go_wp2
          go_quiet (fail)
          go_wp2
          go_roundw
          case rel => exact ⟨m + 1, by omega, by go_num, by rw [HT.out]; go_num, below_drewN hbx _⟩
          case measure => simp [intOf]; omega
        · rw [List.take_of_length_le (by omega)]
          have hm1 : ¬ (m : Int) < (prs.length : Int) := by omega
          generalize hP : sumP prs = P at *
          go_wp2
          go_ret
          refine ⟨ret_bool ?_, hba2⟩
          rw [HLB.out, decide_eq_false hc, decide_eq_false hp, Bool.false_or, Bool.false_or, decide_eq_decide]
          omega
/-- what is known of an inline of a small document -/
def smI : In → Prop
  | .mk k tx ds ti id ao ags cts ks => tx.length + ds.length + ti.length ≤ 300 ∧ longB id ao = false ∧ ags.length ≤ 9 ∧ cts.length ≤ 9 ∧ (∀ a ∈ ags, a.length ≤ 40000) ∧ (∀ c ∈ cts, c.key.length + c.pre.length + c.suf.length ≤ 40000)
def WtPost (l : List In) (d : Nat) (w : World) (e : Ending) (w' : World) : Prop := ∃ r : Nat, e = .returned (.int .i64 (r : Int)) ∧ r ≤ (22 - d) * 1000000000000000 ∧ (r < 1000 → (dpL l).length ≤ r ∧ ∀ x ∈ dpL l, smI x) ∧ Below w.heap.size w w'
theorem dpL_cons_take {l : List In} {j : Nat} (h : j < l.length) : dpL (l.take (j + 1)) = dpL (l.take j) ++ (l[j] :: dpL l[j].ks) := by
  rw [dpL_take (List.getElem?_eq_getElem h), dpI_eq]
theorem cells_of_new (w : World) (xs : List Value) (t : TypeId) : CellsAt (w.alloc (.cells xs.toArray t)) w.heap.size 0 xs := by
  intro j u hj
  rw [Nat.zero_add, cell_of_row (w.alloc (.cells xs.toArray t)) w.heap.size j xs.toArray t (0, 0) (heap_alloc_new w _)]
  simpa using hj
set_option maxHeartbeats 20000000 in
set_option maxRecDepth 100000 in
theorem weight_list (l : List In)
    (IH : ∀ x ∈ l, ∀ (A : Option Addr) (n c d : Nat) (di : Int) (w : World), IsB w w.heap.size x.ks ⟨A, n, c⟩ → d ≤ 21 → di = (d : Int) → Calls Tryz.prog 51 #[.slice A n c, .int .i64 di] w (WtPost x.ks d w))
    (A : Option Addr) (n c d : Nat) (di : Int) (w : World) (h : IsB w w.heap.size l ⟨A, n, c⟩) (hd : d ≤ 21) (hdi : di = (d : Int)) :
    Calls Tryz.prog 51 #[.slice A n c, .int .i64 di] w (WtPost l d w) := by
  subst hdi
  have hln := h.count
  have hn := h.max
  simp only at hln hn
  subst hln
  have HI := Lib.hid IH
  have HB := Lib.hid h
  clear IH h
  by_cases h20 : 20 < d
  · have d1 : (20 : Int) < (d : Int) := by omega
    go_enter Tryz.func51, Tryz.ntmps51
    go_wp2
    go_ret
    exact ⟨1000, rfl, by omega, fun h => by omega, .refl _ _⟩
  have d1 : ¬ (20 : Int) < (d : Int) := by omega
  by_cases h200 : 200 < l.length
  · have d2 : (200 : Int) < (l.length : Int) := by omega
    go_enter Tryz.func51, Tryz.ntmps51
    go_wp2
    go_ret
    exact ⟨1000, rfl, by omega, fun h => by omega, .refl _ _⟩
  have d2 : ¬ (200 : Int) < (l.length : Int) := by omega
  go_enter Tryz.func51, Tryz.ntmps51
  go_wp2
  clear d1 d2
  go_loopw [5, 6] (fun nv i wr => ∃ (j m : Nat), j ≤ l.length ∧ i = .int .i64 j ∧ nv = .int .i64 (m : Int) ∧ m ≤ (22 - d) * 1000000000000000 ∧ Hid (m < 1000 → (dpL (l.take j)).length + (l.length - j) ≤ m ∧ ∀ x ∈ dpL (l.take j), smI x) ∧ Below w.heap.size w wr) (fun _ i _ => l.length - (intOf i).toNat)
  case atStart => exact ⟨0, l.length, Nat.zero_le _, rfl, rfl, by omega, fun _ => ⟨by simp [dpL], by simp [dpL]⟩, .refl _ _⟩
  case round =>
    obtain ⟨j, m, hj, rfl, rfl, hmx, hf, hb⟩ := hrel
    by_cases hlt : j < l.length
    · have hj1 : (j : Int) < (l.length : Int) := by omega
      by_cases hm : m < 1000
      · have hm1 : (m : Int) < 1000 := by omega
        have hkj : l[j]? = some l[j] := List.getElem?_eq_getElem hlt
        have HT := Lib.hid (dpL_cons_take hlt)
        obtain ⟨x, bb, o, e, hx, hcell, hbm⟩ := HB.out.elem hkj
        (try simp only at e)
        subst e
        have hx := (hx.below hb).more hb.size
        have hcell : CellsAt wr bb (o + j * 10) x.cells := fun r u hu => (hb.cell (p := ⟨bb, o + j * 10 + r, none⟩) (by show bb < _; omega)).trans (hcell r u hu)
        have HI2 := Lib.hid (HI.out _ (List.getElem_mem hlt))
        generalize l[j] = z at *
        obtain ⟨k, tx, ds, ti, id, ao, ags, cts, ks⟩ := z
        have HSM : Hid (smI (.mk k tx ds ti id ao ags cts ks) ↔ tx.length + ds.length + ti.length ≤ 300 ∧ longB id ao = false ∧ ags.length ≤ 9 ∧ cts.length ≤ 9 ∧ (∀ a ∈ ags, a.length ≤ 40000) ∧ (∀ c ∈ cts, c.key.length + c.pre.length + c.suf.length ≤ 40000)) := Iff.rfl
        obtain ⟨⟨ek, et, ed, ei, eid⟩, ⟨hc1, hp1⟩, hag, hct, hkd⟩ := hx.parts
        have hok := hx.ok
        obtain ⟨xk, xtx, xds, xti, xid, xcl, xpr, xag, xct, xkd⟩ := x
        simp only at ek et ed ei eid hc1 hp1 hag hct hkd
        subst ek et ed ei eid
        have c0 : wr.cell? ⟨bb, o + j * 10, none⟩ = some (.int .i64 xk) := hcell 0 _ rfl
        have c1 : wr.cell? ⟨bb, o + j * 10 + 1, none⟩ = some (.string (B xtx)) := hcell 1 _ rfl
        have c2 : wr.cell? ⟨bb, o + j * 10 + 2, none⟩ = some (.string (B xds)) := hcell 2 _ rfl
        have c3 : wr.cell? ⟨bb, o + j * 10 + 3, none⟩ = some (.string (B xti)) := hcell 3 _ rfl
        have c4 : wr.cell? ⟨bb, o + j * 10 + 4, none⟩ = some (.string (B xid)) := hcell 4 _ rfl
        have c5 : wr.cell? ⟨bb, o + j * 10 + 5, none⟩ = some (.slice xcl.A xcl.n xcl.c) := hcell 5 _ rfl
        have c6 : wr.cell? ⟨bb, o + j * 10 + 6, none⟩ = some (.slice xpr.A xpr.n xpr.c) := hcell 6 _ rfl
        have c7 : wr.cell? ⟨bb, o + j * 10 + 7, none⟩ = some (.slice xag.A xag.n xag.c) := hcell 7 _ rfl
        have c8 : wr.cell? ⟨bb, o + j * 10 + 8, none⟩ = some (.slice xct.A xct.n xct.c) := hcell 8 _ rfl
        have c9 : wr.cell? ⟨bb, o + j * 10 + 9, none⟩ = some (.slice xkd.A xkd.n xkd.c) := hcell 9 _ rfl
        clear hcell hx
        have l1 : xtx.length ≤ 140737488355328 := hok _ (by simp [inT])
        have l2 : xds.length ≤ 140737488355328 := hok _ (by simp [inT])
        have l3 : xti.length ≤ 140737488355328 := hok _ (by simp [inT])
        have l4 : xid.length ≤ 140737488355328 := hok _ (by simp [inT])
        have HOA : Hid (∀ a ∈ ags, a.length ≤ 140737488355328) := fun a ha => hok a (by simp [inT, ha])
        have HOC : Hid (∀ c ∈ cts, c.key.length ≤ 140737488355328 ∧ c.pre.length ≤ 140737488355328 ∧ c.suf.length ≤ 140737488355328) := fun c hc => ⟨hok _ (by unfold inT; exact List.mem_append.2 (.inr (List.mem_flatMap.2 ⟨c, hc, by simp⟩))), hok _ (by unfold inT; exact List.mem_append.2 (.inr (List.mem_flatMap.2 ⟨c, hc, by simp⟩))), hok _ (by unfold inT; exact List.mem_append.2 (.inr (List.mem_flatMap.2 ⟨c, hc, by simp⟩)))⟩
        have hoo : okT (aoT ao) := fun s hs => hok s (by unfold inT; exact List.mem_append.2 (.inl (List.mem_append.2 (.inl (List.mem_append.2 (.inr hs))))))
        have HOO := Lib.hid hoo
        clear hok hoo
        have eag : ags.length = xag.n := by have := hag.1; rw [strs_len] at this; simpa using this
        have ect : cts.length = xct.n := hct.count ctF 4 ctF_len (by omega)
        have bA := below_alloc wr (.cells #[.int .i64 xk, .string (B xtx), .string (B xds), .string (B xti), .string (B xid), .slice xcl.A xcl.n xcl.c, .slice xpr.A xpr.n xpr.c, .slice xag.A xag.n xag.c, .slice xct.A xct.n xct.c, .slice xkd.A xkd.n xkd.c] 52)
        have hqA : CellsAt (wr.alloc (.cells #[.int .i64 xk, .string (B xtx), .string (B xds), .string (B xti), .string (B xid), .slice xcl.A xcl.n xcl.c, .slice xpr.A xpr.n xpr.c, .slice xag.A xag.n xag.c, .slice xct.A xct.n xct.c, .slice xkd.A xkd.n xkd.c] 52)) wr.heap.size 0 [.int .i64 xk, .string (B xtx), .string (B xds), .string (B xti), .string (B xid), .slice xcl.A xcl.n xcl.c, .slice xpr.A xpr.n xpr.c, .slice xag.A xag.n xag.c, .slice xct.A xct.n xct.c, .slice xkd.A xkd.n xkd.c] := cells_of_new wr _ _
        go_upto_region 8 with fail
        have hszA : (wr.alloc (.cells #[.int .i64 xk, .string (B xtx), .string (B xds), .string (B xti), .string (B xid), .slice xcl.A xcl.n xcl.c, .slice xpr.A xpr.n xpr.c, .slice xag.A xag.n xag.c, .slice xct.A xct.n xct.c, .slice xkd.A xkd.n xkd.c] 52)).heap.size = wr.heap.size + 1 := by simp
        generalize wr.alloc (.cells #[.int .i64 xk, .string (B xtx), .string (B xds), .string (B xti), .string (B xid), .slice xcl.A xcl.n xcl.c, .slice xpr.A xpr.n xpr.c, .slice xag.A xag.n xag.c, .slice xct.A xct.n xct.c, .slice xkd.A xkd.n xkd.c] 52) = W at *
        have hBW := hb.trans (bA.mono hb.size)
        have hc1W := (hc1.below bA).more bA.size
        have hp1W := (hp1.below bA).more bA.size
        have hagW := (hag.below bA).more bA.size
        have hctW := (hct.below bA).more bA.size
        have hkdW := (hkd.below bA).more bA.size
        have HL := Lib.hid (long_any xid ao xcl xpr W hc1W hp1W l4 HOO.out)
        clear hc1 hp1 hag hct hkd hc1W hp1W c0 c1 c2 c3 c4 c5 c6 c7 c8 c9 bA hb HOO
        have q1 : W.cell? ⟨wr.heap.size, 1, none⟩ = some (.string (B xtx)) := hqA 1 _ rfl
        have q2 : W.cell? ⟨wr.heap.size, 2, none⟩ = some (.string (B xds)) := hqA 2 _ rfl
        have q3 : W.cell? ⟨wr.heap.size, 3, none⟩ = some (.string (B xti)) := hqA 3 _ rfl
        have q4 : W.cell? ⟨wr.heap.size, 4, none⟩ = some (.string (B xid)) := hqA 4 _ rfl
        have q5 : W.cell? ⟨wr.heap.size, 5, none⟩ = some (.slice xcl.A xcl.n xcl.c) := hqA 5 _ rfl
        have q6 : W.cell? ⟨wr.heap.size, 6, none⟩ = some (.slice xpr.A xpr.n xpr.c) := hqA 6 _ rfl
        have q7 : W.cell? ⟨wr.heap.size, 7, none⟩ = some (.slice xag.A xag.n xag.c) := hqA 7 _ rfl
        have q8 : W.cell? ⟨wr.heap.size, 8, none⟩ = some (.slice xct.A xct.n xct.c) := hqA 8 _ rfl
        have q9 : W.cell? ⟨wr.heap.size, 9, none⟩ = some (.slice xkd.A xkd.n xkd.c) := hqA 9 _ rfl
        clear hqA
        have hqW : wr.heap.size < W.heap.size := by omega
        have i1 : IntKind.i64.wrap ((xtx.length : Int) + (xds.length : Int)) = (xtx.length : Int) + (xds.length : Int) := IntWalk.i64_in _ (by omega)
        have i2 : IntKind.i64.wrap ((xtx.length : Int) + (xds.length : Int) + (xti.length : Int)) = (xtx.length : Int) + (xds.length : Int) + (xti.length : Int) := IntWalk.i64_in _ (by omega)
        generalize wr.heap.size = qb at *
        clear hszA
        by_cases h300 : 300 < xtx.length + xds.length + xti.length
        · have p1 : decide ((300 : Int) < (xtx.length : Int) + (xds.length : Int) + (xti.length : Int)) = true := by simp; omega
          go_wp2
          go_ret
          exact ⟨1000, rfl, by omega, fun h => by omega, hBW⟩
        have p1 : decide ((300 : Int) < (xtx.length : Int) + (xds.length : Int) + (xti.length : Int)) = false := by simp; omega
        by_cases hlg : longB xid ao = true
        · rw [hlg] at HL
          go_wp2_with fail
          refine HL.out.mono ?_
          rintro e w5 ⟨rfl, hb5⟩
          have hB5 := hBW.trans (hb5.mono hBW.size)
          go_wp2
          go_ret
          exact ⟨1000, rfl, by omega, fun h => by omega, hB5⟩
        have hlg : longB xid ao = false := by simpa using hlg
        rw [hlg] at HL
        go_wp2_with fail
        refine HL.out.mono ?_
        rintro e w5 ⟨rfl, hb5⟩
        have hB5 := hBW.trans (hb5.mono hBW.size)
        have r7 : w5.cell? ⟨qb, 7, none⟩ = some (.slice xag.A xag.n xag.c) := (hb5.cell (p := ⟨qb, 7, none⟩) hqW).trans q7
        have r8 : w5.cell? ⟨qb, 8, none⟩ = some (.slice xct.A xct.n xct.c) := (hb5.cell (p := ⟨qb, 8, none⟩) hqW).trans q8
        have r9 : w5.cell? ⟨qb, 9, none⟩ = some (.slice xkd.A xkd.n xkd.c) := (hb5.cell (p := ⟨qb, 9, none⟩) hqW).trans q9
        have hag5 := (hagW.below hb5).more hb5.size
        have hct5 := (hctW.below hb5).more hb5.size
        have hkd5 := (hkdW.below hb5).more hb5.size
        have hq5 : qb < w5.heap.size := Nat.lt_of_lt_of_le hqW hb5.size
        clear hagW hctW hkdW hqW q1 q2 q3 q4 q5 q6 q7 q8 q9 hb5 hBW HL i1 i2
        by_cases ha9 : 9 < ags.length
        · have p2 : (9 : Int) < (xag.n : Int) := by omega
          go_wp2
          go_ret
          exact ⟨1000, rfl, by omega, fun h => by omega, hB5⟩
        have p2 : ¬ (9 : Int) < (xag.n : Int) := by omega
        by_cases hc9 : 9 < cts.length
        · have p3 : (9 : Int) < (xct.n : Int) := by omega
          go_wp2
          go_ret
          exact ⟨1000, rfl, by omega, fun h => by omega, hB5⟩
        have p3 : ¬ (9 : Int) < (xct.n : Int) := by omega
        go_wp2
        clear p1 p2 p3
        go_loop [5, 8] (fun nv i => ∃ (k m1 : Nat), k ≤ ags.length ∧ i = .int .i64 k ∧ nv = .int .i64 (m1 : Int) ∧ m ≤ m1 ∧ m1 ≤ m + k * 3518437208884 ∧ Hid (∀ a ∈ ags.take k, a.length ≤ 40 * m1 + 39)) (fun _ i => ags.length - (intOf i).toNat)
        case atStart => exact ⟨0, m, Nat.zero_le _, rfl, rfl, Nat.le_refl _, by omega, fun a ha => by simp at ha⟩
        case round =>
          obtain ⟨k, m1, hk, rfl, rfl, hm1a, hm1b, hfa⟩ := hrel
          by_cases hka : k < ags.length
          · have hfk : ags[k]? = some ags[k] := List.getElem?_eq_getElem hka
            obtain ⟨ad, e, hcc⟩ := hag5.str (by omega : k < xag.n)
            rw [e] at r7
            rw [show ags.getD k [] = ags[k] by simp [List.getD, hfk]] at hcc
            have hl1 := HOA.out _ (List.getElem_mem hka)
            have HTK : Hid (∀ a ∈ ags.take (k + 1), a ∈ ags.take k ∨ a = ags[k]) := fun a ha => by rw [List.take_succ_eq_append_getElem hka, List.mem_append, List.mem_singleton] at ha; exact ha
            have hk1 : (k : Int) < (xag.n : Int) := by omega
            generalize ags[k] = a at *
            have t1 : (a.length : Int).tdiv 40 = (a.length : Int) / 40 := Int.tdiv_eq_ediv_of_nonneg (by omega)
            have w1 : IntKind.i64.wrap ((a.length : Int) / 40) = (a.length : Int) / 40 := IntWalk.i64_in _ (by omega)
            have w2 : IntKind.i64.wrap ((m1 : Int) + (a.length : Int) / 40) = (m1 : Int) + (a.length : Int) / 40 := IntWalk.i64_in _ (by omega)
            go_wp2
            go_round
            case rel => exact ⟨k + 1, m1 + a.length / 40, by omega, by go_num, by go_num, by omega, by omega, fun b hb => (HTK.out b hb).elim (fun h => by have := hfa.out b h; omega) (fun h => by rw [h]; omega)⟩
            case measure => simp [intOf]; omega
          · have hk1 : ¬ (k : Int) < (xag.n : Int) := by omega
            have HFA : Hid (∀ a ∈ ags, a.length ≤ 40 * m1 + 39) := fun a ha => hfa.out a (by rw [List.take_of_length_le (by omega)]; exact ha)
            have hm1c : m1 ≤ m + 31665934879956 := by omega
            clear hfa hm1b HOA
            go_wp2
            go_loopw [5, 9] (fun nv i wx => ∃ (k2 m2 : Nat), k2 ≤ cts.length ∧ i = .int .i64 k2 ∧ nv = .int .i64 (m2 : Int) ∧ m1 ≤ m2 ∧ m2 ≤ m1 + k2 * 10555311626700 ∧ Hid (∀ c ∈ cts.take k2, c.key.length + c.pre.length + c.suf.length ≤ 40 * m2 + 39) ∧ Below w5.heap.size w5 wx) (fun _ i _ => cts.length - (intOf i).toNat)
            case atStart => exact ⟨0, m1, Nat.zero_le _, rfl, rfl, Nat.le_refl _, by omega, (fun a ha => by simp at ha), .refl _ _⟩
            case round =>
              obtain ⟨k2, m2, hk2, rfl, rfl, hm2a, hm2b, hfc, hbx⟩ := hrel
              have s7 : wr.cell? ⟨qb, 7, none⟩ = some (.slice xag.A xag.n xag.c) := (hbx.cell (p := ⟨qb, 7, none⟩) hq5).trans r7
              have s8 : wr.cell? ⟨qb, 8, none⟩ = some (.slice xct.A xct.n xct.c) := (hbx.cell (p := ⟨qb, 8, none⟩) hq5).trans r8
              have s9 : wr.cell? ⟨qb, 9, none⟩ = some (.slice xkd.A xkd.n xkd.c) := (hbx.cell (p := ⟨qb, 9, none⟩) hq5).trans r9
              by_cases hkc : k2 < cts.length
              · have hfk : cts[k2]? = some cts[k2] := List.getElem?_eq_getElem hkc
                obtain ⟨cb, co, e, hbm2, hcc⟩ := (hct5.below hbx).elem ctF 4 ctF_len (by omega) hfk
                rw [e] at s8
                have hl1 := HOC.out _ (List.getElem_mem hkc)
                have HTK : Hid (∀ a ∈ cts.take (k2 + 1), a ∈ cts.take k2 ∨ a = cts[k2]) := fun a ha => by rw [List.take_succ_eq_append_getElem hkc, List.mem_append, List.mem_singleton] at ha; exact ha
                have hk1 : (k2 : Int) < (xct.n : Int) := by omega
                generalize cts[k2] = a at *
                obtain ⟨ky, pr, sf, br⟩ := a
                obtain ⟨hl1, hl2, hl3⟩ := hl1
                simp only at hl1 hl2 hl3
                have e0 : wr.cell? ⟨cb, co + k2 * 4, none⟩ = some (.string (B ky)) := hcc 0 _ rfl
                have e1 : wr.cell? ⟨cb, co + k2 * 4 + 1, none⟩ = some (.string (B pr)) := hcc 1 _ rfl
                have e2 : wr.cell? ⟨cb, co + k2 * 4 + 2, none⟩ = some (.string (B sf)) := hcc 2 _ rfl
                have e3 : wr.cell? ⟨cb, co + k2 * 4 + 3, none⟩ = some (.bool br) := hcc 3 _ rfl
                have t1 : ((ky.length : Int) + (pr.length : Int) + (sf.length : Int)).tdiv 40 = ((ky.length : Int) + (pr.length : Int) + (sf.length : Int)) / 40 := Int.tdiv_eq_ediv_of_nonneg (by omega)
                have w0 : IntKind.i64.wrap ((ky.length : Int) + (pr.length : Int)) = (ky.length : Int) + (pr.length : Int) := IntWalk.i64_in _ (by omega)
                have w1 : IntKind.i64.wrap ((ky.length : Int) + (pr.length : Int) + (sf.length : Int)) = (ky.length : Int) + (pr.length : Int) + (sf.length : Int) := IntWalk.i64_in _ (by omega)
                have w2 : IntKind.i64.wrap (((ky.length : Int) + (pr.length : Int) + (sf.length : Int)) / 40) = ((ky.length : Int) + (pr.length : Int) + (sf.length : Int)) / 40 := IntWalk.i64_in _ (by omega)
                have w3 : IntKind.i64.wrap ((m2 : Int) + ((ky.length : Int) + (pr.length : Int) + (sf.length : Int)) / 40) = (m2 : Int) + ((ky.length : Int) + (pr.length : Int) + (sf.length : Int)) / 40 := IntWalk.i64_in _ (by omega)
                have hbN := hbx.alloc hbx.size (.cells #[.string (B ky), .string (B pr), .string (B sf), .bool br] 137)
                clear hcc s7 s9
                go_wp2
                go_roundw
                case rel => exact ⟨k2 + 1, m2 + (ky.length + pr.length + sf.length) / 40, by omega, by go_num, by go_num, by omega, by omega, (fun b hb => (HTK.out b hb).elim (fun h => by have := hfc.out b h; omega) (fun h => by rw [h]; show ky.length + pr.length + sf.length ≤ _; omega)), hbN⟩
                case measure => simp [intOf]; omega
              · have hk1 : ¬ (k2 : Int) < (xct.n : Int) := by omega
                have HFC : Hid (∀ c ∈ cts, c.key.length + c.pre.length + c.suf.length ≤ 40 * m2 + 39) := fun a ha => hfc.out a (by rw [List.take_of_length_le (by omega)]; exact ha)
                have hm2c : m2 ≤ m1 + 94997804640300 := by omega
                have hB6 := hB5.trans (hbx.mono hB5.size)
                have hkd6 := (hkd5.below hbx).more hbx.size
                have HC := Lib.hid (HI2.out xkd.A xkd.n xkd.c (d + 1) ((d : Int) + 1) wr hkd6 (by omega) (by omega))
                clear hfc hm2b HOC s7 HI2 hkd6
                go_wp2_with fail
                refine HC.out.mono ?_
                rintro e w7 ⟨r, rfl, hr, hrf, hb7⟩
                have HRF := Lib.hid hrf
                have hB7 := hB6.trans (hb7.mono hB6.size)
                have HF2 : Hid (m2 + r < 1000 → (dpL (l.take (j + 1))).length + (l.length - (j + 1)) ≤ m2 + r ∧ ∀ x ∈ dpL (l.take (j + 1)), smI x) := fun hmr => by
                  obtain ⟨f1, f2⟩ := hf.out hm
                  obtain ⟨g1, g2⟩ := HRF.out (by omega)
                  rw [HT.out]
                  refine ⟨?_, fun x hx => ?_⟩
                  · rw [List.length_append, List.length_cons]
                    have g1 : (dpL (In.ks (.mk xk xtx xds xti xid ao ags cts ks))).length ≤ r := g1
                    omega
                  · rcases List.mem_append.1 hx with hx | hx
                    · exact f2 x hx
                    rcases List.mem_cons.1 hx with rfl | hx
                    · refine HSM.out.2 ⟨by omega, hlg, by omega, by omega, fun a ha => ?_, fun c hc => ?_⟩
                      · have := HFA.out a ha; omega
                      · have := HFC.out c hc; omega
                    · exact g2 x hx
                clear hrf HRF HFA HFC HC hf HT HSM s8 s9 hbx
                go_wp2
                go_roundw
                case rel => exact ⟨j + 1, m2 + r, by omega, by go_num, by go_num, by omega, HF2, hB7⟩
                case measure => simp [intOf]; omega
      · have hm1 : ¬ (m : Int) < 1000 := by omega
        go_wp2
        go_ret
        exact ⟨m, rfl, hmx, fun h => absurd h hm, hb⟩
    · have hj1 : ¬ (j : Int) < (l.length : Int) := by omega
      have HX : Hid (m < 1000 → (dpL l).length ≤ m ∧ ∀ x ∈ dpL l, smI x) := fun hm => by
        have := hf.out hm
        rw [List.take_of_length_le (by omega)] at this
        exact ⟨by omega, this.2⟩
      go_wp2
      go_ret
      exact ⟨m, rfl, hmx, HX.out, hb⟩
theorem weight_any (l : List In) (A : Option Addr) (n c d : Nat) (w : World) (h : IsB w w.heap.size l ⟨A, n, c⟩) (hd : d ≤ 21) :
    Calls Tryz.prog 51 #[.slice A n c, .int .i64 (d : Int)] w (WtPost l d w) := by
  have H : ∀ x : In, ∀ (A : Option Addr) (n c d : Nat) (di : Int) (w : World), IsB w w.heap.size x.ks ⟨A, n, c⟩ → d ≤ 21 → di = (d : Int) → Calls Tryz.prog 51 #[.slice A n c, .int .i64 di] w (WtPost x.ks d w) := by
    refine In.ind ?_
    intro k tx ds ti id ao ags cts ks IH A n c d di w h hd hdi
    exact weight_list ks IH A n c d di w h hd hdi
  exact weight_list l (fun x _ => H x) A n c d _ w h hd rfl
end Go.Proofs.YtejjidbodfoiiaaGreatDoor
