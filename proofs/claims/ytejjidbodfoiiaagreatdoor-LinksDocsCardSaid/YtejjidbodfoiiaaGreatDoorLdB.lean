/-
  Layer 44 (links), LinksDocs: the chapter's lists of all blocks, of all inlines of blocks. Printed by gen_ldb.py.
-/
import Derived.Test.YtejjidbodfoiiaaGreatDoorLdA
namespace Go.Proofs.YtejjidbodfoiiaaGreatDoor
open Go.RowKit
set_option linter.unusedVariables false
set_option linter.unusedSimpArgs false
attribute [local go_sem] B_data B_size

set_option maxHeartbeats 8000000 in
set_option maxRecDepth 100000 in
/-- the blocks of a list, given what is done for the kids of each -/
theorem list_list (M : Nat) (ks : List Bk)
    (IH : ∀ x ∈ ks, ∀ (A : Option Addr) (n c : Nat) (w : World), M ≤ w.heap.size → BsB w M x.ks ⟨A, n, c⟩ → (flL x.ks).length ≤ 1000000000 → Calls Tryz.prog 89 #[.slice A n c] w (DBPost M (flL x.ks) w))
    (A : Option Addr) (n c : Nat) (w : World) (hM : M ≤ w.heap.size) (h : BsB w M ks ⟨A, n, c⟩) (hl : (flL ks).length ≤ 1000000000) :
    Calls Tryz.prog 89 #[.slice A n c] w (DBPost M (flL ks) w) := by
  obtain ⟨cs, hrd, ⟨hlen, hn⟩, hget⟩ := h
  have hcn : cs.length = n := hrd.count BC.cells 11 BC.cells_len (by omega)
  have HI := Lib.hid IH
  clear IH
  have HLEN : Hid (∀ j, j ≤ ks.length → (flL (ks.take j)).length ≤ (flL ks).length) := fun j hj => by
    have e : flL ks = flL (ks.take j) ++ flL (ks.drop j) := by rw [← flL_app, List.take_append_drop]
    rw [e, List.length_append]; omega
  go_enter Tryz.func89, Tryz.ntmps89
  go_wp2
  go_loopw [3, 4] (fun fv i wr => ∃ (j : Nat), j ≤ ks.length ∧ i = .int .i64 j ∧ RB wr w.heap.size M fv (flL (ks.take j)) ∧ Below w.heap.size w wr) (fun _ i _ => ks.length - (intOf i).toNat)
  case atStart => exact ⟨0, Nat.zero_le _, rfl, ⟨[], ⟨rfl, .inl ⟨rfl, rfl⟩⟩, .nil⟩, .refl _ _⟩
  case round =>
    obtain ⟨j, hj, rfl, ⟨cv, hown, hLv⟩, hb⟩ := hrel
    have hsw := hb.size
    by_cases hlt : j < ks.length
    · have hkj : ks[j]? = some ks[j] := List.getElem?_eq_getElem hlt
      have HT := Lib.hid (flL_take hkj)
      have HI2 := Lib.hid (HI.out _ (List.getElem_mem hlt))
      have HL2 := HLEN.out (j + 1) hlt
      rw [HT.out, flB_ks, List.length_append, List.length_cons] at HL2
      obtain ⟨x, hcj, hx⟩ := hget j _ hkj
      generalize ks[j] = k at *
      obtain ⟨bb, o, rfl, hbm, hcell⟩ := (hrd.below (hb.mono hM)).elem BC.cells 11 BC.cells_len (by omega) hcj
      have c_0 : wr.cell? ⟨bb, o + j * 11, none⟩ = some (.int .i64 x.k) := hcell 0 _ rfl
      have c_1 : wr.cell? ⟨bb, o + j * 11 + 1, none⟩ = some (.int .i64 x.lv) := hcell 1 _ rfl
      have c_2 : wr.cell? ⟨bb, o + j * 11 + 2, none⟩ = some (.string (B x.nf)) := hcell 2 _ rfl
      have c_3 : wr.cell? ⟨bb, o + j * 11 + 3, none⟩ = some (.string (B x.tx)) := hcell 3 _ rfl
      have c_4 : wr.cell? ⟨bb, o + j * 11 + 4, none⟩ = some (.string (B x.ds)) := hcell 4 _ rfl
      have c_5 : wr.cell? ⟨bb, o + j * 11 + 5, none⟩ = some (.string (B x.ti)) := hcell 5 _ rfl
      have c_6 : wr.cell? ⟨bb, o + j * 11 + 6, none⟩ = some (.string (B x.id)) := hcell 6 _ rfl
      have c_7 : wr.cell? ⟨bb, o + j * 11 + 7, none⟩ = some (.slice x.cl.A x.cl.n x.cl.c) := hcell 7 _ rfl
      have c_8 : wr.cell? ⟨bb, o + j * 11 + 8, none⟩ = some (.slice x.pr.A x.pr.n x.pr.c) := hcell 8 _ rfl
      have c_9 : wr.cell? ⟨bb, o + j * 11 + 9, none⟩ = some (.slice x.ln.A x.ln.n x.ln.c) := hcell 9 _ rfl
      have c_10 : wr.cell? ⟨bb, o + j * 11 + 10, none⟩ = some (.slice x.kd.A x.kd.n x.kd.c) := hcell 10 _ rfl
      clear hcell
      have hj1 : (j : Int) < (n : Int) := by omega
      obtain ⟨A1, c1, rfl, hnc⟩ := own_form hown
      have hxk := hx.kids
      generalize hD : flL (ks.take j) = D at *
      have hx1 : BkB wr M k x := hx.below (hb.mono hM)
      go_wp2_with (at_builtin; (refine wpList_big2 rfl (.tmp 11) (.tmp 16) 28 rfl 54 (.agg #[.int .i64 0, .int .i64 0, .string ⟨#[]⟩, .string ⟨#[]⟩, .string ⟨#[]⟩, .string ⟨#[]⟩, .string ⟨#[]⟩, .slice none 0 0, .slice none 0 0, .slice none 0 0, .slice none 0 0]) 11 192 Tryz.underlying28 Tryz.infoBlock rfl (by omega) wr (BC.cells x) rfl (bc_one1 x) w.heap.size (.slice A1 D.length c1) D.length (cv.flatMap BC.cells) hown rfl rfl (by omega) (by omega) hsw ?_))
      intro v' w6 hown6 hgr hb6 hat
      have hs6 := hgr.size
      have hB6 := hb.trans (hb6.mono (Nat.le_refl _))
      have e1 : cv.flatMap BC.cells ++ BC.cells x = (cv ++ [x]).flatMap BC.cells := by simp
      have e2 : D.length + 1 = (D ++ [k]).length := by simp
      rw [e1, e2] at hown6
      clear e1 e2
      have hL6 : BsL w6 M (D ++ [k]) (cv ++ [x]) := (hLv.app (.one hx1)).below (hb6.mono hM)
      have c9 : w6.cell? ⟨bb, o + j * 11 + 10, none⟩ = some (.slice x.kd.A x.kd.n x.kd.c) := (hb6.cell (p := ⟨bb, o + j * 11 + 10, none⟩) (by show bb < _; omega)).trans c_10
      have hk6 : BsB w6 M k.ks ⟨x.kd.A, x.kd.n, x.kd.c⟩ := hxk.below (hB6.mono hM)
      have HC := Lib.hid (HI2.out x.kd.A x.kd.n x.kd.c w6 (by omega) hk6 (by omega))
      obtain ⟨A2, c2, rfl, hnc2⟩ := own_form hown6
      clear hgr hat c_0 c_1 c_2 c_3 c_4 c_5 c_6 c_7 c_8 c_9 c_10 hcj HI HI2
      go_wp2_with fail
      refine HC.out.mono ?_
      rintro e w7 ⟨v7, rfl, ⟨cw, hown7, hLw⟩, hb7⟩
      obtain ⟨A3, c3, rfl, hnc3⟩ := own_form hown7
      have hr7 := Rd.of_own hown7
      have hs7 := hb7.size
      have hown67 := own_below hown6 hb7
      have hB7 := hB6.trans (hb7.mono (by omega))
      have hL7 := hL6.below (hb7.mono (by omega))
      have HT2 : Hid (flL (ks.take (j + 1)) = D ++ [k] ++ flL k.ks) := by rw [HT.out, flB_ks]; simp [Hid]
      have HDL : Hid ((D ++ [k]).length = D.length + 1) := by simp [Hid]
      clear HT HC hown6 hown7 hL6 c9 hk6
      generalize hE : D ++ [k] = E at *
      generalize hF : flL k.ks = F at *
      have hEF : E.length + F.length ≤ 1000000001 := by have := HDL.out; omega
      go_wp2_with (refine wpList_bigs rfl (.tmp 18) (.tmp 24) 28 rfl 54 (.agg #[.int .i64 0, .int .i64 0, .string ⟨#[]⟩, .string ⟨#[]⟩, .string ⟨#[]⟩, .string ⟨#[]⟩, .string ⟨#[]⟩, .slice none 0 0, .slice none 0 0, .slice none 0 0, .slice none 0 0]) 11 192 Tryz.underlying28 Tryz.infoBlock rfl (by omega) w7 w.heap.size (.slice A2 E.length c2) E.length ((cv ++ [x]).flatMap BC.cells) hown67 rfl w7.heap.size A3 F.length c3 (cw.flatMap BC.cells) hr7 rfl (bc_one cw) (by omega) (by omega) (by omega) ?_)
      intro v8 w8 hown8 hgr8 hb8
      have hs8 := hgr8.size
      have hB8 := hB7.trans (hb8.mono (Nat.le_refl _))
      have hL8 : BsL w8 M (E ++ F) ((cv ++ [x]) ++ cw) := (hL7.app hLw).below (hb8.mono hM)
      have hown8 : w8.ownsRow w.heap.size 54 11 v8 (E ++ F).length (((cv ++ [x]) ++ cw).flatMap BC.cells) := by simpa using hown8
      rw [← HT2.out] at hown8 hL8
      obtain ⟨A4, c4, rfl, hnc4⟩ := own_form hown8
      clear hgr8 hnc hnc2 hnc3 hE hF hEF hr7 hown67 hLw hL7 hb7 hb8 hB6 hB7 hx1 hxk hx
      go_wp2
      go_roundw
      case rel => exact ⟨j + 1, by omega, by go_num, ⟨_, hown8, hL8⟩, hB8⟩
      case measure => simp [intOf]; omega
    · rw [List.take_of_length_le (by omega)] at hown hLv
      have hj1 : ¬ (j : Int) < (n : Int) := by omega
      go_wp2
      go_ret
      exact ⟨_, rfl, ⟨cv, hown, hLv⟩, hb⟩
theorem list_any (M : Nat) (ks : List Bk) (A : Option Addr) (n c : Nat) (w : World) (hM : M ≤ w.heap.size) (h : BsB w M ks ⟨A, n, c⟩) (hl : (flL ks).length ≤ 1000000000) :
    Calls Tryz.prog 89 #[.slice A n c] w (DBPost M (flL ks) w) := by
  have H : ∀ x : Bk, ∀ (A : Option Addr) (n c : Nat) (w : World), M ≤ w.heap.size → BsB w M x.ks ⟨A, n, c⟩ → (flL x.ks).length ≤ 1000000000 → Calls Tryz.prog 89 #[.slice A n c] w (DBPost M (flL x.ks) w) := by
    refine Bk.ind ?_
    intro k lv nf tx ds ti id ao ln ks IH A n c w hM h hl
    exact list_list M ks IH A n c w hM h hl
  exact list_list M ks (fun x _ => H x) A n c w hM h hl
set_option maxHeartbeats 8000000 in
set_option maxRecDepth 100000 in
theorem inlines_any (M : Nat) (ks : List Bk) (A : Option Addr) (n c : Nat) (w : World) (hM : M ≤ w.heap.size) (h : BsB w M ks ⟨A, n, c⟩) (hl : (evL ks).length ≤ 1000000000) :
    Calls Tryz.prog 59 #[.slice A n c] w (DIPost M (inls (flL ks)) w) := by
  have HC := Lib.hid (list_any M ks A n c w hM h (Nat.le_trans (flL_len ks) hl))
  have hil := Nat.le_trans (inls_len ks) hl
  have hfl := Nat.le_trans (flL_len ks) hl
  clear h
  generalize flL ks = bs at *
  go_enter Tryz.func59, Tryz.ntmps59
  go_wp2_with fail
  refine HC.out.mono ?_
  rintro e w1 ⟨v1, rfl, ⟨cb, hown1, hLb⟩, hb1⟩
  obtain ⟨A1, c1, rfl, hnc1⟩ := own_form hown1
  have hr1 := Rd.of_own hown1
  have hs1 := hb1.size
  have hcn : cb.length = bs.length := hr1.count BC.cells 11 BC.cells_len (by omega)
  have HLEN : Hid (∀ j, j ≤ bs.length → (inls (bs.take j)).length ≤ (inls bs).length) := fun j hj => by
    have e : inls bs = inls (bs.take j) ++ inls (bs.drop j) := by unfold inls; rw [← List.flatMap_append, List.take_append_drop]
    rw [e, List.length_append]; omega
  clear HC hown1 hnc1
  generalize hT : w1.heap.size = t at *
  go_wp2
  go_loopw [3, 5] (fun fv i wr => ∃ (j : Nat), j ≤ bs.length ∧ i = .int .i64 j ∧ RI wr t M fv (inls (bs.take j)) ∧ Below t w1 wr ∧ t ≤ wr.heap.size) (fun _ i _ => bs.length - (intOf i).toNat)
  case atStart => exact ⟨0, Nat.zero_le _, rfl, ⟨[], ⟨rfl, .inl ⟨rfl, rfl⟩⟩, .nil⟩, .refl _ _, by omega⟩
  case round =>
    obtain ⟨j, hj, rfl, ⟨cv, hown, hLv⟩, hb, htw⟩ := hrel
    by_cases hlt : j < bs.length
    · have hkj : bs[j]? = some bs[j] := List.getElem?_eq_getElem hlt
      have HT : Hid (inls (bs.take (j + 1)) = inls (bs.take j) ++ dpL bs[j].ln) := by unfold inls; rw [List.take_succ_eq_append_getElem hlt, List.flatMap_append, List.flatMap_singleton]; rfl
      have HL2 := HLEN.out (j + 1) hlt
      rw [HT.out, List.length_append] at HL2
      obtain ⟨x, hcj, hx⟩ := hLb.2 j _ hkj
      generalize bs[j] = k at *
      obtain ⟨bb, o, rfl, hbm, hcell⟩ := (hr1.below hb).elem BC.cells 11 BC.cells_len (by omega) hcj
      have c9 : wr.cell? ⟨bb, o + j * 11 + 9, none⟩ = some (.slice x.ln.A x.ln.n x.ln.c) := hcell 9 _ rfl
      clear hcell
      have hxw : IsB wr M k.ln ⟨x.ln.A, x.ln.n, x.ln.c⟩ := hx.line.below (hb.mono (by omega))
      have HC := Lib.hid (deep_any M k.ln x.ln.A x.ln.n x.ln.c wr (by omega) hxw (by omega))
      obtain ⟨A2, c2, rfl, hnc2⟩ := own_form hown
      generalize hD : inls (bs.take j) = D at *
      go_wp2_with fail
      refine HC.out.mono ?_
      rintro e w7 ⟨v7, rfl, ⟨cw, hown7, hLw⟩, hb7⟩
      obtain ⟨A3, c3, rfl, hnc3⟩ := own_form hown7
      have hr7 := Rd.of_own hown7
      have hs7 := hb7.size
      have hown2 := own_below hown hb7
      have hB7 := hb.trans (hb7.mono htw)
      have hL7 := hLv.below (hb7.mono (by omega))
      clear HC hown hown7 c9
      generalize hF : dpL k.ln = F at *
      go_wp2_with (refine wpList_bigs rfl (.tmp 14) (.tmp 20) 50 rfl 52 (.agg #[.int .i64 0, .string ⟨#[]⟩, .string ⟨#[]⟩, .string ⟨#[]⟩, .string ⟨#[]⟩, .slice none 0 0, .slice none 0 0, .slice none 0 0, .slice none 0 0, .slice none 0 0]) 10 192 Tryz.underlying50 Tryz.infoInline rfl (by omega) w7 t (.slice A2 D.length c2) D.length (cv.flatMap IC.cells) hown2 rfl w7.heap.size A3 F.length c3 (cw.flatMap IC.cells) hr7 rfl (ic_one cw) (by omega) (by omega) (by omega) ?_)
      intro v8 w8 hown8 hgr8 hb8
      have hs8 := hgr8.size
      have hB8 := hB7.trans (hb8.mono (Nat.le_refl _))
      have hL8 : IsL w8 M (D ++ F) (cv ++ cw) := (hL7.app hLw).below (hb8.mono (by omega))
      have hown8 : w8.ownsRow t 52 10 v8 (D ++ F).length ((cv ++ cw).flatMap IC.cells) := by simpa using hown8
      rw [← HT.out] at hown8 hL8
      obtain ⟨A4, c4, rfl, hnc4⟩ := own_form hown8
      clear hgr8 hnc2 hnc3 hD hF hr7 hown2 hLw hL7 hb7 hb8 hB7 hx HT
      go_wp2
      go_roundw
      case rel => exact ⟨j + 1, by omega, by go_num, ⟨_, hown8, hL8⟩, hB8, by omega⟩
      case measure => simp [intOf]; omega
    · rw [List.take_of_length_le (by omega)] at hown hLv
      have hj1 : ¬ (j : Int) < (bs.length : Int) := by omega
      go_wp2
      go_ret
      exact ⟨_, rfl, ⟨cv, own_mono hown (by omega), hLv⟩, hb1.trans (hb.mono (by omega))⟩
end Go.Proofs.YtejjidbodfoiiaaGreatDoor
