/-
  Layer 44 (links), LinksDocs: the chapter's names, notes, has.
-/
import Derived.Test.YtejjidbodfoiiaaGreatDoorLdB
import Derived.Test.YtejjidbodfoiiaaGreatDoorLkU
namespace Go.Proofs.YtejjidbodfoiiaaGreatDoor
open Go.RowKit
set_option linter.unusedVariables false
set_option linter.unusedSimpArgs false
attribute [local go_sem] B_data B_size

/-- the row of a list, in one block -/
theorem own_row {w : World} {base e sz n : Nat} {v : Value} {xs : List Value} (h : w.ownsRow base e sz v n xs) (d : Nat) (hd : d < w.heap.size) : ∃ A c rb, v = .slice A n c ∧ RdS w (fun b => b = rb) sz A n xs ∧ (rb = d ∨ base ≤ rb) ∧ rb < w.heap.size := by
  have hl : xs.length = n * sz := h.1
  rcases h.2 with ⟨hv, h0⟩ | ⟨g, cap, cur, hv, h4, h5, h6⟩
  · refine ⟨none, 0, d, by rw [hv, h0], ⟨hl, fun hn => by omega⟩, .inl rfl, hd⟩
  · have hR := Rd.of_own (hv ▸ h)
    refine ⟨some ⟨g, 0, none⟩, cap, g, by rw [hv], ⟨hl, fun hn => ?_⟩, .inr h4, (Array.getElem?_eq_some_iff.1 h5).1⟩
    obtain ⟨ad, e1, _, e3⟩ := hR.2 hn
    exact ⟨ad, e1, by injection e1 with e1; rw [← e1], e3⟩
theorem BkB.nfs {w : World} {M : Nat} {x : Bk} {c : BC} (h : BkB w M x c) : c.k = x.k ∧ c.nf = x.nf ∧ c.id = x.id := by
  cases x
  have := h.parts.1
  exact ⟨this.1, this.2.2.1, this.2.2.2.2.2.2⟩
theorem InB.nfs {w : World} {M : Nat} {x : In} {c : IC} (h : InB w M x c) : c.k = x.k ∧ c.tx = x.tx ∧ c.ds = x.ds ∧ c.id = x.id := by
  cases x
  have := h.parts.1
  exact ⟨this.1, this.2.1, this.2.2.1, this.2.2.2.2⟩
theorem idsF_len (ks : List Bk) : (idsF (flL ks)).length ≤ (evL ks).length := by rw [← idsV_fl]; exact idsV_len _
theorem notesV_len (V : List Ev) : (notesV V).length ≤ V.length := by
  unfold notesV
  induction V with
  | nil => simp
  | cons e r ih =>
    rw [List.flatMap_cons, List.length_append, List.length_cons]
    have : (noteE e).length ≤ 1 := by
      cases e with
      | b x => simp only [noteE]; split <;> simp
      | i x => simp [noteE]
    omega
theorem notesF_len (ks : List Bk) : (notesF (flL ks)).length ≤ (evL ks).length := by rw [← notesV_fl]; exact notesV_len _
theorem flat_le {α β : Type} (f : α → List β) (l : List α) (j : Nat) : ((l.take j).flatMap f).length ≤ (l.flatMap f).length := by
  conv => rhs; rw [← List.take_append_drop j l, List.flatMap_append, List.length_append]
  omega
theorem flat_snoc {α β : Type} (f : α → List β) {l : List α} {j : Nat} (h : j < l.length) : (l.take (j + 1)).flatMap f = (l.take j).flatMap f ++ f l[j] := by
  rw [List.take_succ_eq_append_getElem h, List.flatMap_append, List.flatMap_singleton]
set_option maxHeartbeats 4000000 in
set_option maxRecDepth 100000 in
theorem rhas3_any (l : List Bs) (A : Option Addr) (n c : Nat) (s : Bs) (w : World) (h : Rd w w.heap.size 1 A n (strs l)) (hl : l.length ≤ 1000000000) :
    Calls Tryz.prog 60 #[.slice A n c, .string (B s)] w (fun e w' => e = .returned (.bool (decide (s ∈ l))) ∧ Below w.heap.size w w') := by
  have hn : l.length = n := by have := h.1; rw [strs_len] at this; omega
  subst hn
  go_enter Tryz.func60, Tryz.ntmps60
  go_wp2
  go_loopw [5] (fun i wr => ∃ (j : Nat), j ≤ l.length ∧ i = .int .i64 j ∧ Hid (s ∉ l.take j) ∧ Below w.heap.size w wr) (fun i _ => l.length - (intOf i).toNat)
  case atStart => exact ⟨0, Nat.zero_le _, rfl, by simp [Hid], .refl _ _⟩
  case round =>
    obtain ⟨j, hj, rfl, ht, hb2⟩ := hrel
    by_cases hlt : j < l.length
    · have hfa : l[j]? = some l[j] := List.getElem?_eq_getElem hlt
      obtain ⟨ad, rfl, hc⟩ := (h.below hb2).str hlt
      rw [show l.getD j [] = l[j] by simp [List.getD, hfa]] at hc
      have HM := Lib.hid (List.getElem_mem hlt)
      have HT : Hid (∀ x, x ∈ l.take (j + 1) → x ∈ l.take j ∨ x = l[j]) := fun x hx => by rw [List.take_succ_eq_append_getElem hlt] at hx; rw [List.mem_append, List.mem_singleton] at hx; exact hx
      generalize l[j] = x at *
      have hj1 : (j : Int) < (l.length : Int) := by omega
      cases hxy : (x == s)
      · go_wp2
        go_roundw
        case rel => exact ⟨j + 1, by omega, by go_num, fun hx => (HT.out s hx).elim ht.out (fun e => by rw [e] at hxy; simp at hxy), hb2⟩
        case measure => simp [intOf]; omega
      · have e : x = s := by simpa using hxy
        go_wp2
        go_ret
        exact ⟨ret_bool (decide_eq_true (e ▸ HM.out)).symm, hb2⟩
    · have hj1 : ¬ (j : Int) < (l.length : Int) := by omega
      go_wp2
      go_ret
      refine ⟨ret_bool ?_, hb2⟩
      have := ht.out
      rw [List.take_of_length_le (by omega)] at this
      rw [decide_eq_false this]
set_option maxHeartbeats 8000000 in
set_option maxRecDepth 100000 in
theorem rnotes_any (ks : List Bk) (mv : Value) (A : Option Addr) (n c : Nat) (w : World) (hs : BsB w w.heap.size ks ⟨A, n, c⟩) (hl : (evL ks).length ≤ 1000000000) :
    Calls Tryz.prog 58 #[.agg #[mv, .slice A n c]] w (OPost (notesF (flL ks)) w) := by
  have b1 := below_alloc w (.cells #[mv, .slice A n c] 30)
  have s1 : (w.alloc (.cells #[mv, .slice A n c] 30)).heap.size = w.heap.size + 1 := by simp
  have hs2 := (hs.below b1).more b1.size
  have hfl := Nat.le_trans (flL_len ks) hl
  have hnl := Nat.le_trans (notesF_len ks) hl
  have HL := Lib.hid (fun V (hV : BsB V V.heap.size ks ⟨A, n, c⟩) => list_any V.heap.size ks A n c V (Nat.le_refl _) hV hfl)
  go_enter Tryz.func58, Tryz.ntmps58
  go_wp2_with fail
  generalize w.alloc (.cells #[mv, .slice A n c] 30) = W2 at *
  refine (HL.out _ hs2).mono ?_
  rintro e w1 ⟨v1, rfl, ⟨cb, hown1, hLb⟩, hb1⟩
  have hB1 := b1.trans (hb1.mono (by omega))
  have hs1 := hb1.size
  obtain ⟨A1, c1, rb, rfl, hR1, hrb, hrl1⟩ := own_row hown1 0 (by omega)
  have hcn : cb.length = (flL ks).length := (hR1.rd (M := rb + 1) (fun b hb => by omega)).count BC.cells 11 BC.cells_len (by omega)
  generalize flL ks = bs at *
  have HLEN : Hid (∀ j, (notesF (bs.take j)).length ≤ (notesF bs).length) := fun j => flat_le _ _ _
  clear HL hown1
  generalize hT : w1.heap.size = t at *
  go_wp2
  go_loopw [3, 5] (fun fv i wr => ∃ (j : Nat), j ≤ bs.length ∧ i = .int .i64 j ∧ wr.ownsRow t 9 1 fv (notesF (bs.take j)).length (strs (notesF (bs.take j))) ∧ Below t w1 wr ∧ t ≤ wr.heap.size) (fun _ i _ => bs.length - (intOf i).toNat)
  case atStart => exact ⟨0, Nat.zero_le _, rfl, ⟨rfl, .inl ⟨rfl, rfl⟩⟩, .refl _ _, by omega⟩
  case round =>
    obtain ⟨j, hj, rfl, hown, hb, htw⟩ := hrel
    by_cases hlt : j < bs.length
    · have hkj : bs[j]? = some bs[j] := List.getElem?_eq_getElem hlt
      have HT : Hid (notesF (bs.take (j + 1)) = notesF (bs.take j) ++ if bs[j].k = 14 then [bs[j].nf] else []) := flat_snoc _ hlt
      have HJ := HLEN.out j
      obtain ⟨x, hcj, hx⟩ := hLb.2 j _ hkj
      generalize bs[j] = k at *
      obtain ⟨bb, o, rfl, hbm, hcell⟩ := ((hR1.rd (M := t) (fun b hb => by omega)).below hb).elem BC.cells 11 BC.cells_len (by omega) hcj
      obtain ⟨ek, en, -⟩ := hx.nfs
      have d0 : wr.cell? ⟨bb, o + j * 11, none⟩ = some (.int .i64 x.k) := hcell 0 _ rfl
      have d2 : wr.cell? ⟨bb, o + j * 11 + 2, none⟩ = some (.string (B x.nf)) := hcell 2 _ rfl
      rw [ek] at d0
      rw [en] at d2
      clear hcell hx ek en
      have hj1 : (j : Int) < (bs.length : Int) := by omega
      obtain ⟨A2, c2, rfl, hnc2⟩ := own_form hown
      generalize hD : notesF (bs.take j) = D at *
      by_cases hk : k.k = 14
      · have HT2 : Hid (notesF (bs.take (j + 1)) = D ++ [k.nf]) := by rw [HT.out, if_pos hk]; exact Lib.hid rfl
        clear HT
        generalize k.nf = y at *
        generalize k.k = kk at *
        subst hk
        go_wp2_with (at_builtin; (refine wpList_app2 rfl (.tmp 21) (.tmp 27) 25 rfl 9 (.string ⟨#[]⟩) 1 16 Tryz.underlying25 Tryz.info9 rfl (by omega) wr [.string (B y)] rfl (by simp; rfl) t (.slice A2 D.length c2) D.length (strs D) hown rfl rfl (by omega) (by omega) (by omega) ?_))
        intro v' w6 hown6 hgr hb6 hat
        have e1 : strs D ++ [.string (B y)] = strs (D ++ [y]) := strs_snoc D y
        have e2 : D.length + 1 = (D ++ [y]).length := by simp
        rw [e1, e2, ← HT2.out] at hown6
        have hs6 := hgr.size
        have hB6 := hb.trans (hb6.mono (by omega))
        clear hgr hb6 hat hown d0 d2
        go_wp2
        go_roundw
        case rel => exact ⟨j + 1, by omega, by go_num, hown6, hB6, by omega⟩
        case measure => simp [intOf]; omega
      · have HT2 : Hid (notesF (bs.take (j + 1)) = D) := by rw [HT.out, if_neg hk, List.append_nil]; exact Lib.hid rfl
        clear HT
        have hk2 : ¬ (k.k = 14) := hk
        generalize k.k = kk at *
        go_wp2
        go_roundw
        case rel => exact ⟨j + 1, by omega, by go_num, by rw [HT2.out]; exact hown, hb, htw⟩
        case measure => simp [intOf]; omega
    · rw [List.take_of_length_le (by omega)] at hown
      have hj1 : ¬ (j : Int) < (bs.length : Int) := by omega
      go_wp2
      go_ret
      exact ⟨_, rfl, own_mono hown (by omega), hB1.trans (hb.mono (by omega))⟩
set_option maxHeartbeats 8000000 in
set_option maxRecDepth 100000 in
theorem rnames_any (ks : List Bk) (mv : Value) (A : Option Addr) (n c : Nat) (w : World) (hs : BsB w w.heap.size ks ⟨A, n, c⟩) (hl : (evL ks).length ≤ 1000000000) :
    Calls Tryz.prog 57 #[.agg #[mv, .slice A n c]] w (OPost (idsF (flL ks)) w) := by
  have b1 := below_alloc w (.cells #[mv, .slice A n c] 30)
  have s1 : (w.alloc (.cells #[mv, .slice A n c] 30)).heap.size = w.heap.size + 1 := by simp
  have hs2 := (hs.below b1).more b1.size
  have hfl := Nat.le_trans (flL_len ks) hl
  have hnl := Nat.le_trans (idsF_len ks) hl
  have hil := Nat.le_trans (inls_len ks) hl
  have HL := Lib.hid (fun V (hV : BsB V V.heap.size ks ⟨A, n, c⟩) => list_any V.heap.size ks A n c V (Nat.le_refl _) hV hfl)
  go_enter Tryz.func57, Tryz.ntmps57
  go_wp2_with fail
  generalize w.alloc (.cells #[mv, .slice A n c] 30) = W2 at *
  refine (HL.out _ hs2).mono ?_
  rintro e w1 ⟨v1, rfl, ⟨cb, hown1, hLb⟩, hb1⟩
  have hB1 := b1.trans (hb1.mono (by omega))
  have hs1 := hb1.size
  obtain ⟨A1, c1, rb, rfl, hR1, hrb, hrl1⟩ := own_row hown1 0 (by omega)
  have hcn : cb.length = (flL ks).length := (hR1.rd (M := rb + 1) (fun b hb => by omega)).count BC.cells 11 BC.cells_len (by omega)
  have HLN : Hid (∀ b, b ∈ flL ks → (dpL b.ln).length ≤ (inls (flL ks)).length) := fun b hb => dpL_len_mem hb
  generalize flL ks = bs at *
  have HLEN : Hid (∀ j, (idsF (bs.take j)).length ≤ (idsF bs).length) := fun j => flat_le _ _ _
  clear HL hown1
  generalize hT : w1.heap.size = t at *
  go_wp2
  go_loopw [3, 5] (fun fv i wr => ∃ (j : Nat), j ≤ bs.length ∧ i = .int .i64 j ∧ wr.ownsRow t 9 1 fv (idsF (bs.take j)).length (strs (idsF (bs.take j))) ∧ Below t w1 wr ∧ t ≤ wr.heap.size) (fun _ i _ => bs.length - (intOf i).toNat)
  case atStart => exact ⟨0, Nat.zero_le _, rfl, ⟨rfl, .inl ⟨rfl, rfl⟩⟩, .refl _ _, by omega⟩
  case round =>
    obtain ⟨j, hj, rfl, hown, hb, htw⟩ := hrel
    by_cases hlt : j < bs.length
    · have hkj : bs[j]? = some bs[j] := List.getElem?_eq_getElem hlt
      have HT : Hid (idsF (bs.take (j + 1)) = idsF (bs.take j) ++ (idL bs[j].id ++ (dpL bs[j].ln).flatMap fun x => idL x.id)) := flat_snoc _ hlt
      have HJ := HLEN.out (j + 1)
      rw [HT.out, List.length_append, List.length_append] at HJ
      have hln := HLN.out _ (List.getElem_mem hlt)
      obtain ⟨x, hcj, hx⟩ := hLb.2 j _ hkj
      generalize bs[j] = k at *
      obtain ⟨bb, o, rfl, hbm, hcell⟩ := (hR1.rd (M := t) (fun b hb => by omega)).elem BC.cells 11 BC.cells_len (by omega) hcj
      obtain ⟨-, -, ei⟩ := hx.nfs
      have d6 : wr.cell? ⟨bb, o + j * 11 + 6, none⟩ = some (.string (B x.id)) := (hb.cell (p := ⟨bb, o + j * 11 + 6, none⟩) (by show bb < _; omega)).trans (hcell 6 _ rfl)
      have D9 : Hid (w1.cell? ⟨bb, o + j * 11 + 9, none⟩ = some (.slice x.ln.A x.ln.n x.ln.c)) := hcell 9 _ rfl
      rw [ei] at d6
      clear hcell ei
      have hj1 : (j : Int) < (bs.length : Int) := by omega
      generalize hD : idsF (bs.take j) = D at *
      obtain ⟨A2, c2, rfl, hnc2⟩ := own_form hown
      -- behind the identifier of the block
      go_upto_if 23 with fail
      go_cut [3] (fun fv wx => ∃ (A3 : Option Addr) (c3 : Nat), fv = .slice A3 (D ++ idL k.id).length c3 ∧ wx.ownsRow t 9 1 (.slice A3 (D ++ idL k.id).length c3) (D ++ idL k.id).length (strs (D ++ idL k.id)) ∧ Below t w1 wx ∧ wr.heap.size ≤ wx.heap.size)
      case first =>
        have hidl := idL_len k.id
        by_cases hk : k.id = []
        · have HE : Hid (D ++ idL k.id = D) := by unfold idL; rw [if_pos hk, List.append_nil]; exact Lib.hid rfl
          have n1 : (k.id == []) = true := by simp [hk]
          have n2 : (k.id != []) = false := by simp [hk]
          have n3 : k.id.isEmpty = true := by simp [hk]
          clear hk
          rw [n3]
          clear HT D9
          go_wp2
          go_meet
          case rel => (rw [HE.out]; exact ⟨A2, c2, rfl, hown, hb, Nat.le_refl _⟩)
        · have HE : Hid (D ++ idL k.id = D ++ [k.id]) := by unfold idL; rw [if_neg hk]; exact Lib.hid rfl
          have n1 : (k.id == []) = false := by simpa using hk
          have n2 : (k.id != []) = true := by simpa using hk
          have n3 : k.id.isEmpty = false := by simpa using hk
          clear hk
          rw [n3]
          generalize k.id = y at *
          clear HT D9
          go_wp2_with (at_builtin; (refine wpList_app2 rfl (.tmp 24) (.tmp 31) 25 rfl 9 (.string ⟨#[]⟩) 1 16 Tryz.underlying25 Tryz.info9 rfl (by omega) wr [.string (B y)] rfl (by simp; rfl) t (.slice A2 D.length c2) D.length (strs D) hown rfl rfl (by omega) (by omega) (by omega) ?_))
          intro v' w6 hown6 hgr hb6 hat
          have e1 : strs D ++ [.string (B y)] = strs (D ++ [y]) := strs_snoc D y
          have e2 : D.length + 1 = (D ++ [y]).length := by simp
          rw [e1, e2] at hown6
          have hs6 := hgr.size
          have hB6 := hb.trans (hb6.mono (by omega))
          obtain ⟨A3, c3, rfl, hnc3⟩ := own_form hown6
          clear hgr hb6 hat hown e1 e2
          go_wp2
          go_meet
          case rel => (rw [HE.out]; exact ⟨A3, c3, rfl, hown6, hB6, hs6⟩)
      case rest =>
        obtain ⟨A3, c3, rfl, hown3, hb3, hws⟩ := hcut
        have HT : Hid (idsF (bs.take (j + 1)) = (D ++ idL k.id) ++ (dpL k.ln).flatMap fun x => idL x.id) := by rw [HT.out, List.append_assoc]; exact Lib.hid rfl
        have hE : (D ++ idL k.id).length ≤ 1000000000 := by rw [List.length_append]; omega
        have HJ2 : (D ++ idL k.id).length + ((dpL k.ln).flatMap fun x => idL x.id).length ≤ 1000000000 := by rw [List.length_append]; omega
        generalize D ++ idL k.id = E at *
        have hxw3 : IsB wc t k.ln ⟨x.ln.A, x.ln.n, x.ln.c⟩ := ((hx.line.below (hb3.mono (by omega))).more (by omega))
        have d9c : wc.cell? ⟨bb, o + j * 11 + 9, none⟩ = some (.slice x.ln.A x.ln.n x.ln.c) := by
          exact (hb3.cell (p := ⟨bb, o + j * 11 + 9, none⟩) (by show bb < _; omega)).trans D9.out
        have hown3c := hown3
        have HC := Lib.hid (deep_any t k.ln x.ln.A x.ln.n x.ln.c wc (by omega) hxw3 (by omega))
        go_wp2_with fail
        refine HC.out.mono ?_
        rintro e w7 ⟨v7, rfl, ⟨cw, hown7, hLw⟩, hb7⟩
        have hs7 := hb7.size
        have hB7 := hb3.trans (hb7.mono (by omega))
        have hown3 := own_below hown3 hb7
        obtain ⟨A4, c4, r7, rfl, hR7, hr7, hrl7⟩ := own_row hown7 rb (by omega)
        have hcw : cw.length = (dpL k.ln).length := (hR7.rd (M := r7 + 1) (fun b hb => by omega)).count IC.cells 10 IC.cells_len (by omega)
        generalize dpL k.ln = xs at *
        have HXL : Hid (∀ j, ((xs.take j).flatMap fun x => idL x.id).length ≤ (xs.flatMap fun x => idL x.id).length) := fun j => flat_le _ _ _
        have hno : (Value.slice A3 E.length c3).ownBlock ≠ some r7 := fun e => by
          have := hown3c.lt _ e
          rcases hr7 with h | h <;> omega
        clear HC hown7 d9c D9 hb7 hown3c hxw3
        go_wp2
        go_loopw [3, 7] (fun fv i wx => ∃ (m : Nat), m ≤ xs.length ∧ i = .int .i64 m ∧ wx.ownsRow t 9 1 fv (E ++ (xs.take m).flatMap fun x => idL x.id).length (strs (E ++ (xs.take m).flatMap fun x => idL x.id)) ∧ Below t w1 wx ∧ w7.heap.size ≤ wx.heap.size ∧ RdS wx (fun b => b = r7) 10 A4 xs.length (cw.flatMap IC.cells) ∧ fv.ownBlock ≠ some r7) (fun _ i _ => xs.length - (intOf i).toNat)
        case atStart => exact ⟨0, Nat.zero_le _, rfl, by simpa using hown3, hB7, Nat.le_refl _, hR7, hno⟩
        case round =>
          clear hown3 hB7 hR7 hno
          obtain ⟨m, hm, rfl, hown, hb4, hsw, hR7, hno⟩ := hrel
          by_cases hlm : m < xs.length
          · have hkm : xs[m]? = some xs[m] := List.getElem?_eq_getElem hlm
            have HT4 : Hid ((xs.take (m + 1)).flatMap (fun x => idL x.id) = (xs.take m).flatMap (fun x => idL x.id) ++ idL xs[m].id) := flat_snoc _ hlm
            have HJ4 := HXL.out m
            obtain ⟨y, hcm, hy⟩ := hLw.2 m _ hkm
            generalize xs[m] = z at *
            obtain ⟨be, q, rfl, hbe, hcell⟩ := (hR7.rd (M := r7 + 1) (fun b hb => by omega)).elem IC.cells 10 IC.cells_len (by omega) hcm
            obtain ⟨-, -, -, ei⟩ := hy.nfs
            have d4 : wr.cell? ⟨be, q + m * 10 + 4, none⟩ = some (.string (B y.id)) := hcell 4 _ rfl
            rw [ei] at d4
            clear hcell ei hy
            have hm1 : (m : Int) < (xs.length : Int) := by omega
            generalize hF : (xs.take m).flatMap (fun x => idL x.id) = F at *
            have hEF : (E ++ F).length ≤ 1000000000 := by rw [List.length_append]; omega
            obtain ⟨A5, c5, rfl, hnc5⟩ := own_form hown
            by_cases hk : z.id = []
            · have HE : Hid (E ++ (xs.take (m + 1)).flatMap (fun x => idL x.id) = E ++ F) := by rw [HT4.out]; unfold idL; rw [if_pos hk, List.append_nil]; exact Lib.hid rfl
              have n1 : (z.id == []) = true := by simp [hk]
              have n2 : (z.id != []) = false := by simp [hk]
              have n3 : z.id.isEmpty = true := by simp [hk]
              clear hk
              go_wp2
              go_roundw
              case rel => exact ⟨m + 1, by omega, by go_num, HE.out ▸ hown, hb4, hsw, hR7, hno⟩
              case measure => simp [intOf]; omega
            · have HE : Hid (E ++ (xs.take (m + 1)).flatMap (fun x => idL x.id) = (E ++ F) ++ [z.id]) := by rw [HT4.out, List.append_assoc]; unfold idL; rw [if_neg hk]; exact Lib.hid rfl
              have n1 : (z.id == []) = false := by simpa using hk
              have n2 : (z.id != []) = true := by simpa using hk
              have n3 : z.id.isEmpty = false := by simpa using hk
              clear hk
              generalize z.id = u at *
              generalize E ++ F = G at *
              go_wp2_with (at_builtin; (refine wpList_app2 rfl (.tmp 52) (.tmp 59) 25 rfl 9 (.string ⟨#[]⟩) 1 16 Tryz.underlying25 Tryz.info9 rfl (by omega) wr [.string (B u)] rfl (by simp; rfl) t (.slice A5 G.length c5) G.length (strs G) hown rfl rfl (by omega) (by omega) (by omega) ?_))
              intro v' w8 hown8 hgr hb8 hat
              have e1 : strs G ++ [.string (B u)] = strs (G ++ [u]) := strs_snoc G u
              have e2 : G.length + 1 = (G ++ [u]).length := by simp
              rw [e1, e2, ← HE.out] at hown8
              have hs8 := hgr.size
              have hB8 := hb4.trans (hb8.mono (by omega))
              have hR8 : RdS w8 (fun b => b = r7) 10 (some ⟨be, q, none⟩) xs.length (cw.flatMap IC.cells) := hR7.keep fun b hb => by subst hb; exact hgr.block b (by omega) fun e => hno e.symm
              have hno8 : v'.ownBlock ≠ some r7 := fun e => by
                rcases hat with h | h
                · exact hno (h ▸ e)
                · rw [h] at e
                  injection e with e
                  omega
              clear hgr hb8 hat hown hR7 d4
              go_wp2
              go_roundw
              case rel => exact ⟨m + 1, by omega, by go_num, hown8, hB8, by omega, hR8, hno8⟩
              case measure => simp [intOf]; omega
          · rw [List.take_of_length_le (by omega), ← HT.out] at hown
            have hm1 : ¬ (m : Int) < (xs.length : Int) := by omega
            go_wp2
            go_roundw
            case rel => exact ⟨j + 1, by omega, by go_num, hown, hb4, by omega⟩
            case measure => simp [intOf]; omega
    · rw [List.take_of_length_le (by omega)] at hown
      have hj1 : ¬ (j : Int) < (bs.length : Int) := by omega
      go_wp2
      go_ret
      exact ⟨_, rfl, own_mono hown (by omega), hB1.trans (hb.mono (by omega))⟩
end Go.Proofs.YtejjidbodfoiiaaGreatDoor
