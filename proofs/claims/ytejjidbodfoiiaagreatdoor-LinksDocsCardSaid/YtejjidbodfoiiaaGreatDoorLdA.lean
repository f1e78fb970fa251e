/-
  Layer 44 (links), LinksDocs: the chapter's lists of all blocks, of all inlines.
-/
import Derived.Test.YtejjidbodfoiiaaGreatDoorLdP
namespace Go.Proofs.YtejjidbodfoiiaaGreatDoor
open Go.RowKit
set_option linter.unusedVariables false
set_option linter.unusedSimpArgs false
attribute [local go_sem] B_data B_size

/-- the lemmas of appends, for elements of up to 256 bytes -/
theorem wpList_big2 {P : Program} {ops : Array Oper} {rest : List Oper} {o : Oper} {a : Act} {Q : Exit → Act → World → Prop} (hgd : o.guard = none) (s x : Operand) (t : TypeId)
    (ho : o.op = .call { callee := .builtin .append, args := #[s, x], argTypes := #[t, t] })
    (e : TypeId) (z : Value) (sz bytes : Nat) (ht : P.underlying t = some (.slice e)) (hinf : (P.info? e).map (fun i => (i.zero, i.size, i.bytes)) = some (some z, sz, bytes))
    (hzs : z.cells.size = sz) (hsz : 0 < sz) (wr : World) (us : List Value) (hl : us.length = sz) (hu : ∀ u ∈ us, u.oneCell' = true)
    (base : Nat) (v : Value) (n : Nat) (xs : List Value) (hown : wr.ownsRow base e sz v n xs) (hs : a.eval s = v) (hx : a.eval x = .slice (some ⟨wr.heap.size, 0, none⟩) 1 1)
    (hn : n + 1 ≤ 549755813888) (hbytes : bytes ≤ 256) (hbase : base ≤ wr.heap.size)
    (h : ∀ v' w', w'.ownsRow base e sz v' (n + 1) (xs ++ us) → wr.grownBy w' v.ownBlock → Below base wr w' → (v'.ownBlock = v.ownBlock ∨ v'.ownBlock = some (wr.heap.size + 1)) → wpList P ops Q rest (a.put o.dst v') w') :
    wpList P ops Q (o :: rest) a (wr.alloc (.cells us.toArray e)) := by
  obtain ⟨i0, hi, hz0, hz1, hz2⟩ := info_parts hinf
  refine wpList_append_own_at _ hgd s x t ho base e i0 z sz bytes ht hi hz0 hz1 hz2 hzs hsz v n xs hs (hown.alloc _) ⟨wr.heap.size, 0, none⟩ 1 1 us hx (by rw [hl, Nat.one_mul]) ?_ hu (by simp only [maxLen]; omega) ?_ (by simp; omega) ?_
  · intro j u hj
    rw [addr_lit, cell_of_row (wr.alloc (.cells us.toArray e)) wr.heap.size _ us.toArray e (0, 0) (heap_alloc_new wr _)]
    simpa using hj
  · have : (n + 1) * bytes ≤ 549755813888 * 256 := Nat.mul_le_mul hn hbytes
    omega
  · intro v' w' h1 h2 _ h4
    have hg : wr.grownBy w' v.ownBlock := grown_trans (World.grownBy_alloc wr _ _) h2
    refine h v' w' h1 hg (below_of_grown hg hbase fun k hk => (hown.lt k hk).1) ?_
    simpa using h4
theorem wpList_bigs {P : Program} {ops : Array Oper} {rest : List Oper} {o : Oper} {a : Act} {Q : Exit → Act → World → Prop} (hgd : o.guard = none) (s x : Operand) (t : TypeId)
    (ho : o.op = .call { callee := .builtin .append, args := #[s, x], argTypes := #[t, t] })
    (e : TypeId) (z : Value) (sz bytes : Nat) (ht : P.underlying t = some (.slice e)) (hinf : (P.info? e).map (fun i => (i.zero, i.size, i.bytes)) = some (some z, sz, bytes))
    (hzs : z.cells.size = sz) (hsz : 0 < sz) (w : World) (base : Nat) (v : Value) (n : Nat) (xs : List Value) (hown : w.ownsRow base e sz v n xs) (hs : a.eval s = v)
    (M : Nat) (A : Option Addr) (m c : Nat) (us : List Value) (hr : Rd w M sz A m us) (hx : a.eval x = .slice A m c) (hu : ∀ u ∈ us, u.oneCell' = true)
    (hn : n + m ≤ 549755813888) (hbytes : bytes ≤ 256) (hbase : base ≤ w.heap.size)
    (h : ∀ v' w', w'.ownsRow base e sz v' (n + m) (xs ++ us) → w.grownBy w' v.ownBlock → Below base w w' → wpList P ops Q rest (a.put o.dst v') w') :
    wpList P ops Q (o :: rest) a w := by
  obtain ⟨i0, hi, hz0, hz1, hz2⟩ := info_parts hinf
  rcases A with _ | ad
  · have hm : m = 0 := by
      rcases Nat.eq_zero_or_pos m with h0 | h0
      · exact h0
      · obtain ⟨ad, h, _⟩ := hr.2 h0
        cases h
    subst hm
    have hn : us = [] := List.eq_nil_of_length_eq_zero (by simpa using hr.1)
    subst hn
    refine wpList_plain hgd fun K hK => ?_
    have hrun := run_app_nil (P := P) w base t o.type e i0 sz ht hi v n xs hown c
    unfold Oper.wp
    simp [execOp, ho, resolve, invoke, builtin, hs, hx, hrun, Result.andThen]
    exact hK _ _ (h v w (by simpa using hown) (World.grownBy.refl w _) (Below.refl _ _))
  · refine wpList_append_own _ hgd s x t ho base e i0 z sz bytes ht hi hz0 hz1 hz2 hzs hsz v n xs hs hown ad m c us hx hr.1 ?_ hu (by simp only [maxLen]; omega) ?_ hbase ?_
    · intro j u hj
      rcases Nat.eq_zero_or_pos m with h0 | h0
      · subst h0
        have hn : us = [] := List.eq_nil_of_length_eq_zero (by simpa using hr.1)
        subst hn
        simp at hj
      · obtain ⟨ad', h, _, hc⟩ := hr.2 h0
        injection h with h
        subst h
        exact hc j u hj
    · have : (n + m) * bytes ≤ 549755813888 * 256 := Nat.mul_le_mul hn hbytes
      omega
    · intro v' w' h1 h2 _
      exact h v' w' h1 h2 (below_of_grown h2 hbase fun k hk => (hown.lt k hk).1)
theorem Tryz.infoInline : (Tryz.prog.info? 52).map (fun i => (i.zero, i.size, i.bytes)) = some (some (.agg #[.int .i64 0, .string ⟨#[]⟩, .string ⟨#[]⟩, .string ⟨#[]⟩, .string ⟨#[]⟩, .slice none 0 0, .slice none 0 0, .slice none 0 0, .slice none 0 0, .slice none 0 0]), 10, 192) := by kernel_rfl
theorem Tryz.infoBlock : (Tryz.prog.info? 54).map (fun i => (i.zero, i.size, i.bytes)) = some (some (.agg #[.int .i64 0, .int .i64 0, .string ⟨#[]⟩, .string ⟨#[]⟩, .string ⟨#[]⟩, .string ⟨#[]⟩, .string ⟨#[]⟩, .slice none 0 0, .slice none 0 0, .slice none 0 0, .slice none 0 0]), 11, 192) := by kernel_rfl
theorem ic_one (cs : List IC) : ∀ u ∈ cs.flatMap IC.cells, u.oneCell' = true := by
  intro u hu
  obtain ⟨c, _, hc⟩ := List.mem_flatMap.1 hu
  simp [IC.cells] at hc
  rcases hc with rfl | rfl | rfl | rfl | rfl | rfl | rfl | rfl | rfl | rfl <;> rfl
theorem ic_one1 (c : IC) : ∀ u ∈ c.cells, u.oneCell' = true := by
  intro u hu
  simp [IC.cells] at hu
  rcases hu with rfl | rfl | rfl | rfl | rfl | rfl | rfl | rfl | rfl | rfl <;> rfl
theorem bc_one (cs : List BC) : ∀ u ∈ cs.flatMap BC.cells, u.oneCell' = true := by
  intro u hu
  obtain ⟨c, _, hc⟩ := List.mem_flatMap.1 hu
  simp [BC.cells] at hc
  rcases hc with rfl | rfl | rfl | rfl | rfl | rfl | rfl | rfl | rfl | rfl | rfl <;> rfl
theorem bc_one1 (c : BC) : ∀ u ∈ c.cells, u.oneCell' = true := by
  intro u hu
  simp [BC.cells] at hu
  rcases hu with rfl | rfl | rfl | rfl | rfl | rfl | rfl | rfl | rfl | rfl | rfl <;> rfl
theorem flB_ks (x : Bk) : flB x = x :: flL x.ks := by cases x; rfl
/-- cells that stand for inlines, for blocks -/
def IsL (w : World) (M : Nat) (ks : List In) (cs : List IC) : Prop := ks.length = cs.length ∧ ∀ (i : Nat) (k : In), ks[i]? = some k → ∃ c, cs[i]? = some c ∧ InB w M k c
def BsL (w : World) (M : Nat) (ks : List Bk) (cs : List BC) : Prop := ks.length = cs.length ∧ ∀ (i : Nat) (k : Bk), ks[i]? = some k → ∃ c, cs[i]? = some c ∧ BkB w M k c
theorem IsL.below {w w' : World} {M : Nat} {ks : List In} {cs : List IC} (h : IsL w M ks cs) (hb : Below M w w') : IsL w' M ks cs := ⟨h.1, fun i k hk => by obtain ⟨c, a, b⟩ := h.2 i k hk; exact ⟨c, a, b.below hb⟩⟩
theorem BsL.below {w w' : World} {M : Nat} {ks : List Bk} {cs : List BC} (h : BsL w M ks cs) (hb : Below M w w') : BsL w' M ks cs := ⟨h.1, fun i k hk => by obtain ⟨c, a, b⟩ := h.2 i k hk; exact ⟨c, a, b.below hb⟩⟩
theorem get_app {α β : Type} {P : α → β → Prop} {a b : List α} {c d : List β} (h1 : a.length = c.length) (h2 : ∀ (i : Nat) (k : α), a[i]? = some k → ∃ x, c[i]? = some x ∧ P k x) (h3 : ∀ (i : Nat) (k : α), b[i]? = some k → ∃ x, d[i]? = some x ∧ P k x) :
    ∀ (i : Nat) (k : α), (a ++ b)[i]? = some k → ∃ x, (c ++ d)[i]? = some x ∧ P k x := by
  intro i k hk
  by_cases hi : i < a.length
  · rw [List.getElem?_append_left hi] at hk
    obtain ⟨x, e, hx⟩ := h2 i k hk
    exact ⟨x, by rw [List.getElem?_append_left (by omega)]; exact e, hx⟩
  · rw [List.getElem?_append_right (by omega)] at hk
    obtain ⟨x, e, hx⟩ := h3 _ k hk
    exact ⟨x, by rw [List.getElem?_append_right (by omega), ← h1]; exact e, hx⟩
theorem IsL.app {w : World} {M : Nat} {a b : List In} {c d : List IC} (h : IsL w M a c) (h' : IsL w M b d) : IsL w M (a ++ b) (c ++ d) := ⟨by simp [h.1, h'.1], get_app h.1 h.2 h'.2⟩
theorem BsL.app {w : World} {M : Nat} {a b : List Bk} {c d : List BC} (h : BsL w M a c) (h' : BsL w M b d) : BsL w M (a ++ b) (c ++ d) := ⟨by simp [h.1, h'.1], get_app h.1 h.2 h'.2⟩
theorem IsL.one {w : World} {M : Nat} {x : In} {c : IC} (h : InB w M x c) : IsL w M [x] [c] := ⟨rfl, fun i k hk => (by cases i with
  | zero => (obtain rfl : x = k := by simpa using hk); exact ⟨c, rfl, h⟩
  | succ i => simp at hk)⟩
theorem BsL.one {w : World} {M : Nat} {x : Bk} {c : BC} (h : BkB w M x c) : BsL w M [x] [c] := ⟨rfl, fun i k hk => (by cases i with
  | zero => (obtain rfl : x = k := by simpa using hk); exact ⟨c, rfl, h⟩
  | succ i => simp at hk)⟩
theorem IsL.nil {w : World} {M : Nat} : IsL w M [] [] := ⟨rfl, fun i k hk => by simp at hk⟩
theorem BsL.nil {w : World} {M : Nat} : BsL w M [] [] := ⟨rfl, fun i k hk => by simp at hk⟩
/-- a slice of the call's own that holds inlines, blocks -/
def RI (w : World) (base M : Nat) (v : Value) (ks : List In) : Prop := ∃ cs, w.ownsRow base 52 10 v ks.length (cs.flatMap IC.cells) ∧ IsL w M ks cs
def RB (w : World) (base M : Nat) (v : Value) (ks : List Bk) : Prop := ∃ cs, w.ownsRow base 54 11 v ks.length (cs.flatMap BC.cells) ∧ BsL w M ks cs
def DIPost (M : Nat) (r : List In) (w : World) (e : Ending) (w' : World) : Prop := ∃ v, e = .returned v ∧ RI w' w.heap.size M v r ∧ Below w.heap.size w w'
def DBPost (M : Nat) (r : List Bk) (w : World) (e : Ending) (w' : World) : Prop := ∃ v, e = .returned v ∧ RB w' w.heap.size M v r ∧ Below w.heap.size w w'

set_option maxHeartbeats 8000000 in
set_option maxRecDepth 100000 in
/-- the inlines of a list, given what is done for the kids of each -/
theorem deep_list (M : Nat) (ks : List In)
    (IH : ∀ x ∈ ks, ∀ (A : Option Addr) (n c : Nat) (w : World), M ≤ w.heap.size → IsB w M x.ks ⟨A, n, c⟩ → (dpL x.ks).length ≤ 1000000000 → Calls Tryz.prog 90 #[.slice A n c] w (DIPost M (dpL x.ks) w))
    (A : Option Addr) (n c : Nat) (w : World) (hM : M ≤ w.heap.size) (h : IsB w M ks ⟨A, n, c⟩) (hl : (dpL ks).length ≤ 1000000000) :
    Calls Tryz.prog 90 #[.slice A n c] w (DIPost M (dpL ks) w) := by
  obtain ⟨cs, hrd, ⟨hlen, hn⟩, hget⟩ := h
  have hcn : cs.length = n := hrd.count IC.cells 10 IC.cells_len (by omega)
  have HI := Lib.hid IH
  clear IH
  have HLEN : Hid (∀ j, j ≤ ks.length → (dpL (ks.take j)).length ≤ (dpL ks).length) := fun j hj => by
    have e : dpL ks = dpL (ks.take j) ++ dpL (ks.drop j) := by rw [← dpL_app, List.take_append_drop]
    rw [e, List.length_append]; omega
  go_enter Tryz.func90, Tryz.ntmps90
  go_wp2
  go_loopw [3, 4] (fun fv i wr => ∃ (j : Nat), j ≤ ks.length ∧ i = .int .i64 j ∧ RI wr w.heap.size M fv (dpL (ks.take j)) ∧ Below w.heap.size w wr) (fun _ i _ => ks.length - (intOf i).toNat)
  case atStart => exact ⟨0, Nat.zero_le _, rfl, ⟨[], ⟨rfl, .inl ⟨rfl, rfl⟩⟩, .nil⟩, .refl _ _⟩
  case round =>
    obtain ⟨j, hj, rfl, ⟨cv, hown, hLv⟩, hb⟩ := hrel
    have hsw := hb.size
    by_cases hlt : j < ks.length
    · have hkj : ks[j]? = some ks[j] := List.getElem?_eq_getElem hlt
      have HT := Lib.hid (dpL_take hkj)
      have HI2 := Lib.hid (HI.out _ (List.getElem_mem hlt))
      have HL2 := HLEN.out (j + 1) hlt
      rw [HT.out, dpI_eq, List.length_append, List.length_cons] at HL2
      obtain ⟨x, hcj, hx⟩ := hget j _ hkj
      generalize ks[j] = k at *
      obtain ⟨bb, o, rfl, hbm, hcell⟩ := (hrd.below (hb.mono hM)).elem IC.cells 10 IC.cells_len (by omega) hcj
      have c0 : wr.cell? ⟨bb, o + j * 10, none⟩ = some (.int .i64 x.k) := hcell 0 _ rfl
      have c_1 : wr.cell? ⟨bb, o + j * 10 + 1, none⟩ = some (.string (B x.tx)) := hcell 1 _ rfl
      have c_2 : wr.cell? ⟨bb, o + j * 10 + 2, none⟩ = some (.string (B x.ds)) := hcell 2 _ rfl
      have c3 : wr.cell? ⟨bb, o + j * 10 + 3, none⟩ = some (.string (B x.ti)) := hcell 3 _ rfl
      have c4 : wr.cell? ⟨bb, o + j * 10 + 4, none⟩ = some (.string (B x.id)) := hcell 4 _ rfl
      have c5 : wr.cell? ⟨bb, o + j * 10 + 5, none⟩ = some (.slice x.cl.A x.cl.n x.cl.c) := hcell 5 _ rfl
      have c6 : wr.cell? ⟨bb, o + j * 10 + 6, none⟩ = some (.slice x.pr.A x.pr.n x.pr.c) := hcell 6 _ rfl
      have c7 : wr.cell? ⟨bb, o + j * 10 + 7, none⟩ = some (.slice x.ag.A x.ag.n x.ag.c) := hcell 7 _ rfl
      have c8 : wr.cell? ⟨bb, o + j * 10 + 8, none⟩ = some (.slice x.ct.A x.ct.n x.ct.c) := hcell 8 _ rfl
      have c9 : wr.cell? ⟨bb, o + j * 10 + 9, none⟩ = some (.slice x.kd.A x.kd.n x.kd.c) := hcell 9 _ rfl
      clear hcell
      have hj1 : (j : Int) < (n : Int) := by omega
      obtain ⟨A1, c1, rfl, hnc⟩ := own_form hown
      have hxk := hx.kids
      generalize hD : dpL (ks.take j) = D at *
      have hx1 : InB wr M k x := hx.below (hb.mono hM)
      go_wp2_with (at_builtin; (refine wpList_big2 rfl (.tmp 11) (.tmp 16) 50 rfl 52 (.agg #[.int .i64 0, .string ⟨#[]⟩, .string ⟨#[]⟩, .string ⟨#[]⟩, .string ⟨#[]⟩, .slice none 0 0, .slice none 0 0, .slice none 0 0, .slice none 0 0, .slice none 0 0]) 10 192 Tryz.underlying50 Tryz.infoInline rfl (by omega) wr (IC.cells x) rfl (ic_one1 x) w.heap.size (.slice A1 D.length c1) D.length (cv.flatMap IC.cells) hown rfl rfl (by omega) (by omega) hsw ?_))
      intro v' w6 hown6 hgr hb6 hat
      have hs6 := hgr.size
      have hB6 := hb.trans (hb6.mono (Nat.le_refl _))
      have e1 : cv.flatMap IC.cells ++ IC.cells x = (cv ++ [x]).flatMap IC.cells := by simp
      have e2 : D.length + 1 = (D ++ [k]).length := by simp
      rw [e1, e2] at hown6
      clear e1 e2
      have hL6 : IsL w6 M (D ++ [k]) (cv ++ [x]) := (hLv.app (.one hx1)).below (hb6.mono hM)
      have c9 : w6.cell? ⟨bb, o + j * 10 + 9, none⟩ = some (.slice x.kd.A x.kd.n x.kd.c) := (hb6.cell (p := ⟨bb, o + j * 10 + 9, none⟩) (by show bb < _; omega)).trans c9
      have hk6 : IsB w6 M k.ks ⟨x.kd.A, x.kd.n, x.kd.c⟩ := hxk.below (hB6.mono hM)
      have HC := Lib.hid (HI2.out x.kd.A x.kd.n x.kd.c w6 (by omega) hk6 (by omega))
      obtain ⟨A2, c2, rfl, hnc2⟩ := own_form hown6
      clear hgr hat c0 c_1 c_2 c3 c4 c5 c6 c7 c8 hcj HI HI2
      go_wp2_with fail
      refine HC.out.mono ?_
      rintro e w7 ⟨v7, rfl, ⟨cw, hown7, hLw⟩, hb7⟩
      obtain ⟨A3, c3, rfl, hnc3⟩ := own_form hown7
      have hr7 := Rd.of_own hown7
      have hs7 := hb7.size
      have hown67 := own_below hown6 hb7
      have hB7 := hB6.trans (hb7.mono (by omega))
      have hL7 := hL6.below (hb7.mono (by omega))
      have HT2 : Hid (dpL (ks.take (j + 1)) = D ++ [k] ++ dpL k.ks) := by rw [HT.out, dpI_eq]; simp [Hid]
      have HDL : Hid ((D ++ [k]).length = D.length + 1) := by simp [Hid]
      clear HT HC hown6 hown7 hL6 c9 hk6
      generalize hE : D ++ [k] = E at *
      generalize hF : dpL k.ks = F at *
      have hEF : E.length + F.length ≤ 1000000001 := by have := HDL.out; omega
      go_wp2_with (refine wpList_bigs rfl (.tmp 18) (.tmp 24) 50 rfl 52 (.agg #[.int .i64 0, .string ⟨#[]⟩, .string ⟨#[]⟩, .string ⟨#[]⟩, .string ⟨#[]⟩, .slice none 0 0, .slice none 0 0, .slice none 0 0, .slice none 0 0, .slice none 0 0]) 10 192 Tryz.underlying50 Tryz.infoInline rfl (by omega) w7 w.heap.size (.slice A2 E.length c2) E.length ((cv ++ [x]).flatMap IC.cells) hown67 rfl w7.heap.size A3 F.length c3 (cw.flatMap IC.cells) hr7 rfl (ic_one cw) (by omega) (by omega) (by omega) ?_)
      intro v8 w8 hown8 hgr8 hb8
      have hs8 := hgr8.size
      have hB8 := hB7.trans (hb8.mono (Nat.le_refl _))
      have hL8 : IsL w8 M (E ++ F) ((cv ++ [x]) ++ cw) := (hL7.app hLw).below (hb8.mono hM)
      have hown8 : w8.ownsRow w.heap.size 52 10 v8 (E ++ F).length (((cv ++ [x]) ++ cw).flatMap IC.cells) := by simpa using hown8
      rw [← HT2.out] at hown8 hL8
      obtain ⟨A4, c4, rfl, hnc4⟩ := own_form hown8
      clear hgr8 hnc hnc2 hnc3 hE hF hEF hr7 hown67 hLw hL7 hb7 hb8 hB6 hB7 hx1 hxk hx
      go_wp2
      go_roundw
      case rel => exact ⟨j + 1, by omega, by go_num, ⟨_, hown8, hL8⟩, hB8⟩
      case measure => simp [intOf]; omega
    · rw [List.take_of_length_le (by omega)] at hown hLv
      have hj1 : ¬ (j : Int) < (n : Int) := by omega
      go_wp2
      go_ret
      exact ⟨_, rfl, ⟨cv, hown, hLv⟩, hb⟩
theorem deep_any (M : Nat) (ks : List In) (A : Option Addr) (n c : Nat) (w : World) (hM : M ≤ w.heap.size) (h : IsB w M ks ⟨A, n, c⟩) (hl : (dpL ks).length ≤ 1000000000) :
    Calls Tryz.prog 90 #[.slice A n c] w (DIPost M (dpL ks) w) := by
  have H : ∀ x : In, ∀ (A : Option Addr) (n c : Nat) (w : World), M ≤ w.heap.size → IsB w M x.ks ⟨A, n, c⟩ → (dpL x.ks).length ≤ 1000000000 → Calls Tryz.prog 90 #[.slice A n c] w (DIPost M (dpL x.ks) w) := by
    refine In.ind ?_
    intro k tx ds ti id ao ags cts ks IH A n c w hM h hl
    exact deep_list M ks IH A n c w hM h hl
  exact deep_list M ks (fun x _ => H x) A n c w hM h hl
end Go.Proofs.YtejjidbodfoiiaaGreatDoor
