/-
  Layer 44 (links): the references of a document that do not resolve, as label has them.
  Layer 44 (links): label.Missing, links.Doc.
-/
import Derived.Test.YtejjidbodfoiiaaGreatDoorLkEF
import Derived.Test.YtejjidbodfoiiaaGreatDoorLkM
namespace Go.Proofs.YtejjidbodfoiiaaGreatDoor
open Go.RowKit
set_option linter.unusedVariables false
set_option linter.unusedSimpArgs false
attribute [local go_sem] B_data B_size
attribute [local go_sem] run_mkS

theorem toList_B' (x : Bs) : (B x).toList = x := by simp [B]
/-- the names of notes -/
def noteE : Ev → List Bs
  | .b x => if x.k = 14 then [x.nf] else []
  | .i _ => []
def notesV (V : List Ev) : List Bs := V.flatMap noteE
theorem notesV_snoc (V : List Ev) (e : Ev) : notesV (V ++ [e]) = notesV V ++ noteE e := by simp [notesV]
/-- a name that is not known -/
def unk (S : List Bs) (n : Bs) : List Bs := if n ∈ S then [] else [n]
/-- the name of a reference that does not resolve -/
def missI (ids notes : List Bs) (x : In) : List Bs :=
  if x.k = 14 then unk ids x.tx else if x.k = 12 then unk notes x.tx else if x.k = 9 then (if x.tx = [] ∧ x.ds.head? = some 35 then unk ids (x.ds.drop 1) else []) else []
def missE (ids notes : List Bs) : Ev → List Bs
  | .b _ => []
  | .i x => missI ids notes x
def missV (ids notes : List Bs) (V : List Ev) : List Bs := V.flatMap (missE ids notes)
theorem missV_snoc (ids notes : List Bs) (V : List Ev) (e : Ev) : missV ids notes (V ++ [e]) = missV ids notes V ++ missE ids notes e := by simp [missV]
theorem unk_len (S : List Bs) (n : Bs) : (unk S n).length ≤ 1 := by unfold unk; split <;> simp
theorem missI_len (ids notes : List Bs) (x : In) : (missI ids notes x).length ≤ 1 := by
  have h1 := unk_len ids x.tx
  have h2 := unk_len notes x.tx
  have h3 := unk_len ids (x.ds.drop 1)
  unfold missI
  split
  · exact h1
  split
  · exact h2
  split
  · split
    · exact h3
    · simp
  · simp
theorem missV_len (ids notes : List Bs) (V : List Ev) : (missV ids notes V).length ≤ V.length := by
  unfold missV
  induction V with
  | nil => simp
  | cons e r ih =>
    rw [List.flatMap_cons, List.length_append, List.length_cons]
    have : (missE ids notes e).length ≤ 1 := by
      cases e with
      | b x => simp [missE]
      | i x => exact missI_len ids notes x
    omega
/-- the set of notes, while it is filled -/
structure TJ (w0 : World) (M tb tm : Nat) (S : List Bs) (W : World) : Prop where
  keep : Below M w0 W
  bx : W.heap[tb]? = some (.cells #[.map (some tm)] 73 (0, 0))
  mx : SMap W tm (seenM (addAll S))
  lm : M ≤ tm ∧ tm ≠ tb
theorem TJ.step {w0 W W' : World} {M tb tm : Nat} {S : List Bs} (h : TJ w0 M tb tm S W) (hb : Below W.heap.size W W') : TJ w0 M tb tm S W' := by
  have h1 := h.mx.lt
  have h2 := h.lm
  exact ⟨h.keep.trans (hb.mono (by omega)), (hb.block _ (Array.getElem?_eq_some_iff.1 h.bx).1).trans h.bx, h.mx.of_block (hb.block _ h1), h.lm⟩
def TV (w0 : World) (M tb tm : Nat) : Jt := fun V O W => TJ w0 M tb tm (notesV V) W ∧ O = fun k => k = tm
set_option maxHeartbeats 4000000 in
set_option maxRecDepth 100000 in
theorem note_any (w0 : World) (M tb tm : Nat) (V : List Ev) (x : Bk) (c : BC) (q o : Nat) (w : World) (h : TJ w0 M tb tm (notesV V) w) (hx : BkB w M x c) (hc : CellsAt w q o c.cells) :
    Calls Tryz.prog 53 #[.pointer (some ⟨q, o, none⟩), .pointer (some ⟨tb, 0, none⟩)] w (VP (TV w0 M tb tm) (V ++ [.b x]) (fun k => k = tm) w) := by
  have hk : c.k = x.k ∧ c.nf = x.nf := by cases x; exact ⟨hx.parts.1.1, hx.parts.1.2.2.1⟩
  have c0 : w.cell? ⟨q, o, none⟩ = some (.int .i64 c.k) := hc 0 _ rfl
  have c2 : w.cell? ⟨q, o + 2, none⟩ = some (.string (B c.nf)) := hc 2 _ rfl
  rw [hk.1] at c0
  rw [hk.2] at c2
  have f0 : w.cell? ⟨tb, 0, none⟩ = some (.map (some tm)) := by simp [World.cell?, h.bx]
  clear hx hc hk
  by_cases hk : x.k = 14
  · have d0 : (x.k == 14) = true := by simpa using hk
    have HN : Hid (notesV (V ++ [.b x]) = notesV V ++ [x.nf]) := by rw [notesV_snoc]; simp [noteE, hk, Hid]
    go_enter Tryz.func53, Tryz.ntmps53
    go_wp2_with fail
    go_still_tail 5, (by kernel_rfl)
    change wpList _ _ _ _ _ w.drew
    have h4 := h.step (Below.refl w.heap.size w).drew
    go_wp2_with (refine wpList_store rfl 73 9 4 _ _ _ rfl Tryz.underlying73 Tryz.underlying9 tm (seenM (addAll (notesV V))) h4.mx rfl x.nf rfl (.bool true) rfl ?_)
    intro w2 hS2 hg2
    rw [putM_add, ← addAll_snoc, ← HN.out] at hS2
    have hm1 := h.mx.lt
    have hlm := h.lm
    have hk2 : Kp (fun k => k = tm) w w2 := ((Kp.of_below (Below.refl w.heap.size w).drew).trans2 (Kp.of_grown hg2) (fun i _ e => by injection e with e; exact e.symm))
    have h5 : TJ w0 M tb tm (notesV (V ++ [.b x])) w2 := ⟨h.keep.trans (hk2.below (by omega) (fun k hk => by omega)), hk2.at h.bx (fun e => hlm.2 e.symm), hS2, hlm⟩
    go_wp2
    go_end0
    exact ⟨rfl, _, ⟨h5, rfl⟩, hk2, fun i hi => .inl hi⟩
  · have d0 : (x.k == 14) = false := by simpa using hk
    have HN : Hid (notesV (V ++ [.b x]) = notesV V) := by rw [notesV_snoc]; simp [noteE, hk, Hid]
    go_enter Tryz.func53, Tryz.ntmps53
    go_wp2
    go_end0
    exact ⟨rfl, _, ⟨by rw [HN.out]; exact h, rfl⟩, .refl _ _⟩
set_option maxHeartbeats 4000000 in
set_option maxRecDepth 100000 in
theorem madd_any (w0 : World) (M nb base m : Nat) (S : List Bs) (v : Value) (l : List Bs) (id : Bs) (w : World) (h : LI w0 M nb base v l w) (hl : l.length ≤ 1000000000) (hm : SMap w m (seenM (addAll S))) :
    Calls Tryz.prog 55 #[.string (B id), .map (some m), .pointer (some ⟨nb, 0, none⟩)] w (LPo w0 M nb base v (l ++ unk S id) w) := by
  have x1 := hm.has id
  by_cases h0 : id ∈ S
  · have HI : Hid (unk S id = []) := if_pos h0
    rw [decide_eq_true (mem_addAll.2 h0)] at x1
    go_enter Tryz.func55, Tryz.ntmps55
    go_wp2
    go_end0
    exact ⟨rfl, v, by rw [HI.out, List.append_nil]; exact h, .refl _ _⟩
  · have HI : Hid (unk S id = [id]) := if_neg h0
    rw [decide_eq_false (fun e => h0 (mem_addAll.1 e))] at x1
    obtain ⟨A1, c1, rfl, hnc⟩ := own_form h.own
    have hoc : w.cell? ⟨nb, 0, none⟩ = some (.slice A1 l.length c1) := by simp [World.cell?, h.oo]
    have hln := h.ln2
    have hlb := h.lb
    clear h0
    go_enter Tryz.func55, Tryz.ntmps55
    go_wp2_with (at_builtin; (refine wpList_app2 rfl (.tmp 9) (.tmp 11) 25 rfl 9 (.string ⟨#[]⟩) 1 16 Tryz.underlying25 Tryz.info9 rfl (by omega) w [.string (B id)] rfl (by simp; rfl) base (.slice A1 l.length c1) l.length (strs l) h.own rfl rfl (by omega) (by omega) h.lb ?_))
    intro v' w2 hown2 hgr hb2 hat
    obtain ⟨hLI, hMv⟩ := h.put hown2 hgr hat
    have hn : some nb ≠ (Value.slice A1 l.length c1).ownBlock := fun e => by have := (h.own.lt nb e.symm).1; omega
    have ho2 : w2.heap[nb]? = some (.cells #[.slice A1 l.length c1] 25 (0, 0)) := (hgr.block nb (Array.getElem?_eq_some_iff.1 h.oo).1 hn).trans h.oo
    have oc2 : w2.cell? ⟨nb, 0, none⟩ = some (.slice A1 l.length c1) := by simp [World.cell?, ho2]
    have of2 : w2.frozen? ⟨nb, 0, none⟩ = false := by simp [World.frozen?, ho2]
    obtain ⟨A2, c2, rfl, hnc2⟩ := own_form hown2
    rw [← HI.out] at hLI
    clear h hgr hb2 hat hown2 hoc
    go_wp2
    go_end0
    exact ⟨rfl, _, hLI, hMv⟩
theorem tvis (w0 : World) (M tb tm : Nat) :
    Vis w0 M 1000000000 (.func (.func 53) #[] #[.pointer (some ⟨tb, 0, none⟩)]) .nilFunc (TV w0 M tb tm) where
  keep := fun V O W ⟨h, _⟩ => h.keep
  lt := fun V O W ⟨h, e⟩ k hk => by subst e; have hk : k = tm := hk; rw [hk]; exact h.mx.lt
  step := fun V O W W' ⟨h, e⟩ hb => ⟨h.step hb, e⟩
  blk := .inr ⟨_, _, rfl, (by intro args W; kernel_rfl), fun V O W b c q o ⟨h, e⟩ hl hb hc => by
    subst e
    exact note_any w0 M tb tm V b c q o W h hb hc⟩
  lin := .inl ⟨rfl, fun V O W x ⟨h, e⟩ => ⟨by rw [notesV_snoc]; simpa [noteE] using h, e⟩⟩
/-- what the third closure reads -/
structure MS (M nb base kb ib im tb tm : Nat) (ids notes : List Bs) (W : World) : Prop where
  kbx : FBx W kb 55 #[.pointer (some ⟨nb, 0, none⟩)] 101
  ibx : W.heap[ib]? = some (.cells #[.map (some im)] 73 (0, 0))
  imx : SMap W im (seenM (addAll ids))
  tbx : W.heap[tb]? = some (.cells #[.map (some tm)] 73 (0, 0))
  tmx : SMap W tm (seenM (addAll notes))
  o1 : kb < base ∧ kb ≠ nb
  o2 : ib < base ∧ ib ≠ nb
  o3 : im < base ∧ im ≠ nb
  o4 : tb < base ∧ tb ≠ nb
  o5 : tm < base ∧ tm ≠ nb
theorem MS.keep {M nb base kb ib im tb tm : Nat} {ids notes : List Bs} {W W' : World} (h : MS M nb base kb ib im tb tm ids notes W) (hk : ∀ b, b < base → b ≠ nb → W'.heap[b]? = W.heap[b]?) : MS M nb base kb ib im tb tm ids notes W' :=
  ⟨(hk kb h.o1.1 h.o1.2).trans h.kbx, (hk ib h.o2.1 h.o2.2).trans h.ibx, h.imx.of_block (hk im h.o3.1 h.o3.2), (hk tb h.o4.1 h.o4.2).trans h.tbx, h.tmx.of_block (hk tm h.o5.1 h.o5.2), h.o1, h.o2, h.o3, h.o4, h.o5⟩
theorem MS.mv {w0 : World} {M nb base kb ib im tb tm : Nat} {ids notes l : List Bs} {v v' : Value} {W W' : World} (h : MS M nb base kb ib im tb tm ids notes W) (hl : LI w0 M nb base v l W) (hm : Mv (ownO nb v) (ownO nb v') W W') : MS M nb base kb ib im tb tm ids notes W' := by
  have h1 := hl.lb
  refine h.keep fun b hb hne => hm.k.block b (by omega) fun ho => ?_
  rcases ho with e | e
  · exact hne e
  · have := (hl.own.lt b e).1
    omega
set_option maxHeartbeats 4000000 in
set_option maxRecDepth 100000 in
theorem mlin_any (w0 : World) (M nb base kb ib im tb tm : Nat) (ids notes : List Bs) (v : Value) (l : List Bs) (x : In) (c : IC) (q o : Nat) (w : World) (h : LI w0 M nb base v l w) (hl : l.length ≤ 1000000000)
    (hM : MS M nb base kb ib im tb tm ids notes w) (hx : InB w M x c) (hc : CellsAt w q o c.cells) :
    Calls Tryz.prog 56 #[.pointer (some ⟨q, o, none⟩), .pointer (some ⟨kb, 0, none⟩), .pointer (some ⟨ib, 0, none⟩), .pointer (some ⟨tb, 0, none⟩)] w (LPo w0 M nb base v (l ++ missI ids notes x) w) := by
  have hk : c.k = x.k ∧ c.tx = x.tx ∧ c.ds = x.ds := by cases x; exact ⟨hx.parts.1.1, hx.parts.1.2.1, hx.parts.1.2.2.1⟩
  have hds : x.ds.length ≤ 140737488355328 := by cases x; exact hx.ok _ (by simp [inT, In.ds])
  have c0 : w.cell? ⟨q, o, none⟩ = some (.int .i64 c.k) := hc 0 _ rfl
  have c1 : w.cell? ⟨q, o + 1, none⟩ = some (.string (B c.tx)) := hc 1 _ rfl
  have c2 : w.cell? ⟨q, o + 2, none⟩ = some (.string (B c.ds)) := hc 2 _ rfl
  rw [hk.1] at c0
  rw [hk.2.1] at c1
  rw [hk.2.2] at c2
  have hkb := hM.kbx
  unfold FBx at hkb
  have f0 : w.cell? ⟨kb, 0, none⟩ = some (.func (.func 55) #[] #[.pointer (some ⟨nb, 0, none⟩)]) := by simp [World.cell?, hkb]
  have f1 : w.cell? ⟨ib, 0, none⟩ = some (.map (some im)) := by simp [World.cell?, hM.ibx]
  have f2 : w.cell? ⟨tb, 0, none⟩ = some (.map (some tm)) := by simp [World.cell?, hM.tbx]
  have h4 := h.step h.le (Below.refl w.heap.size w).drew
  have hM4 := hM.mv h (Mv.of_below (Below.refl w.heap.size w).drew (R := ownO nb v))
  have hm4 : Mv (ownO nb v) (ownO nb v) w w.drew := .of_below (Below.refl w.heap.size w).drew
  have HC1 := Lib.hid (fun s => madd_any w0 M nb base im ids v l s w.drew h4 hl hM4.imx)
  have HC2 := Lib.hid (fun s => madd_any w0 M nb base tm notes v l s w.drew h4 hl hM4.tmx)
  clear hx hc hk hkb
  by_cases hk14 : x.k = 14
  · have d0 : (x.k == 14) = true := by simpa using hk14
    have HI : Hid (missI ids notes x = unk ids x.tx) := by unfold missI; rw [if_pos hk14]; rfl
    go_enter Tryz.func56, Tryz.ntmps56
    go_wp2_with fail
    go_still_tail 6, (by kernel_rfl)
    change wpList _ _ _ _ _ w.drew
    go_wp2_with fail
    refine (HC1.out x.tx).mono ?_
    rintro e w5 ⟨rfl, v', h5, hm5⟩
    go_wp2
    go_end0
    exact ⟨rfl, v', by rw [HI.out]; exact h5, hm4.trans hm5⟩
  by_cases hk12 : x.k = 12
  · have d0 : (x.k == 14) = false := by simpa using hk14
    have d1 : (x.k == 12) = true := by simpa using hk12
    have HI : Hid (missI ids notes x = unk notes x.tx) := by unfold missI; rw [if_neg hk14, if_pos hk12]; rfl
    go_enter Tryz.func56, Tryz.ntmps56
    go_wp2_with fail
    go_still_tail 6, (by kernel_rfl)
    change wpList _ _ _ _ _ w.drew
    go_wp2_with fail
    refine (HC2.out x.tx).mono ?_
    rintro e w5 ⟨rfl, v', h5, hm5⟩
    go_wp2
    go_end0
    exact ⟨rfl, v', by rw [HI.out]; exact h5, hm4.trans hm5⟩
  have d0 : (x.k == 14) = false := by simpa using hk14
  have d1 : (x.k == 12) = false := by simpa using hk12
  by_cases hk9 : x.k = 9
  · have d2 : (x.k == 9) = true := by simpa using hk9
    have HI : Hid (missI ids notes x = if x.tx = [] ∧ x.ds.head? = some 35 then unk ids (x.ds.drop 1) else []) := by unfold missI; rw [if_neg hk14, if_neg hk12, if_pos hk9]; rfl
    by_cases ht : x.tx = []
    · have n1 : (x.tx == []) = true := by simpa using ht
      have n2 : x.tx.isEmpty = true := by rw [ht]; rfl
      rw [ht] at c1
      cases hd : x.ds with
      | nil =>
        have HI : Hid (missI ids notes x = []) := by rw [HI.out, hd]; simp [Hid]
        rw [hd] at c2
        clear hds hd
        go_enter Tryz.func56, Tryz.ntmps56
        go_wp2
        go_end0
        exact ⟨rfl, v, by rw [HI.out, List.append_nil]; exact h, .refl _ _⟩
      | cons d r =>
        rw [hd] at c2 hds
        rw [hd] at HI
        have hsz : (B (d :: r)).size = r.length + 1 := by rw [B_size]; rfl
        have hb0 : (B (d :: r))[0] = d := rfl
        have hdl : (d :: r).length ≤ 140737488355328 := hds
        rw [List.length_cons] at hdl
        have n3 : ((d :: r) == []) = false := rfl
        have n4 : (d :: r).isEmpty = false := rfl
        by_cases h35 : d = 35
        · have HI2 : Hid (missI ids notes x = unk ids r) := by rw [HI.out, if_pos ⟨ht, by simp [h35]⟩]; rfl
          clear HI
          have HI := HI2
          clear HI2
          have ex : (B (d :: r)).extract 1 (r.length + 1) = B r := by
            rw [B_extract, toList_B']; simp
          subst h35
          clear hd
          go_enter Tryz.func56, Tryz.ntmps56
          have i1 : (1 : Int) ≤ (r.length : Int) + 1 := by omega
          have i2 : ((r.length : Int) + 1).toNat = r.length + 1 := by omega
          go_wp2_with fail
          go_still_tail 7, (by kernel_rfl)
          change wpList _ _ _ _ _ w.drew
          go_wp2_with fail
          refine (HC1.out r).mono ?_
          rintro e w5 ⟨rfl, v', h5, hm5⟩
          go_wp2
          go_end0
          exact ⟨rfl, v', by rw [HI.out]; exact h5, hm4.trans hm5⟩
        · have HI : Hid (missI ids notes x = []) := by rw [HI.out, if_neg (by simp [h35])]; rfl
          have d35 : ((d.toNat : Int) == 35) = false := by
            rw [beq_eq_false_iff_ne]
            intro e
            exact h35 (UInt8.toNat_inj.1 (by have : d.toNat = 35 := by omega
                                             rw [this]; rfl))
          clear hd
          go_enter Tryz.func56, Tryz.ntmps56
          go_wp2
          go_end0
          exact ⟨rfl, v, by rw [HI.out, List.append_nil]; exact h, .refl _ _⟩
    · have n1 : (x.tx == []) = false := by simpa using ht
      have n2 : x.tx.isEmpty = false := by simpa using ht
      have HI : Hid (missI ids notes x = []) := by rw [HI.out, if_neg (fun e => ht e.1)]; rfl
      clear ht
      go_enter Tryz.func56, Tryz.ntmps56
      go_wp2
      go_end0
      exact ⟨rfl, v, by rw [HI.out, List.append_nil]; exact h, .refl _ _⟩
  · have d2 : (x.k == 9) = false := by simpa using hk9
    have HI : Hid (missI ids notes x = []) := by unfold missI; rw [if_neg hk14, if_neg hk12, if_neg hk9]; rfl
    go_enter Tryz.func56, Tryz.ntmps56
    go_wp2
    go_end0
    exact ⟨rfl, v, by rw [HI.out, List.append_nil]; exact h, .refl _ _⟩
/-- what is kept while the references are taken -/
def MV (w0 : World) (M nb base kb ib im tb tm : Nat) (ids notes : List Bs) : Jt := fun V O W => ∃ v, LI w0 M nb base v (missV ids notes V) W ∧ MS M nb base kb ib im tb tm ids notes W ∧ O = ownO nb v
theorem mvis (w0 : World) (M nb base kb ib im tb tm : Nat) (ids notes : List Bs) :
    Vis w0 M 1000000000 .nilFunc (.func (.func 56) #[] #[.pointer (some ⟨kb, 0, none⟩), .pointer (some ⟨ib, 0, none⟩), .pointer (some ⟨tb, 0, none⟩)]) (MV w0 M nb base kb ib im tb tm ids notes) where
  keep := fun V O W ⟨v, h, _⟩ => h.keep
  lt := fun V O W ⟨v, h, _, e⟩ k hk => by subst e; exact (h.lt hk).1
  step := fun V O W W' ⟨v, h, hM, e⟩ hb => ⟨v, h.step h.le hb, hM.keep fun b hb1 _ => hb.block b (by have := h.lb; omega), e⟩
  blk := .inl ⟨rfl, fun V O W x ⟨v, h, hM, e⟩ => ⟨v, by rw [missV_snoc]; simpa [missE] using h, hM, e⟩⟩
  lin := .inr ⟨_, _, rfl, (by intro args W; kernel_rfl), fun V O W b c q o ⟨v, h, hM, e⟩ hl hb hc => by
    subst e
    refine (mlin_any w0 M nb base kb ib im tb tm ids notes v _ b c q o W h (Nat.le_trans (missV_len ids notes V) (by omega)) hM hb hc).mono fun e w' hp => ?_
    obtain ⟨h1, v', h2, h3⟩ := hp
    exact ⟨h1, _, ⟨v', by rw [missV_snoc]; exact h2, hM.mv h h3, rfl⟩, h3⟩⟩
end Go.Proofs.YtejjidbodfoiiaaGreatDoor
namespace Go.Proofs.YtejjidbodfoiiaaGreatDoor
open Go.RowKit
set_option linter.unusedVariables false
set_option linter.unusedSimpArgs false
attribute [local go_sem] B_data B_size
attribute [local go_sem] run_mkS

/-- the names of the references that do not resolve, also repeated ones -/
def missD (ks : List Bk) : List Bs := missV (idsV (evL ks)) (notesV (evL ks)) (evL ks)
/-- what is known while the identifiers are entered -/
structure DMi (w : World) (d1 : Value) (d2 : Value) (S : List Bs) (W : World) : Prop where
  kp : Below w.heap.size w W
  dx : W.heap[w.heap.size]? = some (.cells #[d1, d2] 30 (0, 0))
  ibx : W.heap[w.heap.size + 1 + 1 + 1]? = some (.cells #[.map (some (w.heap.size + 1))] 73 (0, 0))
  tbx : W.heap[w.heap.size + 1 + 1 + 1 + 1]? = some (.cells #[.map (some (w.heap.size + 1 + 1))] 73 (0, 0))
  imx : SMap W (w.heap.size + 1) (seenM S)
  tmx : SMap W (w.heap.size + 1 + 1) (seenM [])
theorem DMi.lt {w W : World} {d1 d2 : Value} {S : List Bs} (h : DMi w d1 d2 S W) : w.heap.size + 1 + 1 + 1 + 1 < W.heap.size := (Array.getElem?_eq_some_iff.1 h.tbx).1
theorem DMi.step {w W W' : World} {d1 d2 : Value} {S : List Bs} (h : DMi w d1 d2 S W) (hb : Below W.heap.size W W') : DMi w d1 d2 S W' := by
  have h1 := h.lt
  exact ⟨h.kp.trans (hb.mono h.kp.size), (hb.block _ (by omega)).trans h.dx, (hb.block _ (by omega)).trans h.ibx, (hb.block _ (by omega)).trans h.tbx, h.imx.of_block (hb.block _ (by omega)), h.tmx.of_block (hb.block _ (by omega))⟩
theorem DMi.put {w W W' : World} {d1 d2 : Value} {S S' : List Bs} (h : DMi w d1 d2 S W) (hm : SMap W' (w.heap.size + 1) (seenM S')) (hg : W.grownBy W' (some (w.heap.size + 1))) : DMi w d1 d2 S' W' := by
  have h1 := h.lt
  have hne : ∀ b, b ≠ w.heap.size + 1 → some b ≠ some (w.heap.size + 1) := fun b hb e => hb (by injection e)
  exact ⟨h.kp.grown hg h.kp.size fun k hk => by injection hk with hk; omega, (hg.block _ (by omega) (hne _ (by omega))).trans h.dx, (hg.block _ (by omega) (hne _ (by omega))).trans h.ibx, (hg.block _ (by omega) (hne _ (by omega))).trans h.tbx, hm, h.tmx.of_block (hg.block _ (by omega) (hne _ (by omega)))⟩
set_option maxHeartbeats 4000000 in
set_option maxRecDepth 100000 in
theorem miss_any (ks : List Bk) (mv : Value) (A : Option Addr) (n c : Nat) (w : World) (hs : BsB w w.heap.size ks ⟨A, n, c⟩) (hn : (evL ks).length ≤ 1000000000) :
    Calls Tryz.prog 30 #[.agg #[mv, .slice A n c]] w (OPost (missD ks) w) := by
  obtain ⟨W1, hW1⟩ : ∃ W1, W1 = w.alloc (.cells #[mv, .slice A n c] 30) := ⟨_, rfl⟩
  obtain ⟨W2, hW2⟩ : ∃ W2, W2 = W1.alloc (.map #[] 0) := ⟨_, rfl⟩
  obtain ⟨W3, hW3⟩ : ∃ W3, W3 = W2.alloc (.map #[] 0) := ⟨_, rfl⟩
  obtain ⟨W4, hW4⟩ : ∃ W4, W4 = W3.alloc (.cells #[.map (some (w.heap.size + 1))] 73) := ⟨_, rfl⟩
  obtain ⟨W5, hW5⟩ : ∃ W5, W5 = W4.alloc (.cells #[.map (some (w.heap.size + 1 + 1))] 73) := ⟨_, rfl⟩
  have s1 : W1.heap.size = w.heap.size + 1 := by rw [hW1]; simp
  have s2 : W2.heap.size = w.heap.size + 1 + 1 := by rw [hW2]; simp [s1]
  have s3 : W3.heap.size = w.heap.size + 1 + 1 + 1 := by rw [hW3]; simp [s2]
  have s4 : W4.heap.size = w.heap.size + 1 + 1 + 1 + 1 := by rw [hW4]; simp [s3]
  have b1 : Below w.heap.size w W1 := by rw [hW1]; exact below_alloc w _
  have b2 : Below W1.heap.size W1 W2 := by rw [hW2]; exact below_alloc W1 _
  have b3 : Below W2.heap.size W2 W3 := by rw [hW3]; exact below_alloc W2 _
  have b4 : Below W3.heap.size W3 W4 := by rw [hW4]; exact below_alloc W3 _
  have b5 : Below W4.heap.size W4 W5 := by rw [hW5]; exact below_alloc W4 _
  have q1 : W1.heap[w.heap.size]? = some (.cells #[mv, .slice A n c] 30 (0, 0)) := by rw [hW1]; exact heap_alloc_new w _
  have m2 : SMap W2 (w.heap.size + 1) [] := by rw [hW2, ← s1]; exact SMap.made W1
  have m3 : SMap W3 (w.heap.size + 1 + 1) [] := by rw [hW3, ← s2]; exact SMap.made W2
  have q4 : W4.heap[w.heap.size + 1 + 1 + 1]? = some (.cells #[.map (some (w.heap.size + 1))] 73 (0, 0)) := by rw [hW4, ← s3]; exact heap_alloc_new W3 _
  have q5 : W5.heap[w.heap.size + 1 + 1 + 1 + 1]? = some (.cells #[.map (some (w.heap.size + 1 + 1))] 73 (0, 0)) := by rw [hW5, ← s4]; exact heap_alloc_new W4 _
  have b45 := b4.trans (b5.mono (by omega))
  have b35 := b3.trans (b45.mono (by omega))
  have b25 := b2.trans (b35.mono (by omega))
  have hD : DMi w mv (.slice A n c) [] W5 := ⟨b1.trans (b25.mono (by omega)), (b25.block _ (by omega)).trans q1, (b5.block _ (by omega)).trans q4, q5, m2.of_block (b35.block _ (by omega)), m3.of_block (b45.block _ (by omega))⟩
  have hs5 := (hs.below hD.kp).more hD.kp.size
  have HN := Lib.hid (names_any ks mv A n c W5 hs5 hn)
  have p0 : W5.cell? ⟨w.heap.size, 0, none⟩ = some mv := by simp only [World.cell?, hD.dx]; rfl
  have p1 : W5.cell? ⟨w.heap.size, 1, none⟩ = some (.slice A n c) := by simp only [World.cell?, hD.dx]; rfl
  have hil := Nat.le_trans (idsV_len (evL ks)) hn
  subst hW5 hW4 hW3 hW2 hW1
  clear s1 s2 s3 s4 b1 b2 b3 b4 b5 q1 m2 m3 q4 q5 b45 b35 b25 hs5
  go_enter Tryz.func30, Tryz.ntmps30
  go_wp2_with fail
  refine HN.out.mono ?_
  intro e w1 hP
  obtain ⟨A5, c5, rb, rfl, hR5, hrb, hrl5, hb5⟩ := hP.row w.heap.size (by have := hD.lt; omega)
  have hD1 := hD.step hb5
  have hDl := hD.lt
  have HM : Hid (missD ks = missV (idsV (evL ks)) (notesV (evL ks)) (evL ks)) := rfl
  generalize idsV (evL ks) = ids at *
  clear HN hP p0 p1
  go_wp2
  clear hD
  go_loopw [14] (fun i wr => ∃ (j : Nat), j ≤ ids.length ∧ i = .int .i64 j ∧ DMi w mv (.slice A n c) (addAll (ids.take j)) wr ∧ RdS wr (fun b => b = rb) 1 A5 ids.length (strs ids)) (fun i _ => ids.length - (intOf i).toNat)
  case atStart => exact ⟨0, Nat.zero_le _, rfl, hD1, hR5⟩
  case round =>
    clear hD1 hR5
    obtain ⟨j, hj, rfl, hD, hR5⟩ := hrel
    have hDl := hD.lt
    have hne : some rb ≠ some (w.heap.size + 1) := fun e => by
      injection e with e
      rcases hrb with h | h
      · omega
      · simp at h; omega
    by_cases hlt : j < ids.length
    · have hx : ids[j]? = some ids[j] := List.getElem?_eq_getElem hlt
      have hrw : rb < wr.heap.size := by
        obtain ⟨ad, e, hb, hc⟩ := hR5.2 (by omega)
        have := World.block_lt_of_cell? wr _ (hc 0 _ (List.getElem?_eq_getElem (by rw [strs_len]; omega)))
        rw [addr_block] at this
        omega
      obtain ⟨ad, e, hc⟩ := (hR5.rd (M := rb + 1) (fun b hb => by omega)).str hlt
      subst e
      rw [show ids.getD j [] = ids[j] by simp [List.getD, hx]] at hc
      have HT : Hid (addAll (ids.take (j + 1)) = addS (addAll (ids.take j)) ids[j]) := by rw [List.take_succ_eq_append_getElem hlt, addAll_snoc]; rfl
      generalize ids[j] = x at *
      have f3 : wr.cell? ⟨w.heap.size + 1 + 1 + 1, 0, none⟩ = some (.map (some (w.heap.size + 1))) := by simp only [World.cell?, hD.ibx]; rfl
      go_wp2_with (refine wpList_store rfl 73 9 4 _ _ _ rfl Tryz.underlying73 Tryz.underlying9 (w.heap.size + 1) (seenM (addAll (ids.take j))) hD.imx rfl x rfl (.bool true) rfl ?_)
      intro w2 hS2 hg2
      rw [putM_add, ← HT.out] at hS2
      have hD2 := hD.put hS2 hg2
      have hR6 : RdS w2 (fun b => b = rb) 1 (some ad) ids.length (strs ids) := hR5.keep fun b hb => by subst hb; exact hg2.block b hrw hne
      clear hc
      go_wp2
      go_roundw
      case rel => exact ⟨j + 1, by omega, by go_num, hD2, hR6⟩
      case measure => simp [intOf]; omega
    · rw [List.take_of_length_le (by omega)] at hD
      have hsk := hs
      have hkw := hD.kp.size
      have hT : TJ w w.heap.size (w.heap.size + 1 + 1 + 1 + 1) (w.heap.size + 1 + 1) [] wr := ⟨hD.kp, hD.tbx, hD.tmx, by omega⟩
      have C := Lib.hid (blk_any (tvis w w.heap.size (w.heap.size + 1 + 1 + 1 + 1) (w.heap.size + 1 + 1)) ks ⟨A, n, c⟩ [] (fun k => k = w.heap.size + 1 + 1) wr hs ⟨hT, rfl⟩ (by simpa using hn))
      have p1 : wr.cell? ⟨w.heap.size, 1, none⟩ = some (.slice A n c) := by simp only [World.cell?, hD.dx]; rfl
      clear hR5
      go_wp2_with fail
      refine C.out.mono ?_
      rintro e w4 ⟨rfl, O4, ⟨hT4, -⟩, hm4⟩
      rw [List.nil_append] at hT4
      have k1 : w4.heap[w.heap.size]? = _ := hm4.at hD.dx (fun e => by omega)
      have k2 : w4.heap[w.heap.size + 1 + 1 + 1]? = _ := hm4.at hD.ibx (fun e => by omega)
      have k3 : SMap w4 (w.heap.size + 1) (seenM (addAll ids)) := hD.imx.of_block (hm4.k.block _ (by omega) (fun e => by omega))
      have hs4 := hm4.k.size
      clear C hD hT p1
      obtain ⟨X1, hX1⟩ : ∃ X1, X1 = w4.alloc (.cells #[.slice none 0 0] 25) := ⟨_, rfl⟩
      obtain ⟨X2, hX2⟩ : ∃ X2, X2 = X1.alloc (.cells #[.func (.func 55) #[] #[.pointer (some ⟨w4.heap.size, 0, none⟩)]] 101) := ⟨_, rfl⟩
      have t1 : X1.heap.size = w4.heap.size + 1 := by rw [hX1]; simp
      have t2 : X2.heap.size = w4.heap.size + 2 := by rw [hX2]; simp [t1]
      have b1 : Below w4.heap.size w4 X1 := by rw [hX1]; exact below_alloc w4 _
      have b2 : Below X1.heap.size X1 X2 := by rw [hX2]; exact below_alloc X1 _
      have b12 := b1.trans (b2.mono (by omega))
      have q1 : X1.heap[w4.heap.size]? = some (.cells #[.slice none 0 0] 25 (0, 0)) := by rw [hX1]; exact heap_alloc_new w4 _
      have q2 : X2.heap[w4.heap.size + 1]? = some (.cells #[.func (.func 55) #[] #[.pointer (some ⟨w4.heap.size, 0, none⟩)]] 101 (0, 0)) := by rw [hX2, ← t1]; exact heap_alloc_new X1 _
      have hL : LI w w.heap.size w4.heap.size (w4.heap.size + 2) (.slice none 0 0) [] X2 := ⟨hT4.keep.trans (b12.mono (by omega)), (b2.block _ (by omega)).trans q1, ⟨rfl, .inl ⟨rfl, rfl⟩⟩, by omega, by omega, by omega⟩
      have hMS : MS w.heap.size w4.heap.size (w4.heap.size + 2) (w4.heap.size + 1) (w.heap.size + 1 + 1 + 1) (w.heap.size + 1) (w.heap.size + 1 + 1 + 1 + 1) (w.heap.size + 1 + 1) ids (notesV (evL ks)) X2 :=
        ⟨q2, (b12.block _ (by omega)).trans k2, k3.of_block (b12.block _ (by omega)), (b12.block _ (by omega)).trans hT4.bx, hT4.mx.of_block (b12.block _ (by omega)), by omega, by omega, by omega, by omega, by omega⟩
      have C2 := Lib.hid (blk_any (mvis w w.heap.size w4.heap.size (w4.heap.size + 2) (w4.heap.size + 1) (w.heap.size + 1 + 1 + 1) (w.heap.size + 1) (w.heap.size + 1 + 1 + 1 + 1) (w.heap.size + 1 + 1) ids (notesV (evL ks))) ks ⟨A, n, c⟩ [] _ X2 hs ⟨_, hL, hMS, rfl⟩ (by simpa using hn))
      have p2 : X2.cell? ⟨w.heap.size, 1, none⟩ = some (.slice A n c) := by rw [World.cell?, (b12.block _ (by omega)).trans k1]; rfl
      subst hX2 hX1
      clear q1 q2 b1 b2 b12 t1 t2 hL hMS
      go_wp2_with fail
      refine C2.out.mono ?_
      rintro e w6 ⟨rfl, O6, ⟨v, hL6, -, -⟩, hm6⟩
      rw [List.nil_append, ← HM.out] at hL6
      obtain ⟨A1, c1', rfl, hnc⟩ := own_form hL6.own
      have hoc : w6.cell? ⟨w4.heap.size, 0, none⟩ = some (.slice A1 (missD ks).length c1') := by simp only [World.cell?, hL6.oo]; rfl
      have hown := hL6.own
      have hB := hL6.keep
      clear C2 hL6 p2
      go_wp2
      go_ret
      exact ⟨_, rfl, own_mono hown (by omega), hB⟩
end Go.Proofs.YtejjidbodfoiiaaGreatDoor
