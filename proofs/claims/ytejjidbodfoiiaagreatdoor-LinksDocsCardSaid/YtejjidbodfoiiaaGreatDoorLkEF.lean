/-
  Layer 44 (links): the identifiers of a document.
  Layer 44 (links): Names of a document.
-/
import Derived.Test.YtejjidbodfoiiaaGreatDoorLkDV
import Derived.Test.YtejjidbodfoiiaaGreatDoorMkV
namespace Go.Proofs.YtejjidbodfoiiaaGreatDoor
open Go.RowKit
set_option linter.unusedVariables false
set_option linter.unusedSimpArgs false
attribute [local go_sem] B_data B_size

/-- a list of the callee's own -/
def OPost (r : List Bs) (w : World) (e : Ending) (w' : World) : Prop := ∃ v, e = .returned v ∧ w'.ownsRow w.heap.size 9 1 v r.length (strs r) ∧ Below w.heap.size w w'
theorem own_mono {w : World} {base base' e sz n : Nat} {v : Value} {xs : List Value} (h : w.ownsRow base e sz v n xs) (hb : base' ≤ base) : w.ownsRow base' e sz v n xs := by
  refine ⟨h.1, ?_⟩
  rcases h.2 with h | ⟨g, cap, cur, h1, h2, h3⟩
  · exact .inl h
  · exact .inr ⟨g, cap, cur, h1, Nat.le_trans hb h2, h3⟩
theorem OPost.lp {r : List Bs} {w : World} {e : Ending} {w' : World} (h : OPost r w e w') : LPost r w e w' := by
  obtain ⟨v, h1, h2, h3⟩ := h
  obtain ⟨A, c, rfl, _⟩ := own_form h2
  exact ⟨A, c, h1, Rd.of_own h2, h3⟩
/-- the row of a list, in one block -/
theorem OPost.row {r : List Bs} {w w' : World} {e : Ending} (h : OPost r w e w') (d : Nat) (hd : d < w.heap.size) : ∃ A c rb, e = .returned (.slice A r.length c) ∧ RdS w' (fun b => b = rb) 1 A r.length (strs r) ∧ (rb = d ∨ w.heap.size ≤ rb) ∧ rb < w'.heap.size ∧ Below w.heap.size w w' := by
  obtain ⟨v, h1, h2, h3⟩ := h
  have hs := h3.size
  have hl := strs_len r
  rcases h2.2 with ⟨hv, h0⟩ | ⟨g, cap, cur, hv, h4, h5, h6⟩
  · refine ⟨none, 0, d, by rw [h1, hv, h0], ⟨by rw [hl]; omega, fun hn => by omega⟩, .inl rfl, by omega, h3⟩
  · have hR := Rd.of_own (hv ▸ h2)
    refine ⟨some ⟨g, 0, none⟩, cap, g, by rw [h1, hv], ⟨by rw [hl]; omega, fun hn => ?_⟩, .inr h4, (Array.getElem?_eq_some_iff.1 h5).1, h3⟩
    obtain ⟨ad, e1, _, e3⟩ := hR.2 hn
    exact ⟨ad, e1, by injection e1 with e1; rw [← e1], e3⟩
def idL (s : Bs) : List Bs := if s = [] then [] else [s]
def idE : Ev → List Bs
  | .b x => idL x.id
  | .i x => idL x.id
def idsV (V : List Ev) : List Bs := V.flatMap idE
theorem idL_len (s : Bs) : (idL s).length ≤ 1 := by unfold idL; split <;> simp
theorem idsV_snoc (V : List Ev) (e : Ev) : idsV (V ++ [e]) = idsV V ++ idE e := by simp [idsV]
theorem idsV_len (V : List Ev) : (idsV V).length ≤ V.length := by
  unfold idsV
  induction V with
  | nil => simp
  | cons e r ih =>
    rw [List.flatMap_cons, List.length_append, List.length_cons]
    have : (idE e).length ≤ 1 := by cases e <;> exact idL_len _
    omega
def ownO (nb : Nat) (v : Value) : Nat → Prop := fun k => k = nb ∨ v.ownBlock = some k
/-- a list in a box: nb the box, base where its rows begin -/
structure LI (w0 : World) (M nb base : Nat) (v : Value) (l : List Bs) (W : World) : Prop where
  keep : Below M w0 W
  oo : W.heap[nb]? = some (.cells #[v] 25 (0, 0))
  own : W.ownsRow base 9 1 v l.length (strs l)
  ln : M ≤ nb
  ln2 : nb < base
  lb : base ≤ W.heap.size
section
variable {w0 : World} {M nb base : Nat} {v v' : Value} {l l' : List Bs} {W W' : World}
theorem LI.step (h : LI w0 M nb base v l W) (hM : M ≤ W.heap.size) (hb : Below W.heap.size W W') : LI w0 M nb base v l W' :=
  ⟨h.keep.trans (hb.mono hM), (hb.block _ (Array.getElem?_eq_some_iff.1 h.oo).1).trans h.oo, own_below h.own hb, h.ln, h.ln2, Nat.le_trans h.lb hb.size⟩
theorem LI.le (h : LI w0 M nb base v l W) : M ≤ W.heap.size := by have := h.ln; have := h.ln2; have := h.lb; omega
theorem LI.lt (h : LI w0 M nb base v l W) {k : Nat} (hk : ownO nb v k) : k < W.heap.size ∧ M ≤ k := by
  have h1 := h.ln
  have h2 := h.ln2
  have h3 := h.lb
  rcases hk with rfl | hk
  · omega
  · have := h.own.lt k hk
    omega
/-- a list that is longer -/
theorem LI.put {x : Bs} {w2 : World} (h : LI w0 M nb base v l W) (hown : w2.ownsRow base 9 1 v' (l.length + 1) (strs l ++ [.string (B x)])) (hg : W.grownBy w2 v.ownBlock)
    (hat : v'.ownBlock = v.ownBlock ∨ v'.ownBlock = some (W.heap.size + 1)) :
    LI w0 M nb base v' (l ++ [x]) (w2.setCell ⟨nb, 0, none⟩ v') ∧ Mv (ownO nb v) (ownO nb v') W (w2.setCell ⟨nb, 0, none⟩ v') := by
  have hk : Kp (ownO nb v) W (w2.setCell ⟨nb, 0, none⟩ v') := ((Kp.of_grown hg).mono fun i _ e => .inr e.symm.symm).setCell fun _ => .inl rfl
  have h1 := h.ln2
  have h2 := h.lb
  have hn : some nb ≠ v.ownBlock := fun e => by have := (h.own.lt nb e.symm).1; omega
  have ho2 : w2.heap[nb]? = some (.cells #[v] 25 (0, 0)) := (hg.block nb (Array.getElem?_eq_some_iff.1 h.oo).1 hn).trans h.oo
  have e1 : strs l ++ [.string (B x)] = strs (l ++ [x]) := strs_snoc l x
  have e2 : l.length + 1 = (l ++ [x]).length := by simp
  rw [e1, e2] at hown
  refine ⟨⟨h.keep.trans (hk.below h.le fun k hk => (h.lt hk).2), one_set ho2, ?_, h.ln, h.ln2, Nat.le_trans h.lb hk.size⟩, hk, ?_⟩
  · refine hown.kept (grown_set w2 nb 0 v') (.inr ?_)
    intro e
    have := (hown.lt nb e).1
    omega
  · intro k hk
    rcases hk with rfl | hk
    · exact .inl (.inl rfl)
    · rcases hat with e | e
      · exact .inl (.inr (e ▸ hk))
      · rw [e] at hk
        injection hk with hk
        exact .inr (by omega)
end
/-- after a string was added to a list -/
def LPo (w0 : World) (M nb base : Nat) (v : Value) (l : List Bs) (w : World) (e : Ending) (w' : World) : Prop := e = .returned (.tuple #[]) ∧ ∃ v', LI w0 M nb base v' l w' ∧ Mv (ownO nb v) (ownO nb v') w w'
set_option maxHeartbeats 4000000 in
set_option maxRecDepth 100000 in
theorem nadd_any (w0 : World) (M nb base : Nat) (v : Value) (l : List Bs) (id : Bs) (w : World) (h : LI w0 M nb base v l w) (hl : l.length ≤ 1000000000) :
    Calls Tryz.prog 85 #[.string (B id), .pointer (some ⟨nb, 0, none⟩)] w (LPo w0 M nb base v (l ++ idL id) w) := by
  by_cases h0 : id = []
  · subst h0
    go_enter Tryz.func85, Tryz.ntmps85
    go_wp2
    go_end0
    exact ⟨rfl, v, by rw [show idL [] = [] from rfl, List.append_nil]; exact h, .refl _ _⟩
  · have n1 : (id == []) = false := by simpa using h0
    have n2 : id.isEmpty = false := by simpa using h0
    have HI : Hid (idL id = [id]) := if_neg h0
    obtain ⟨A1, c1, rfl, hnc⟩ := own_form h.own
    have hoc : w.cell? ⟨nb, 0, none⟩ = some (.slice A1 l.length c1) := by simp [World.cell?, h.oo]
    have hln := h.ln2
    have hlb := h.lb
    clear h0
    go_enter Tryz.func85, Tryz.ntmps85
    go_wp2_with (at_builtin; (refine wpList_app2 rfl (.tmp 5) (.tmp 7) 25 rfl 9 (.string ⟨#[]⟩) 1 16 Tryz.underlying25 Tryz.info9 rfl (by omega) w [.string (B id)] rfl (by simp; rfl) base (.slice A1 l.length c1) l.length (strs l) h.own rfl rfl (by omega) (by omega) h.lb ?_))
    intro v' w2 hown2 hgr hb2 hat
    obtain ⟨hLI, hMv⟩ := h.put hown2 hgr hat
    have hn : some nb ≠ (Value.slice A1 l.length c1).ownBlock := fun e => by have := (h.own.lt nb e.symm).1; omega
    have ho2 : w2.heap[nb]? = some (.cells #[.slice A1 l.length c1] 25 (0, 0)) := (hgr.block nb (Array.getElem?_eq_some_iff.1 h.oo).1 hn).trans h.oo
    have oc2 : w2.cell? ⟨nb, 0, none⟩ = some (.slice A1 l.length c1) := by simp [World.cell?, ho2]
    have of2 : w2.frozen? ⟨nb, 0, none⟩ = false := by simp [World.frozen?, ho2]
    obtain ⟨A2, c2, rfl, hnc2⟩ := own_form hown2
    rw [← HI.out] at hLI
    clear h hgr hb2 hat hown2 hoc
    go_wp2
    go_end0
    exact ⟨rfl, _, hLI, hMv⟩
/-- the box of a function -/
def FBx (w : World) (ab : Nat) (g : Nat) (caps : Array Value) (t : TypeId) : Prop := w.heap[ab]? = some (.cells #[.func (.func g) #[] caps] t (0, 0))
set_option maxHeartbeats 4000000 in
set_option maxRecDepth 100000 in
theorem nblk_any (w0 : World) (M nb ab base : Nat) (v : Value) (l : List Bs) (x : Bk) (c : BC) (q o : Nat) (w : World) (h : LI w0 M nb base v l w) (hl : l.length ≤ 1000000000)
    (hf : FBx w ab 85 #[.pointer (some ⟨nb, 0, none⟩)] 138) (hx : BkB w M x c) (hc : CellsAt w q o c.cells) :
    Calls Tryz.prog 86 #[.pointer (some ⟨q, o, none⟩), .pointer (some ⟨ab, 0, none⟩)] w (LPo w0 M nb base v (l ++ idL x.id) w) := by
  have hid : c.id = x.id := by cases x; exact hx.parts.1.2.2.2.2.2.2
  have c6 : w.cell? ⟨q, o + 6, none⟩ = some (.string (B c.id)) := hc 6 _ rfl
  rw [hid] at c6
  unfold FBx at hf
  have f0 : w.cell? ⟨ab, 0, none⟩ = some (.func (.func 85) #[] #[.pointer (some ⟨nb, 0, none⟩)]) := by simp [World.cell?, hf]
  have HC := Lib.hid (fun W (hW : LI w0 M nb base v l W) => nadd_any w0 M nb base v l x.id W hW hl)
  clear hx hc hid
  go_enter Tryz.func86, Tryz.ntmps86
  go_wp2_with fail
  go_still_tail 6, (by kernel_rfl)
  change wpList _ _ _ _ _ w.drew
  have h4 := h.step h.le (Below.refl w.heap.size w).drew
  have hm4 : Mv (ownO nb v) (ownO nb v) w w.drew := .of_below (Below.refl w.heap.size w).drew
  go_wp2_with fail
  refine (HC.out _ h4).mono ?_
  rintro e w5 ⟨rfl, v', h5, hm5⟩
  go_wp2
  go_end0
  exact ⟨rfl, v', h5, hm4.trans hm5⟩
set_option maxHeartbeats 4000000 in
set_option maxRecDepth 100000 in
theorem nlin_any (w0 : World) (M nb ab base : Nat) (v : Value) (l : List Bs) (x : In) (c : IC) (q o : Nat) (w : World) (h : LI w0 M nb base v l w) (hl : l.length ≤ 1000000000)
    (hf : FBx w ab 85 #[.pointer (some ⟨nb, 0, none⟩)] 138) (hx : InB w M x c) (hc : CellsAt w q o c.cells) :
    Calls Tryz.prog 87 #[.pointer (some ⟨q, o, none⟩), .pointer (some ⟨ab, 0, none⟩)] w (LPo w0 M nb base v (l ++ idL x.id) w) := by
  have hid : c.id = x.id := by cases x; exact hx.parts.1.2.2.2.2
  have c6 : w.cell? ⟨q, o + 4, none⟩ = some (.string (B c.id)) := hc 4 _ rfl
  rw [hid] at c6
  unfold FBx at hf
  have f0 : w.cell? ⟨ab, 0, none⟩ = some (.func (.func 85) #[] #[.pointer (some ⟨nb, 0, none⟩)]) := by simp [World.cell?, hf]
  have HC := Lib.hid (fun W (hW : LI w0 M nb base v l W) => nadd_any w0 M nb base v l x.id W hW hl)
  clear hx hc hid
  go_enter Tryz.func87, Tryz.ntmps87
  go_wp2_with fail
  go_still_tail 6, (by kernel_rfl)
  change wpList _ _ _ _ _ w.drew
  have h4 := h.step h.le (Below.refl w.heap.size w).drew
  have hm4 : Mv (ownO nb v) (ownO nb v) w w.drew := .of_below (Below.refl w.heap.size w).drew
  go_wp2_with fail
  refine (HC.out _ h4).mono ?_
  rintro e w5 ⟨rfl, v', h5, hm5⟩
  go_wp2
  go_end0
  exact ⟨rfl, v', h5, hm4.trans hm5⟩
/-- what is kept while the identifiers are taken -/
def NJ (w0 : World) (M nb ab base : Nat) : Jt := fun V O W => ∃ v, LI w0 M nb base v (idsV V) W ∧ FBx W ab 85 #[.pointer (some ⟨nb, 0, none⟩)] 138 ∧ O = ownO nb v
theorem ent_nb : Ent 86 := by intro args W; kernel_rfl
theorem ent_nl : Ent 87 := by intro args W; kernel_rfl
theorem LPo.vp {w0 : World} {M nb ab base : Nat} {v : Value} {V : List Ev} {x : Ev} {w : World} {e : Ending} {w' : World} (hab : ab < base) (hne : ab ≠ nb) (hf : FBx w ab 85 #[.pointer (some ⟨nb, 0, none⟩)] 138) (hL : LI w0 M nb base v (idsV V) w) (h : LPo w0 M nb base v (idsV V ++ idE x) w e w') : VP (NJ w0 M nb ab base) (V ++ [x]) (ownO nb v) w e w' := by
  obtain ⟨h1, v', h2, h3⟩ := h
  refine ⟨h1, _, ⟨v', by rw [idsV_snoc]; exact h2, ?_, rfl⟩, h3⟩
  refine h3.at hf ?_
  intro hk
  rcases hk with hk | hk
  · exact hne hk
  · have := (hL.own.lt ab hk).1
    omega
theorem nvis (w0 : World) (M nb ab base : Nat) (hab : ab < base) (hne : ab ≠ nb) (hwa : ∀ W, Below M w0 W → True) :
    Vis w0 M 1000000000 (.func (.func 86) #[] #[.pointer (some ⟨ab, 0, none⟩)]) (.func (.func 87) #[] #[.pointer (some ⟨ab, 0, none⟩)]) (NJ w0 M nb ab base) where
  keep := fun V O W ⟨v, h, _⟩ => h.keep
  lt := fun V O W ⟨v, h, _, e⟩ k hk => by subst e; exact (h.lt hk).1
  step := fun V O W W' ⟨v, h, hf, e⟩ hb => ⟨v, h.step h.le hb, (hb.block _ (Array.getElem?_eq_some_iff.1 hf).1).trans hf, e⟩
  blk := .inr ⟨_, _, rfl, ent_nb, fun V O W b c q o ⟨v, h, hf, e⟩ hl hb hc => by
    subst e
    exact (nblk_any w0 M nb ab base v _ b c q o W h (Nat.le_trans (idsV_len V) (by omega)) hf hb hc).mono fun e w' hp => LPo.vp (x := .b b) hab hne hf h hp⟩
  lin := .inr ⟨_, _, rfl, ent_nl, fun V O W b c q o ⟨v, h, hf, e⟩ hl hb hc => by
    subst e
    exact (nlin_any w0 M nb ab base v _ b c q o W h (Nat.le_trans (idsV_len V) (by omega)) hf hb hc).mono fun e w' hp => LPo.vp (x := .i b) hab hne hf h hp⟩
end Go.Proofs.YtejjidbodfoiiaaGreatDoor
namespace Go.Proofs.YtejjidbodfoiiaaGreatDoor
open Go.RowKit
set_option linter.unusedVariables false
set_option linter.unusedSimpArgs false
attribute [local go_sem] B_data B_size

set_option maxHeartbeats 4000000 in
set_option maxRecDepth 100000 in
theorem names_any (ks : List Bk) (mv : Value) (A : Option Addr) (n c : Nat) (w : World) (hs : BsB w w.heap.size ks ⟨A, n, c⟩) (hn : (evL ks).length ≤ 1000000000) :
    Calls Tryz.prog 52 #[.agg #[mv, .slice A n c]] w (OPost (idsV (evL ks)) w) := by
  have hb1 := below_alloc w (.cells #[mv, .slice A n c] 30)
  obtain ⟨W1, hW1⟩ : ∃ W1, W1 = w.alloc (.cells #[mv, .slice A n c] 30) := ⟨_, rfl⟩
  have hs1 : W1.heap.size = w.heap.size + 1 := by rw [hW1]; simp
  rw [← hW1] at hb1
  have q2 := heap_alloc_new W1 (.cells #[.slice none 0 0] 25)
  have hb2 := hb1.alloc hb1.size (.cells #[.slice none 0 0] 25)
  obtain ⟨W2, hW2⟩ : ∃ W2, W2 = W1.alloc (.cells #[.slice none 0 0] 25) := ⟨_, rfl⟩
  have hs2 : W2.heap.size = w.heap.size + 1 + 1 := by rw [hW2]; simp [hs1]
  rw [← hW2] at hb2 q2
  rw [hs1] at q2
  have q3 := heap_alloc_new W2 (.cells #[.func (.func 85) #[] #[.pointer (some ⟨w.heap.size + 1, 0, none⟩)]] 138)
  have q23 := (below_alloc W2 (.cells #[.func (.func 85) #[] #[.pointer (some ⟨w.heap.size + 1, 0, none⟩)]] 138)).block _ (show w.heap.size + 1 < W2.heap.size by omega)
  have hb3 := hb2.alloc hb2.size (.cells #[.func (.func 85) #[] #[.pointer (some ⟨w.heap.size + 1, 0, none⟩)]] 138)
  obtain ⟨W3, hW3⟩ : ∃ W3, W3 = W2.alloc (.cells #[.func (.func 85) #[] #[.pointer (some ⟨w.heap.size + 1, 0, none⟩)]] 138) := ⟨_, rfl⟩
  have hs3 : W3.heap.size = w.heap.size + 1 + 1 + 1 := by rw [hW3]; simp [hs2]
  rw [← hW3] at hb3 q3 q23
  rw [hs2] at q3
  have hLI : LI w w.heap.size (w.heap.size + 1) (w.heap.size + 3) (.slice none 0 0) [] W3 := ⟨hb3, q23.trans q2, ⟨rfl, .inl ⟨rfl, rfl⟩⟩, by omega, by omega, by omega⟩
  have hJ : NJ w w.heap.size (w.heap.size + 1) (w.heap.size + 1 + 1) (w.heap.size + 3) [] (ownO (w.heap.size + 1) (.slice none 0 0)) W3 := ⟨_, hLI, q3, rfl⟩
  have C := Lib.hid (blk_any (nvis w w.heap.size (w.heap.size + 1) (w.heap.size + 1 + 1) (w.heap.size + 3) (by omega) (by omega) (fun _ _ => trivial)) ks ⟨A, n, c⟩ [] _ W3 hs hJ (by simpa using hn))
  subst hW3 hW2 hW1
  clear hs1 hs2 hs3 q2 q3 q23 hb1 hb2 hb3 hLI hJ hs
  go_enter Tryz.func52, Tryz.ntmps52
  go_wp2_with fail
  refine C.out.mono ?_
  rintro e w4 ⟨rfl, O', ⟨u, hL, hf, rfl⟩, hm⟩
  clear C
  rw [List.nil_append] at hL
  obtain ⟨A1, c1', hu, hnc⟩ := own_form hL.own
  subst hu
  have hoc : w4.cell? ⟨w.heap.size + 1, 0, none⟩ = some (.slice A1 (idsV (evL ks)).length c1') := by simp [World.cell?, hL.oo]
  have hrd := hL.own
  have hB := hL.keep
  clear hL
  go_wp2
  go_ret
  exact ⟨_, rfl, own_mono hrd (by omega), hB⟩
end Go.Proofs.YtejjidbodfoiiaaGreatDoor
