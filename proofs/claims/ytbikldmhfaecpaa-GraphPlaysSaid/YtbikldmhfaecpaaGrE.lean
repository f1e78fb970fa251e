/-
  Layer 48 (graph): apply.
-/
import Derived.Test.YtbikldmhfaecpaaGrR
import Derived.Laws.MakeOwn
namespace Go.Proofs.Ytbikldmhfaecpaa
open Go.RowKit
set_option linter.unusedVariables false
set_option linter.unusedSimpArgs false
attribute [local go_sem] B_data B_size

theorem run_makeStr (n : Nat) (hn : n ≤ 1000000) (W : World) : ∃ cur : Array Value, (Instr.makeSlice 29 (.int .i64 0) (.int .i64 (n : Int))).run Try.prog W =
    .ok (.slice (some ⟨W.heap.size, 0, none⟩) 0 n) (W.alloc (.cells cur 9)) ∧ cur.size = n * 1 := by
  obtain ⟨i0, hi, hz0, hz1, hz2⟩ := info_parts Try.info9
  have hb : (i0.bytes : Int) * (n : Int) ≤ 281474976710656 := by rw [hz2]; omega
  have hr := run_make (P := Try.prog) W 29 9 i0 _ Try.underlying29 hi hz0 .i64 .i64 0 n (by omega) (by omega) hb (by omega)
  simp only [Int.toNat_natCast, Int.toNat_zero] at hr
  exact ⟨_, hr, by rw [hz1]; simp [madeCells]⟩
/-- rules are not too many, their needs neither -/
structure Lim (E : ES) : Prop where
  n : E.s.rules.length ≤ 10000
  needs : ∀ r ∈ skel E.s.rules, r.needs.length ≤ 10000
theorem Lim.sk {E E' : ES} (h : Lim E) (k : Sk E E') : Lim E' := by
  have e : E'.s.rules.length = E.s.rules.length := by have := congrArg List.length k.rules; simpa [skel] using this
  exact ⟨by rw [e]; exact h.n, by rw [k.rules]; exact h.needs⟩
theorem Lim.find {E : ES} (h : Lim E) {n : Nm} {r : RuleS} (hr : findR E.s.rules n = some r) : r.needs.length ≤ 10000 :=
  h.needs (sk1 r) (by unfold skel; exact List.mem_map_of_mem (findR_mem hr).1)
/-- what an evaluation leaves -/
def EPost (own : Own) (id gb : Nat) (vm rm um : Option Nat) (pt : Nm → PtI) (U : Nm → List Nm) (wb kb : Nat) (E : ES) (r : Res) (w : World) (e : Ending) (w' : World) : Prop :=
  e = .returned (resV r) ∧ ∃ own', Ext own own' id w.heap.size ∧ GW own' id gb vm rm um pt E.s U w' ∧ RW own' gb wb kb E.s.changes E.known w' ∧ KE own id kb w w'
def EvalOk (R id gb : Nat) (vm rm um : Option Nat) (pt : Nm → PtI) (U : Nm → List Nm) (wb kb f : Nat) : Prop :=
  ∀ (own : Own) (E : ES) (n : Nm) (w : World), EI R 0 E → Lim E → GW own id gb vm rm um pt E.s U w → RW own gb wb kb E.s.changes E.known w → nb E.s.rules + 1 ≤ f →
    Calls Try.prog 35 #[.pointer (some ⟨wb, 0, none⟩), .string (B n)] w (EPost own id gb vm rm um pt U wb kb (evalX f E n).1 (evalX f E n).2 w)

theorem own_keep0 {w w' : World} {base : Nat} {e : TypeId} {sz n : Nat} {v : Value} {xs : List Value} (h : w.ownsRow base e sz v n xs) (hk : ∀ b, v.ownBlock = some b → w'.heap[b]? = w.heap[b]?) : w'.ownsRow base e sz v n xs := by
  refine ⟨h.1, ?_⟩
  rcases h.2 with h0 | ⟨g, cap, cur, rfl, h2, h3, h4⟩
  · exact .inl h0
  · exact .inr ⟨g, cap, cur, rfl, h2, (hk g rfl).trans h3, h4⟩
theorem GW.other {own : Own} {id gb q i : Nat} {vm rm um : Option Nat} {pt : Nm → PtI} {S : GS} {U : Nm → List Nm} {w : World} (h : GW own id gb vm rm um pt S U w) (hq : own q = none) (u : Value) : GW own id gb vm rm um pt S U (w.setCell ⟨q, i, none⟩ u) :=
  h.keep (fun b m => Below.heap_setCell w _ _ b (fun e => by have e : b = q := e; obtain ⟨t, ht⟩ := m; rw [e, hq] at ht; cases ht)) (by simp [World.setCell])
theorem RW.other {own : Own} {gb wb kb c q i : Nat} {K : List (Nm × Res)} {w : World} (h : RW own gb wb kb c K w) (h1 : q ≠ wb) (h2 : q ≠ kb) (u : Value) : RW own gb wb kb c K (w.setCell ⟨q, i, none⟩ u) :=
  h.keep (Below.heap_setCell w _ _ wb (fun e => h1 (show wb = q from e).symm)) (Below.heap_setCell w _ _ kb (fun e => h2 (show kb = q from e).symm))
/-- the result is stored in a block of the call's own -/
theorem EPost.fin {own own' : Own} {id gb : Nat} {vm rm um : Option Nat} {pt : Nm → PtI} {U : Nm → List Nm} {wb kb : Nat} {E : ES} {w w5 : World} (hgw : GW own' id gb vm rm um pt E.s U w5) (hrw : RW own' gb wb kb E.s.changes E.known w5) (hext : Ext own own' id w.heap.size) (hke : KE own id kb w w5) (ht : own' w.heap.size = none) (hkb : kb < w.heap.size) (hwb : wb < w.heap.size) (r : Res) :
    EPost own id gb vm rm um pt U wb kb E r w (.returned (resV r)) ((w5.setCell ⟨w.heap.size, 0, none⟩ (.string (B r.1))).setCell ⟨w.heap.size, 1, none⟩ (.int .i64 (r.2 : Int))) :=
  ⟨rfl, own', hext, (hgw.other ht _).other ht _, (hrw.other (by omega) (by omega) _).other (by omega) (by omega) _, KE.setCell (KE.setCell hke (fun h => absurd h (Nat.lt_irrefl _))) (fun h => absurd h (Nat.lt_irrefl _))⟩
theorem EPost.drew {own : Own} {id gb : Nat} {vm rm um : Option Nat} {pt : Nm → PtI} {U : Nm → List Nm} {wb kb : Nat} {E : ES} {r : Res} {w : World} {e : Ending} {w' : World} (h : EPost own id gb vm rm um pt U wb kb E r w e w') : EPost own id gb vm rm um pt U wb kb E r w e w'.drew := by
  obtain ⟨h1, own', h2, h3, h4, h5⟩ := h
  exact ⟨h1, own', h2, h3.drew, h4.below (Below.refl _ _).drew, KE.step h5 (Below.refl _ _).drew⟩
theorem RW.tagged {own : Own} {gb wb kb c g : Nat} {K : List (Nm × Res)} {x : Nat × Tag} {w : World} (h : RW own gb wb kb c K w) (h1 : wb ≠ g) (h2 : kb ≠ g) : RW (tagO own g x) gb wb kb c K w :=
  ⟨h.head, h.map, by unfold tagO; rw [if_neg h1]; exact h.ow, by unfold tagO; rw [if_neg h2]; exact h.ok⟩
/-- what is known while the needs of a rule are evaluated -/
structure AI (own : Own) (id gb : Nat) (vm rm um : Option Nat) (pt : Nm → PtI) (U : Nm → List Nm) (wb kb R : Nat) (E0 E1 : ES) (own1 : Own) (w0 wr : World) : Prop where
  ei : EI R 0 E1
  sk : Sk E0 E1
  gw : GW own1 id gb vm rm um pt E1.s U wr
  rw : RW own1 gb wb kb E1.s.changes E1.known wr
  ext : Ext own own1 id w0.heap.size
  ke : KE own id kb w0 wr
  tb : wr.heap[w0.heap.size]? = some (.cells #[.string ⟨#[]⟩, .int .i64 0] 67 (0, 0))
  ot : own1 w0.heap.size = none
/-- the values of the needs, in a row of the call's own -/
structure AR (own1 : Own) (w0 wr : World) (cap : Nat) (acc : List Nm) : Prop where
  row : wr.ownsRow (w0.heap.size + 1) 9 1 (.slice (some ⟨w0.heap.size + 1, 0, none⟩) acc.length cap) acc.length (strs acc)
  none : own1 (w0.heap.size + 1) = none
  small : ∀ x ∈ acc, x.length ≤ 1000
theorem AR.lt {own1 : Own} {w0 wr : World} {cap : Nat} {acc : List Nm} (h : AR own1 w0 wr cap acc) : w0.heap.size + 1 < wr.heap.size := (h.row.lt _ rfl).2
theorem AR.step {own1 own2 : Own} {id kb : Nat} {w0 wr w' : World} {cap : Nat} {acc : List Nm} (h : AR own1 w0 wr cap acc) (k : KE own1 id kb wr w') (e : Ext own1 own2 id wr.heap.size) (hkb : kb < w0.heap.size) : AR own2 w0 w' cap acc :=
  ⟨own_keep0 h.row (fun b hb => by injection hb with hb; have hb : w0.heap.size + 1 = b := hb; subst hb; exact k.same h.lt h.none (by omega)), by rw [e.old _ h.lt]; exact h.none, h.small⟩
/-- what stands while the result of a call is stored -/
structure AF (own : Own) (id gb wb kb : Nat) (own1 : Own) (c : Nat) (K : List (Nm × Res)) (cap : Nat) (acc : List Nm) (w0 wr : World) : Prop where
  rw : RW own1 gb wb kb c K wr
  ext : Ext own own1 id w0.heap.size
  ke : KE own id kb w0 wr
  tb : wr.heap[w0.heap.size]? = some (.cells #[.string ⟨#[]⟩, .int .i64 0] 67 (0, 0))
  ot : own1 w0.heap.size = none
  ar : AR own1 w0 wr cap acc
  hk : kb < w0.heap.size
  hw : wb < w0.heap.size
theorem AF.put {own : Own} {id gb wb kb : Nat} {own1 : Own} {c : Nat} {K : List (Nm × Res)} {cap : Nat} {acc : List Nm} {w0 wr : World} {q i : Nat} {u : Value} (h : AF own id gb wb kb own1 c K cap acc w0 wr) (hq : Mine own1 id q) : AF own id gb wb kb own1 c K cap acc w0 (wr.setCell ⟨q, i, none⟩ u) := by
  have hne : ∀ b, own1 b = none → q ≠ b := fun b hb e => by obtain ⟨t, ht⟩ := hq; rw [e, hb] at ht; cases ht
  refine ⟨h.rw.other (hne _ h.rw.ow) (hne _ h.rw.ok) _, h.ext, KE.setCell h.ke (fun hl => .inl ((h.ext.mine hl).1 hq)), (Below.heap_setCell wr _ _ _ (fun e => hne _ h.ot e.symm)).trans h.tb, h.ot, ?_, h.hk, h.hw⟩
  exact ⟨ownsRow_setCell_other h.ar.row (fun e => by injection e with e; exact hne _ h.ar.none e.symm) _, h.ar.none, h.ar.small⟩
theorem AF.step {own : Own} {id gb wb kb : Nat} {own1 : Own} {c : Nat} {K : List (Nm × Res)} {cap : Nat} {acc : List Nm} {w0 wr w' : World} (h : AF own id gb wb kb own1 c K cap acc w0 wr) (hb : Below wr.heap.size wr w') : AF own id gb wb kb own1 c K cap acc w0 w' :=
  ⟨h.rw.below hb, h.ext, KE.step h.ke hb, (hb.block _ (Array.getElem?_eq_some_iff.1 h.tb).1).trans h.tb, h.ot, ⟨own_below h.ar.row hb, h.ar.none, h.ar.small⟩, h.hk, h.hw⟩
theorem EI.klen {R k : Nat} {E : ES} (h : EI R k E) : E.known.length ≤ E.s.rules.length := by
  have := nodup_sub_len _ (E.s.rules.map (·.name)) h.nd (fun x hx => by
    obtain ⟨p, hp, rfl⟩ := List.mem_map.1 hx
    obtain ⟨r, h1, _⟩ := h.fr p hp
    have := (findR_mem h1).2
    rw [← this]; exact List.mem_map_of_mem (findR_mem h1).1)
  rwa [List.length_map, List.length_map] at this
theorem RAt.c1 {own : Own} {id : Nat} {p : PtI} {r : RuleS} {w : World} (h : RAt own id p r w) : w.cell? ⟨p.p, 1, none⟩ = some (.func (.func (fnId r.f)) #[] #[]) := by
  obtain ⟨_, _, _, h, _⟩ := h.cells; rw [← fnV_eq]; simp [World.cell?, h]
theorem RAt.c3 {own : Own} {id : Nat} {p : PtI} {r : RuleS} {w : World} (h : RAt own id p r w) : ∃ A c, w.cell? ⟨p.p, 3, none⟩ = some (.slice A r.inn.length c) ∧ Rdo own id (.inn r.name) w A r.inn.length r.inn := by
  obtain ⟨iA, im, ic, h, _, _, h4⟩ := h.cells
  have e := h4.1.strs_length
  subst e
  exact ⟨iA, ic, by simp [World.cell?, h], h4⟩
theorem RAt.c4 {own : Own} {id : Nat} {p : PtI} {r : RuleS} {w : World} (h : RAt own id p r w) : w.cell? ⟨p.p, 4, none⟩ = some (.string (B r.val)) := by
  obtain ⟨_, _, _, h, _⟩ := h.cells; simp [World.cell?, h]
theorem RAt.c5 {own : Own} {id : Nat} {p : PtI} {r : RuleS} {w : World} (h : RAt own id p r w) : w.cell? ⟨p.p, 5, none⟩ = some (.int .i64 (r.e : Int)) := by
  obtain ⟨_, _, _, h, _⟩ := h.cells; simp [World.cell?, h]
theorem callX_same {S : GS} {n : Nm} {r : RuleS} {inn : List Nm} (h : findR S.rules n = some r) (hX : r.called = true ∧ inn = r.inn) : callX S n inn = (S, (r.val, r.e)) := by
  unfold callX; rw [h]; simp only [if_pos hX]
theorem callX_new {S : GS} {n : Nm} {r : RuleS} {inn : List Nm} (h : findR S.rules n = some r) (hX : ¬ (r.called = true ∧ inn = r.inn)) : callX S n inn = ({ S with runs := S.runs + 1, rules := modR n (fun r => { r with called := true, inn := inn, val := (applyV r.f inn).1, e := (applyV r.f inn).2 }) S.rules }, applyV r.f inn) := by
  unfold callX; rw [h]; simp only [if_neg hX]
theorem fn_cases (f : Nat) : fnId f = 26 ∨ fnId f = 25 ∨ fnId f = 31 ∨ fnId f = 32 := by
  unfold fnId
  split
  · exact .inl rfl
  · split
    · exact .inr (.inl rfl)
    · split
      · exact .inr (.inr (.inl rfl))
      · exact .inr (.inr (.inr rfl))
theorem modR_congr {n : Nm} {g h : RuleS → RuleS} {rs : List RuleS} (he : ∀ r ∈ rs, r.name = n → g r = h r) : modR n g rs = modR n h rs := by
  unfold modR
  apply List.map_congr_left
  intro r hr
  split
  · exact he r hr (by assumption)
  · rfl
theorem wpList_fitS {ops : Array Oper} {rest : List Oper} {o : Oper} {a : Act} {Q : Exit → Act → World → Prop} (hgd : o.guard = none) (s x : Operand)
    (ho : o.op = .call { callee := .builtin .append, args := #[s, x], argTypes := #[29, 29] }) (wr : World) (u : Nm) (base g k cap : Nat) (xs : List Value)
    (hown : wr.ownsRow base 9 1 (.slice (some ⟨g, 0, none⟩) k cap) k xs) (hs : a.eval s = .slice (some ⟨g, 0, none⟩) k cap) (hx : a.eval x = .slice (some ⟨wr.heap.size, 0, none⟩) 1 1) (hk : k + 1 ≤ cap)
    (h : ∀ w', w'.ownsRow base 9 1 (.slice (some ⟨g, 0, none⟩) (k + 1) cap) (k + 1) (xs ++ [.string (B u)]) → wr.grownBy w' (some g) → wpList Try.prog ops Q rest (a.put o.dst (.slice (some ⟨g, 0, none⟩) (k + 1) cap)) w') :
    wpList Try.prog ops Q (o :: rest) a (wr.alloc (.cells #[.string (B u)] 9)) := by
  obtain ⟨i0, hi, hz0, hz1, hz2⟩ := info_parts Try.info9
  refine wpList_append_fits _ hgd s x 29 ho base 9 i0 1 Try.underlying29 hi hz1 g k cap xs hs (hown.alloc _) ⟨wr.heap.size, 0, none⟩ 1 1 [.string (B u)] hx rfl ?_ (by simp; rfl) hk ?_
  · intro j v hj
    have hlt : j < 1 := (List.getElem?_eq_some_iff.1 hj).1
    obtain rfl : j = 0 := by omega
    rw [addr_lit, cell_of_row (wr.alloc (.cells #[.string (B u)] 9)) wr.heap.size _ #[.string (B u)] 9 (0, 0) (heap_alloc_new wr _)]
    simpa using hj
  · intro w' h1 h2
    exact h w' h1 (grown_trans (World.grownBy_alloc wr _ _) h2)
set_option maxHeartbeats 8000000 in
set_option maxRecDepth 100000 in
theorem apply_any {R id gb : Nat} {vm rm um : Option Nat} {pt : Nm → PtI} {U : Nm → List Nm} {wb kb f : Nat} (hR : R ≤ 1000000) (IH : EvalOk R id gb vm rm um pt U wb kb f)
    (own : Own) (E : ES) (n : Nm) (r : RuleS) (w : World) (hE : EI R 0 E) (hLm : Lim E) (hgw : GW own id gb vm rm um pt E.s U w) (hrw : RW own gb wb kb E.s.changes E.known w) (hf : nb E.s.rules + 1 ≤ f) (hr : findR E.s.rules n = some r) :
    Calls Try.prog 42 #[.pointer (some ⟨wb, 0, none⟩), .pointer (some ⟨(pt n).p, 0, none⟩)] w (EPost own id gb vm rm um pt U wb kb (applyX (evalX f) E n r.needs).1 (applyX (evalX f) E n r.needs).2 w) := by
  obtain ⟨RES, hRES⟩ : ∃ X, X = applyX (evalX f) E n r.needs := ⟨_, rfl⟩
  rw [← hRES]
  have HRES := Lib.hid hRES
  clear hRES
  have hnl := hLm.find hr
  have hat := hgw.rule hr
  obtain ⟨q0, hrd, hnc⟩ := hat.c0
  have HNM : Hid (r.name = n) := (findR_mem hr).2
  generalize hA : (pt n).A = A at q0
  have HA := Lib.hid hA
  clear hA
  obtain ⟨cur, hmk, hcs⟩ := run_makeStr r.needs.length (by omega) (w.alloc (.cells #[.string ⟨#[]⟩, .int .i64 0] 67))
  have q0a := keeps (below_alloc w (.cells #[.string ⟨#[]⟩, .int .i64 0] 67)) (Nat.le_refl _) q0
  have q0b := keeps (below_alloc (w.alloc (.cells #[.string ⟨#[]⟩, .int .i64 0] 67)) (.cells cur 9)) (Nat.le_refl _) q0a
  have hb0 : Below w.heap.size w ((w.alloc (.cells #[.string ⟨#[]⟩, .int .i64 0] 67)).alloc (.cells cur 9)) := (below_alloc w _).alloc (by simp) _
  have hrow : ((w.alloc (.cells #[.string ⟨#[]⟩, .int .i64 0] 67)).alloc (.cells cur 9)).ownsRow (w.heap.size + 1) 9 1 (.slice (some ⟨w.heap.size + 1, 0, none⟩) 0 r.needs.length) 0 [] := by
    have := World.ownsRow_made (base := w.heap.size + 1) (e := 9) (size := 1) (w.alloc (.cells #[.string ⟨#[]⟩, .int .i64 0] 67)) cur r.needs.length (by simp) (by simp only [maxLen]; omega) hcs
    simpa using this
  have hcell : ((w.alloc (.cells #[.string ⟨#[]⟩, .int .i64 0] 67)).alloc (.cells cur 9)).heap[w.heap.size]? = some (.cells #[.string ⟨#[]⟩, .int .i64 0] 67 (0, 0)) := by
    rw [Lib.alloc_old _ _ _ (by simp)]; exact heap_alloc_new w _
  have hsz : w.heap.size + 1 < ((w.alloc (.cells #[.string ⟨#[]⟩, .int .i64 0] 67)).alloc (.cells cur 9)).heap.size := by simp
  have H0 := Lib.hid (And.intro (hgw.below hb0) (And.intro (hrw.below hb0) (And.intro hrow (And.intro hcell (And.intro hsz (KE.step (Kr.refl (fun b => Mine own id b ∨ b = kb) w) hb0))))))
  have HFR := Lib.hid (And.intro hgw.fr (And.intro hrw.lt1 hrw.lt2))
  have HE := Lib.hid hE
  have HL := Lib.hid hLm
  have HFU := Lib.hid hf
  have HFN := Lib.hid hr
  have HIH := Lib.hid IH
  clear hgw hrw hrow hcell hsz hb0 hE hLm hf IH hat hrd
  generalize hneeds : r.needs = needs at *
  have HNE := Lib.hid hneeds
  clear hneeds
  go_enter Try.func42, Try.ntmps42
  go_wp2
  go_loopg [5, 22] needs.length (fun j v i wr => ∃ (k : Nat) (own1 : Own) (E1 : ES) (acc : List Nm), Hid (j = needs.length - k) ∧ k ≤ needs.length ∧ i = .int .i64 (k : Int) ∧ v = .slice (some ⟨w.heap.size + 1, 0, none⟩) k needs.length ∧ Hid (acc.length = k) ∧ Hid (needsX (evalX f) E [] needs = needsX (evalX f) E1 acc (needs.drop k)) ∧ Hid (AI own id gb vm rm um pt U wb kb R E E1 own1 w wr) ∧ Hid (AR own1 w wr needs.length acc))
  case atStart =>
    obtain ⟨h1, h2, h3, h4, h5, h6⟩ := H0.out
    exact ⟨0, own, E, [], rfl, Nat.zero_le _, rfl, rfl, rfl, rfl, Lib.hid ⟨HE.out, Sk.refl E, h1, h2, Ext.refl own id _ HFR.out.1, h6, h4, HFR.out.1 _ (Nat.le_refl _)⟩, Lib.hid ⟨h3, HFR.out.1 _ (Nat.le_succ _), by simp⟩⟩
  case round =>
    clear H0 q0 q0a q0b hmk hcs
    obtain ⟨k, own1, E1, acc, hj, hk, rfl, rfl, hak, hnx, hai, har⟩ := hrel
    by_cases hlt : k < needs.length
    · have hg : needs[k]? = some needs[k] := List.getElem?_eq_getElem hlt
      have HP : Hid (needsX (evalX f) E [] needs = needsX (evalX f) E1 acc (needs[k] :: needs.drop (k + 1))) := by rw [hnx.out, drop_cons hlt]; rfl
      obtain ⟨r1, hr1, hs1⟩ := hai.out.sk.find HFN.out
      have hn1 : r1.needs = needs := by have := congrArg RuleS.needs hs1; rw [← HNE.out]; exact this
      have hrd1 := (hai.out.gw.rule hr1).c0.2.1
      rw [hn1, HA.out] at hrd1
      obtain ⟨b2, o2, rfl, _, hcu⟩ := rd_get hrd1.1 hg
      generalize needs[k] = u at *
      have C := Lib.hid (HIH.out own1 E1 u wr hai.out.ei (HL.out.sk hai.out.sk) hai.out.gw hai.out.rw (by rw [hai.out.sk.nb]; exact HFU.out))
      obtain ⟨i1, i2, i3⟩ := evalX_inv R f 0 E1 u hai.out.ei
      have HI := Lib.hid (And.intro i1 (And.intro i2 i3))
      have HP2 : Hid (needsX (evalX f) E [] needs = if (evalX f E1 u).2.2 = 0 then needsX (evalX f) (evalX f E1 u).1 (acc ++ [(evalX f E1 u).2.1]) (needs.drop (k + 1)) else ((evalX f E1 u).1, .inl (evalX f E1 u).2.2)) := by rw [HP.out, needsX]; rfl
      clear i1 i2 i3 hrd1 hn1 hs1 hr1 hg HP hnx
      generalize evalX f E1 u = X at *
      obtain ⟨E2, y, e2⟩ := X
      have j1 : (0 : Int) ≤ (k : Int) := by omega
      have j2 : (k : Int) < (needs.length : Int) := by omega
      go_wp2_with fail
      refine C.out.mono ?_
      rintro e w3 ⟨rfl, own2, hext2, hgw2, hrw2, hke2⟩
      simp only [resV]
      have hst := below_alloc w3 (.cells #[.string (B y), .int .i64 (e2 : Int)] 67)
      have htb3 : w3.heap[w.heap.size]? = some (.cells #[.string ⟨#[]⟩, .int .i64 0] 67 (0, 0)) := by
        rw [hke2.same (Array.getElem?_eq_some_iff.1 hai.out.tb).1 hai.out.ot (by have := HFR.out.2.2; omega)]; exact hai.out.tb
      have hot3 : own2 w.heap.size = none := by rw [hext2.old _ (Array.getElem?_eq_some_iff.1 hai.out.tb).1]; exact hai.out.ot
      have hai2 : AI own id gb vm rm um pt U wb kb R E E2 own2 w (w3.alloc (.cells #[.string (B y), .int .i64 (e2 : Int)] 67)) :=
        ⟨HI.out.1, hai.out.sk.trans HI.out.2.1, hgw2.below hst, hrw2.below hst, hai.out.ext.trans hext2 hai.out.ke.size, KE.step (KE.trans2 hai.out.ke hke2 hai.out.ext) hst, (hst.block _ (Array.getElem?_eq_some_iff.1 htb3).1).trans htb3, hot3⟩
      have har2 := har.out.step (hke2.step hst) hext2 HFR.out.2.2
      have t8 : (w3.alloc (.cells #[.string (B y), .int .i64 (e2 : Int)] 67)).heap[w3.heap.size]? = some (.cells #[.string (B y), .int .i64 (e2 : Int)] 67 (0, 0)) := heap_alloc_new w3 _
      have HAI := Lib.hid hai2
      have HAR := Lib.hid har2
      have HT8 := Lib.hid t8
      have HY : Hid (y.length ≤ 1000) := HI.out.2.2
      have H1 : Hid (w3.heap.size < (w3.alloc (.cells #[.string (B y), .int .i64 (e2 : Int)] 67)).heap.size) := Lib.hid (by simp)
      clear hai2 har2 t8 hgw2 hrw2 hke2 hext2 htb3 hot3 hst hai har HI
      go_upto_region 6 with fail
      generalize (w3.alloc (.cells #[.string (B y), .int .i64 (e2 : Int)] 67)) = w4 at HAI HAR HT8 H1 ⊢
      generalize w3.heap.size = q8 at HT8 H1 ⊢
      have g0 : w4.cell? ⟨q8, 0, none⟩ = some (.string (B y)) := by simp [World.cell?, HT8.out]
      have g1 : w4.cell? ⟨q8, 1, none⟩ = some (.int .i64 (e2 : Int)) := by simp [World.cell?, HT8.out]
      by_cases he : e2 = 0
      · have HP3 : Hid (needsX (evalX f) E [] needs = needsX (evalX f) E2 (acc ++ [y]) (needs.drop (k + 1))) := by rw [HP2.out, if_pos he]; rfl
        have d1 : ((e2 : Int) != 0) = false := by simp [he]
        have HE2 := Lib.hid he
        clear he
        have hrow4 := HAR.out.row
        rw [hak.out] at hrow4
        go_wp2_with (refine wpList_fitS rfl (.tmp 35) (.tmp 38) rfl w4 y (w.heap.size + 1) _ _ _ _ hrow4 rfl rfl (by omega) ?_)
        intro w5 ho5 hg5
        have hs5 : strs acc ++ [.string (B y)] = strs (acc ++ [y]) := by simp [strs]
        have ha5 : k + 1 = (acc ++ [y]).length := by rw [List.length_append, hak.out]; rfl
        rw [hs5] at ho5
        have ho6 := ho5
        rw [ha5] at ho6
        have har5 : AR own2 w w5 needs.length (acc ++ [y]) := ⟨ho6, HAR.out.none, fun x hx => by
          rcases List.mem_append.1 hx with hx | hx
          · exact HAR.out.small x hx
          · rw [List.mem_singleton] at hx; subst hx; exact HY.out⟩
        have hkb := HFR.out.2.2
        have hwb := HFR.out.2.1
        have hai5 : AI own id gb vm rm um pt U wb kb R E E2 own2 w w5 :=
          ⟨HAI.out.ei, HAI.out.sk, HAI.out.gw.grown hg5 (fun q e => by injection e with e; rw [← e]; exact HAR.out.none), HAI.out.rw.keep (hg5.block _ HAI.out.rw.lt1 (fun e => by injection e with e; omega)) (hg5.block _ HAI.out.rw.lt2 (fun e => by injection e with e; omega)), HAI.out.ext, KE.grown HAI.out.ke hg5 (fun q e hq => by injection e with e; omega), (hg5.block _ (Array.getElem?_eq_some_iff.1 HAI.out.tb).1 (fun e => by injection e with e; omega)).trans HAI.out.tb, HAI.out.ot⟩
        have R5 := Lib.hid (And.intro hai5 har5)
        have RL : Hid ((acc ++ [y]).length = k + 1) := Lib.hid ha5.symm
        clear hai5 har5 ho5 ho6 hg5 hs5 ha5 hrow4 g0 g1 hkb hwb
        go_wp2
        go_roundg (needs.length - (k + 1))
        case rel => exact ⟨k + 1, own2, E2, acc ++ [y], rfl, by omega, by go_num, rfl, RL, HP3, R5.out.1, R5.out.2⟩
        case measure => have := hj.out; omega
      · have HP3 : Hid (needsX (evalX f) E [] needs = (E2, .inl e2)) := by rw [HP2.out, if_neg he]; rfl
        have d1 : ((e2 : Int) != 0) = true := by simp; omega
        have HRR : Hid (RES = (E2, ([], e2))) := by rw [HRES.out, applyX, HP3.out]; rfl
        have m0 : w4.cell? ⟨w.heap.size, 0, none⟩ = some (.string ⟨#[]⟩) := by simp [World.cell?, HAI.out.tb]
        have m1 : w4.cell? ⟨w.heap.size, 1, none⟩ = some (.int .i64 0) := by simp [World.cell?, HAI.out.tb]
        have z0 : w4.frozen? ⟨w.heap.size, 0, none⟩ = false := by simp [World.frozen?, HAI.out.tb]
        have z1 : w4.frozen? ⟨w.heap.size, 1, none⟩ = false := by simp [World.frozen?, HAI.out.tb]
        have HF := Lib.hid (EPost.fin (own := own) HAI.out.gw HAI.out.rw HAI.out.ext HAI.out.ke HAI.out.ot HFR.out.2.2 HFR.out.2.1 ([], e2))
        have l1 : ((w4.setCell ⟨w.heap.size, 0, none⟩ (.string ⟨#[]⟩)).setCell ⟨w.heap.size, 1, none⟩ (.int .i64 (e2 : Int))).heap[w.heap.size]? = some (.cells #[.string ⟨#[]⟩, .int .i64 (e2 : Int)] 67 (0, 0)) := by simp [World.setCell, Array.getElem?_modify, HAI.out.tb]
        have k0 : ((w4.setCell ⟨w.heap.size, 0, none⟩ (.string ⟨#[]⟩)).setCell ⟨w.heap.size, 1, none⟩ (.int .i64 (e2 : Int))).cell? ⟨w.heap.size, 0, none⟩ = some (.string ⟨#[]⟩) := by simp [World.cell?, l1]
        have k1 : ((w4.setCell ⟨w.heap.size, 0, none⟩ (.string ⟨#[]⟩)).setCell ⟨w.heap.size, 1, none⟩ (.int .i64 (e2 : Int))).cell? ⟨w.heap.size, 1, none⟩ = some (.int .i64 (e2 : Int)) := by simp [World.cell?, l1]
        have HK := Lib.hid (And.intro k0 k1)
        clear he l1 k0 k1
        go_wp2
        rw [HRR.out]
        exact bodyPost_ret (v := .agg #[.string ⟨#[]⟩, .int .i64 (e2 : Int)]) (by simp [results, Try.results42, go_sem, HK.out.1, HK.out.2]) rfl HF.out
    · obtain rfl : k = needs.length := by omega
      have HP : Hid (needsX (evalX f) E [] needs = (E1, .inr acc)) := by rw [hnx.out, List.drop_length]; rfl
      obtain ⟨r1, hr1, hs1⟩ := hai.out.sk.find HFN.out
      have HRR : Hid (RES = ({ E1 with s := (callX E1.s n acc).1 }, (callX E1.s n acc).2)) := by rw [HRES.out, applyX, HP.out]; rfl
      have hat1 := hai.out.gw.rule hr1
      have HAF : Hid (AF own id gb wb kb own1 E1.s.changes E1.known needs.length acc w wr) := Lib.hid ⟨hai.out.rw, hai.out.ext, hai.out.ke, hai.out.tb, hai.out.ot, har.out, HFR.out.2.2, HFR.out.2.1⟩
      have HGW := Lib.hid hai.out.gw
      have hrn : E1.s.runs ≤ 2000000 := by have := hai.out.ei.runs; have := hai.out.ei.klen; have := (HL.out.sk hai.out.sk).n; omega
      have HR1 := Lib.hid hr1
      have HACC := Lib.hid har.out.small
      clear hs1 hai har hnx HP
      have HNA := Lib.hid hak.out
      have qc := hat1.c2
      obtain ⟨iA, ic, qi, hri⟩ := hat1.c3
      have HEQ := Lib.hid (equal_any (some ⟨w.heap.size + 1, 0, none⟩) iA needs.length needs.length r1.inn.length ic acc r1.inn wr (by have := Rd.of_own HAF.out.ar.row; rwa [HNA.out] at this) hri.1 (by omega))
      by_cases hX : r1.called = true ∧ acc = r1.inn
      · have HRR2 : Hid (RES = (E1, (r1.val, r1.e))) := by rw [HRR.out, callX_same HR1.out hX]; rfl
        rw [hX.1] at qc
        rw [show decide (acc = r1.inn) = true from by simpa using hX.2] at HEQ
        clear hat1 hri hX hr1
        go_wp2_with fail
        refine HEQ.out.mono ?_
        rintro e w5 ⟨rfl, q, rfl⟩
        have HAF5 := Lib.hid (HAF.out.step (below_of_drewN _ wr q))
        have HGW5 := Lib.hid (HGW.out.below (below_of_drewN _ wr q))
        clear HEQ qc qi HAF HGW
        go_upto_region 16 with fail
        generalize wr.drewN q = w5 at HAF5 HGW5 ⊢
        have hat5 := HGW5.out.rule HR1.out
        have x4 := hat5.c4
        have x5 := hat5.c5
        have m0 : w5.cell? ⟨w.heap.size, 0, none⟩ = some (.string ⟨#[]⟩) := by simp [World.cell?, HAF5.out.tb]
        have m1 : w5.cell? ⟨w.heap.size, 1, none⟩ = some (.int .i64 0) := by simp [World.cell?, HAF5.out.tb]
        have z0 : w5.frozen? ⟨w.heap.size, 0, none⟩ = false := by simp [World.frozen?, HAF5.out.tb]
        have z1 : w5.frozen? ⟨w.heap.size, 1, none⟩ = false := by simp [World.frozen?, HAF5.out.tb]
        have HF := Lib.hid (EPost.fin (own := own) (E := E1) HGW5.out HAF5.out.rw HAF5.out.ext HAF5.out.ke HAF5.out.ot HAF5.out.hk HAF5.out.hw (r1.val, r1.e))
        have l1 : ((w5.setCell ⟨w.heap.size, 0, none⟩ (.string (B r1.val))).setCell ⟨w.heap.size, 1, none⟩ (.int .i64 (r1.e : Int))).heap[w.heap.size]? = some (.cells #[.string (B r1.val), .int .i64 (r1.e : Int)] 67 (0, 0)) := by simp [World.setCell, Array.getElem?_modify, HAF5.out.tb]
        have k0 : ((w5.setCell ⟨w.heap.size, 0, none⟩ (.string (B r1.val))).setCell ⟨w.heap.size, 1, none⟩ (.int .i64 (r1.e : Int))).cell? ⟨w.heap.size, 0, none⟩ = some (.string (B r1.val)) := by simp [World.cell?, l1]
        have k1 : ((w5.setCell ⟨w.heap.size, 0, none⟩ (.string (B r1.val))).setCell ⟨w.heap.size, 1, none⟩ (.int .i64 (r1.e : Int))).cell? ⟨w.heap.size, 1, none⟩ = some (.int .i64 (r1.e : Int)) := by simp [World.cell?, l1]
        have HK := Lib.hid (And.intro k0 k1)
        clear hat5 l1 k0 k1
        go_region
        go_wp2
        rw [HRR2.out]
        exact bodyPost_ret (v := .agg #[.string (B r1.val), .int .i64 (r1.e : Int)]) (by simp [results, Try.results42, go_sem, HK.out.1, HK.out.2]) rfl HF.out.drew
      · have HRR2 : Hid (RES = ({ E1 with s := { E1.s with runs := E1.s.runs + 1, rules := modR n (fun r => { r with called := true, inn := acc, val := (applyV r.f acc).1, e := (applyV r.f acc).2 }) E1.s.rules } }, applyV r1.f acc)) := by rw [HRR.out, callX_new HR1.out hX]; rfl
        have hcase : r1.called = false ∨ (r1.called = true ∧ decide (acc = r1.inn) = false) := by
          cases hc : r1.called with
          | false => exact .inl rfl
          | true => exact .inr ⟨rfl, by simpa using fun e => hX ⟨hc, e⟩⟩
        clear hat1 hri hX hr1
        rcases hcase with hc | ⟨hc, hd⟩
        case' inl =>
          rw [hc] at qc
          clear HEQ qi hc
          go_upto_region 11 with fail
          obtain ⟨w5, hw5⟩ : ∃ w5, w5 = wr := ⟨_, rfl⟩
          subst hw5
          have HAF5 := HAF
          have HGW5 := HGW
          clear HAF HGW qc
        case' inr =>
          rw [hc] at qc
          rw [hd] at HEQ
          clear hc hd
          go_wp2_with fail
          refine HEQ.out.mono ?_
          rintro e w5 ⟨rfl, q, rfl⟩
          have HAF5 := Lib.hid (HAF.out.step (below_of_drewN _ wr q))
          have HGW5 := Lib.hid (HGW.out.below (below_of_drewN _ wr q))
          clear HEQ qc qi HAF HGW
          go_upto_region 11 with fail
          generalize wr.drewN q = w5 at HAF5 HGW5 ⊢
        all_goals
          have p0 := HAF5.out.rw.c0
          have c3 := HGW5.out.c3
          have z3 := HGW5.out.free 3
          have i6 : IntKind.i64.wrap ((E1.s.runs : Int) + 1) = (E1.s.runs : Int) + 1 := IntWalk.i64_in _ (by omega)
          have hgw6 := HGW5.out.ran (E1.s.runs + 1)
          rw [show ((E1.s.runs + 1 : Nat) : Int) = (E1.s.runs : Int) + 1 from by omega] at hgw6
          have haf6 := HAF5.out.put (q := gb) (i := 3) (u := .int .i64 ((E1.s.runs : Int) + 1)) ⟨_, HGW5.out.gt⟩
          have H6 := Lib.hid (And.intro hgw6 haf6)
          clear hgw6 haf6
          go_upto_region 12 with fail
          generalize w5.setCell ⟨gb, 3, none⟩ (.int .i64 ((E1.s.runs : Int) + 1)) = w6 at H6 ⊢
          clear p0 c3 z3 i6 HAF5 HGW5
          have x1 := (H6.out.1.rule HR1.out).c1
          have hrow6 := H6.out.2.ar.row
          rw [HNA.out] at hrow6
          have HCL := Lib.hid (clone_any (some ⟨w.heap.size + 1, 0, none⟩) needs.length needs.length acc w6.drew (Rd.of_own hrow6) (by omega))
          have HFC := Lib.hid (fun (A : Option Addr) (m c : Nat) (W : World) (h : Rd W W.heap.size 1 A m (strs acc)) (hm : m ≤ 100000) => fn_any r1.f A m c acc W h hm HACC.out)
          generalize hV : valueX r1.f acc = V at HFC
          have HV := Lib.hid hV
          clear hV hrow6
          obtain ⟨vx, ve⟩ := V
          simp only [ResV] at HFC
          generalize hfi : fnId r1.f = K at x1 HFC
          have hK := fn_cases r1.f
          rw [hfi] at hK
          clear hfi
          rcases hK with rfl | rfl | rfl | rfl
          all_goals
            first
            | (go_region_held3 (fun w' => w'.cell? ⟨(pt n).p, 1, none⟩ = some (.func (.func 26) #[] #[])) (first | exact HSW2 | exact HSW | exact x1)
              (first
                | (go_at_call 40; refine HCL.out.mono ?_; rintro e w7 ⟨v7, rfl, ho7, hb7⟩; obtain ⟨A7, c7, rfl, hc7⟩ := own_form ho7; have HSW := keeps hb7 (Nat.le_refl _) x1)
                | (go_at_call 26; refine (HFC.out A7 needs.length c7 _ (Rd.of_own ho7) (by omega)).mono ?_; rintro e w8 ⟨rfl, hb8⟩; have HSW2 := keeps hb8 (Nat.le_refl _) HSW)))
            | (go_region_held3 (fun w' => w'.cell? ⟨(pt n).p, 1, none⟩ = some (.func (.func 25) #[] #[])) (first | exact HSW2 | exact HSW | exact x1)
              (first
                | (go_at_call 40; refine HCL.out.mono ?_; rintro e w7 ⟨v7, rfl, ho7, hb7⟩; obtain ⟨A7, c7, rfl, hc7⟩ := own_form ho7; have HSW := keeps hb7 (Nat.le_refl _) x1)
                | (go_at_call 25; refine (HFC.out A7 needs.length c7 _ (Rd.of_own ho7) (by omega)).mono ?_; rintro e w8 ⟨rfl, hb8⟩; have HSW2 := keeps hb8 (Nat.le_refl _) HSW)))
            | (go_region_held3 (fun w' => w'.cell? ⟨(pt n).p, 1, none⟩ = some (.func (.func 31) #[] #[])) (first | exact HSW2 | exact HSW | exact x1)
              (first
                | (go_at_call 40; refine HCL.out.mono ?_; rintro e w7 ⟨v7, rfl, ho7, hb7⟩; obtain ⟨A7, c7, rfl, hc7⟩ := own_form ho7; have HSW := keeps hb7 (Nat.le_refl _) x1)
                | (go_at_call 31; refine (HFC.out A7 needs.length c7 _ (Rd.of_own ho7) (by omega)).mono ?_; rintro e w8 ⟨rfl, hb8⟩; have HSW2 := keeps hb8 (Nat.le_refl _) HSW)))
            | (go_region_held3 (fun w' => w'.cell? ⟨(pt n).p, 1, none⟩ = some (.func (.func 32) #[] #[])) (first | exact HSW2 | exact HSW | exact x1)
              (first
                | (go_at_call 40; refine HCL.out.mono ?_; rintro e w7 ⟨v7, rfl, ho7, hb7⟩; obtain ⟨A7, c7, rfl, hc7⟩ := own_form ho7; have HSW := keeps hb7 (Nat.le_refl _) x1)
                | (go_at_call 32; refine (HFC.out A7 needs.length c7 _ (Rd.of_own ho7) (by omega)).mono ?_; rintro e w8 ⟨rfl, hb8⟩; have HSW2 := keeps hb8 (Nat.le_refl _) HSW)))
            have hb6 := ((Below.refl w6.heap.size w6).drew.trans hb7).trans (hb8.mono hb7.size)
            have haf8 := H6.out.2.step hb6
            have hgw8 := H6.out.1.below hb6
            have H8 := Lib.hid (And.intro haf8 hgw8)
            clear hb6 haf8 hgw8 HSW HSW2 x1 ho7 hc7 hb7 hb8 HCL HFC H6
            obtain ⟨x, hx1, hx2⟩ : ∃ x, Hid (applyV r1.f acc = (x, ve)) ∧ (((ve : Int) != 0) = false ∧ x = vx ∨ ((ve : Int) != 0) = true ∧ x = []) := by
              by_cases h0 : ve = 0
              · exact ⟨vx, Lib.hid (by unfold applyV; rw [HV.out, if_pos h0]), .inl ⟨by simp [h0], rfl⟩⟩
              · exact ⟨[], Lib.hid (by unfold applyV; rw [HV.out, if_neg h0]), .inr ⟨by simp; omega, rfl⟩⟩
            have HRR3 : Hid (RES = ({ E1 with s := { E1.s with runs := E1.s.runs + 1, rules := modR n (fun r => { r with called := true, inn := acc, val := x, e := ve }) E1.s.rules } }, (x, ve))) := by
              rw [HRR2.out, modR_congr (h := fun r => { r with called := true, inn := acc, val := x, e := ve }) (fun q hq hqn => by
                have e := findR_of H8.out.2.nd hq
                rw [hqn, HR1.out] at e
                injection e with e
                rw [← e, hx1.out]), hx1.out]; rfl
            have hat8 := H8.out.2.rule HR1.out
            have y2 := hat8.c2
            obtain ⟨iA8, ic8, y3, _⟩ := hat8.c3
            have y4 := hat8.c4
            have y5 := hat8.c5
            have u2 := hat8.free 2
            have u3 := hat8.free 3
            have u4 := hat8.free 4
            have u5 := hat8.free 5
            have hgw9 := (H8.out.2.tagged (x := (id, .inn n)) H8.out.1.ar.none H8.out.1.ar.lt).applied HR1.out (some ⟨w.heap.size + 1, 0, none⟩) needs.length acc x ve ⟨Rd.of_own H8.out.1.ar.row, fun ad e _ => by injection e with e; subst e; simp [tagO]⟩
            rw [HNA.out] at hgw9
            have haf9 := (((H8.out.1.put (q := (pt n).p) (i := 2) (u := .bool true) ⟨_, hat8.tag⟩).put (q := (pt n).p) (i := 3) (u := .slice (some ⟨w.heap.size + 1, 0, none⟩) needs.length needs.length) ⟨_, hat8.tag⟩).put (q := (pt n).p) (i := 4) (u := .string (B x)) ⟨_, hat8.tag⟩).put (q := (pt n).p) (i := 5) (u := .int .i64 (ve : Int)) ⟨_, hat8.tag⟩
            have hf9 : findR (modR n (fun r => { r with called := true, inn := acc, val := x, e := ve }) E1.s.rules) n = some { r1 with called := true, inn := acc, val := x, e := ve } := by
              rw [findR_modR _ _ _ (fun r => { r with called := true, inn := acc, val := x, e := ve }) (fun _ => rfl), HR1.out]; simp
            have HF9 := Lib.hid hf9
            clear hf9
            have H9 := Lib.hid (And.intro hgw9 haf9)
            clear hgw9 haf9 hat8 hx1 HRR2 H8
            rcases hx2 with ⟨hd, rfl⟩ | ⟨hd, rfl⟩
            all_goals
              try rw [show B ([] : Nm) = ⟨#[]⟩ from rfl] at H9
              go_upto_region 16 with fail
              generalize hw9 : World.setCell (World.setCell (World.setCell (World.setCell w8 _ _) _ _) _ _) _ _ = w9 at H9 ⊢
              clear hw9 y2 y3 y4 y5 u2 u3 u4 u5 hd
              have hat9 := H9.out.1.rule HF9.out
              have x4 := hat9.c4
              have x5 := hat9.c5
              simp only at x4 x5
              try rw [show B ([] : Nm) = ⟨#[]⟩ from rfl] at x4
              have AF9 := H9.out.2
              have m0 : w9.cell? ⟨w.heap.size, 0, none⟩ = some (.string ⟨#[]⟩) := by simp [World.cell?, AF9.tb]
              have m1 : w9.cell? ⟨w.heap.size, 1, none⟩ = some (.int .i64 0) := by simp [World.cell?, AF9.tb]
              have z0 : w9.frozen? ⟨w.heap.size, 0, none⟩ = false := by simp [World.frozen?, AF9.tb]
              have z1 : w9.frozen? ⟨w.heap.size, 1, none⟩ = false := by simp [World.frozen?, AF9.tb]
              have htb : w9.heap[w.heap.size]? = some (.cells #[.string ⟨#[]⟩, .int .i64 0] 67 (0, 0)) := AF9.tb
              have hwn : wb ≠ w.heap.size + 1 := by have := AF9.hw; omega
              have hkn : kb ≠ w.heap.size + 1 := by have := AF9.hk; omega
              have HF := Lib.hid (EPost.fin (own := own) (E := RES.1) (by rw [HRR3.out]; exact H9.out.1) (by rw [HRR3.out]; exact AF9.rw.tagged hwn hkn) (AF9.ext.tagged (Nat.le_succ _)) AF9.ke (by unfold tagO; rw [if_neg (by omega)]; exact AF9.ot) AF9.hk AF9.hw RES.2).drew
              simp only [HRR3.out] at HF
              try rw [show B ([] : Nm) = ⟨#[]⟩ from rfl] at HF
              have l1 : ∀ s : ByteArray, ((w9.setCell ⟨w.heap.size, 0, none⟩ (.string s)).setCell ⟨w.heap.size, 1, none⟩ (.int .i64 (ve : Int))).heap[w.heap.size]? = some (.cells #[.string s, .int .i64 (ve : Int)] 67 (0, 0)) := fun s => by simp [World.setCell, Array.getElem?_modify, htb]
              have k0 : ∀ s : ByteArray, ((w9.setCell ⟨w.heap.size, 0, none⟩ (.string s)).setCell ⟨w.heap.size, 1, none⟩ (.int .i64 (ve : Int))).cell? ⟨w.heap.size, 0, none⟩ = some (.string s) := fun s => by simp [World.cell?, l1 s]
              have k1 : ∀ s : ByteArray, ((w9.setCell ⟨w.heap.size, 0, none⟩ (.string s)).setCell ⟨w.heap.size, 1, none⟩ (.int .i64 (ve : Int))).cell? ⟨w.heap.size, 1, none⟩ = some (.int .i64 (ve : Int)) := fun s => by simp [World.cell?, l1 s]
              have HK := Lib.hid (And.intro k0 k1)
              clear hat9 l1 k0 k1 AF9 H9 htb hwn hkn
              go_region
              go_wp2
              rw [HRR3.out]
              first
                | exact bodyPost_ret (v := .agg #[.string ⟨#[]⟩, .int .i64 (ve : Int)]) (by simp [results, Try.results42, go_sem, HK.out.1, HK.out.2]) rfl HF.out
                | exact bodyPost_ret (v := .agg #[.string (B x), .int .i64 (ve : Int)]) (by simp [results, Try.results42, go_sem, HK.out.1, HK.out.2]) rfl HF.out
end Go.Proofs.Ytbikldmhfaecpaa
