/-
  Layer 44 (links): Check: one reference.
  Layer 44 (links): Check.
  Layer 44 (links): Check, what is known in its second loop.
-/
import Derived.Test.YtejjidbodfoiiaaGreatDoorLkGH
import Derived.Test.YtejjidbodfoiiaaGreatDoorMkAwE
namespace Go.Proofs.YtejjidbodfoiiaaGreatDoor
open Go.RowKit
set_option linter.unusedVariables false
set_option linter.unusedSimpArgs false
attribute [local go_sem] B_data B_size

/-- the first file with a name, as a map has them -/
def firstTo (fs : List Fl) : Nat → List (Bs × Value)
  | 0 => []
  | j + 1 => match fs[j]? with
    | none => firstTo fs j
    | some f => if lookL f.1 (firstTo fs j) = none then firstTo fs j ++ [(f.1, .int .i64 (j : Int))] else firstTo fs j
theorem lookL_app (k : Bs) (v : Value) (s : Bs) (l : List (Bs × Value)) (h : lookL k l = none) : lookL s (l ++ [(k, v)]) = if s = k then some v else lookL s l := by
  rw [← putM_new h, look_putM]
theorem look_first (fs : List Fl) (s : Bs) : ∀ j, j ≤ fs.length → lookL s (firstTo fs j) = (idxOf (fs.take j) s).map fun i => .int .i64 (i : Int) := by
  intro j
  induction j with
  | zero => intro _; rfl
  | succ j ih =>
    intro hj
    have ih := ih (by omega)
    have e : fs[j]? = some fs[j] := List.getElem?_eq_getElem (by omega)
    have ht : fs.take (j + 1) = fs.take j ++ [fs[j]] := List.take_succ_eq_append_getElem (by omega)
    have hl : (fs.take j).length = j := by rw [List.length_take]; omega
    rw [firstTo, e, ht, idxOf_app, hl]
    simp only
    by_cases hn : lookL fs[j].1 (firstTo fs j) = none
    · rw [if_pos hn, lookL_app _ _ _ _ hn, ih]
      by_cases hs : s = fs[j].1
      · rw [if_pos hs]
        have : idxOf (fs.take j) s = none := by
          rw [← hs, ih] at hn
          cases hx : idxOf (fs.take j) s with
          | none => rfl
          | some k => rw [hx] at hn; cases hn
        rw [this]
        simp [hs]
      · rw [if_neg hs]
        cases hx : idxOf (fs.take j) s with
        | some k => rfl
        | none =>
          have : (fs[j].1 == s) = false := by rw [beq_eq_false_iff_ne]; exact fun e => hs e.symm
          simp [this]
    · rw [if_neg hn, ih]
      cases hx : idxOf (fs.take j) s with
      | some k => rfl
      | none =>
        by_cases hs : fs[j].1 == s
        · rw [hx] at ih
          have hs : fs[j].1 = s := by simpa using hs
          rw [hs] at hn
          exact absurd ih hn
        · simp [hs]
/-- where the variables that the closures share lie -/
structure Bq where
  F : Option Addr
  c : Nat
  lb : Nat
  xb : Nat
  fm : Nat
  kb : Nat
  nb : Nat
  gb : Nat
  fb : Nat
  base : Nat
/-- a set of identifiers, or none -/
def AncV (w : World) (q : Bq) (f : Fl) (v : Value) : Prop := match sheet f with
  | none => v = .map none
  | some n => ∃ m, v = .map (some m) ∧ (m < q.base ∧ m ≠ q.fb) ∧ SMap w m (seenM (addAll (vals idK n)))
/-- what the closures read -/
structure SC (M : Nat) (fs : List Fl) (q : Bq) (w : World) : Prop where
  lbx : w.heap[q.lb]? = some (.cells #[.slice q.F fs.length q.c] 22 (0, 0))
  rd : Rd w M 2 q.F fs.length (fs.flatMap flC)
  xbx : w.heap[q.xb]? = some (.cells #[.map (some q.fm)] 75 (0, 0))
  fmx : SMap w q.fm (firstTo fs fs.length)
  kbx : FBx w q.kb 34 #[.pointer (some ⟨q.fb, 0, none⟩)] 79
  nbx : w.heap[q.nb]? = some (.cells #[.slice (some ⟨q.gb, 0, none⟩) fs.length fs.length] 76 (0, 0))
  an : ∀ j f, fs[j]? = some f → ∃ v, w.cell? ⟨q.gb, j, none⟩ = some v ∧ AncV w q f v
  gl : Fil.Glob w
  o1 : q.lb < q.base ∧ q.lb ≠ q.fb
  o2 : q.xb < q.base ∧ q.xb ≠ q.fb
  o3 : q.fm < q.base ∧ q.fm ≠ q.fb
  o4 : q.kb < q.base ∧ q.kb ≠ q.fb
  o5 : q.nb < q.base ∧ q.nb ≠ q.fb
  o6 : q.gb < q.base ∧ q.gb ≠ q.fb
  o7 : M ≤ q.fb ∧ q.fb < q.base
  o8 : 0 < M
theorem SC.keep {M : Nat} {fs : List Fl} {q : Bq} {w w' : World} (h : SC M fs q w) (hk : ∀ b, b < q.base → b ≠ q.fb → w'.heap[b]? = w.heap[b]?) : SC M fs q w' := by
  have h7 := h.o7
  have h8 := h.o8
  refine ⟨(hk _ h.o1.1 h.o1.2).trans h.lbx, h.rd.keep fun p hp => cell_block (hk _ (by omega) (by omega)), (hk _ h.o2.1 h.o2.2).trans h.xbx, h.fmx.of_block (hk _ h.o3.1 h.o3.2), (hk _ h.o4.1 h.o4.2).trans h.kbx, (hk _ h.o5.1 h.o5.2).trans h.nbx, fun j f hj => ?_, ?_, h.o1, h.o2, h.o3, h.o4, h.o5, h.o6, h.o7, h.o8⟩
  · obtain ⟨v, h1, h2⟩ := h.an j f hj
    refine ⟨v, (cell_block (p := ⟨q.gb, j, none⟩) (hk _ h.o6.1 h.o6.2)).trans h1, ?_⟩
    unfold AncV at *
    cases hs : sheet f with
    | none => rw [hs] at h2; exact h2
    | some n =>
      rw [hs] at h2
      obtain ⟨m, e, ⟨h3, h4⟩, h5⟩ := h2
      exact ⟨m, e, ⟨h3, h4⟩, h5.of_block (hk _ h3 h4)⟩
  · obtain ⟨m, hm⟩ := h.gl
    exact ⟨m, (cell_block (p := ⟨0, 0, none⟩) (hk _ (by show 0 < q.base; omega) (by show 0 ≠ q.fb; omega))).trans hm⟩
/-- all that a closure of Check knows -/
structure CK (w0 : World) (M : Nat) (fs : List Fl) (q : Bq) (v : Value) (l : List Ft) (w : World) : Prop where
  sc : SC M fs q w
  lf : LF w0 M q.fb q.base v l w
theorem CK.step {w0 : World} {M : Nat} {fs : List Fl} {q : Bq} {v : Value} {l : List Ft} {w w' : World} (h : CK w0 M fs q v l w) (hb : Below w.heap.size w w') : CK w0 M fs q v l w' := by
  have := h.lf.lb
  exact ⟨h.sc.keep fun b h1 _ => hb.block b (by omega), h.lf.step h.lf.le hb⟩
theorem CK.add {w0 : World} {M : Nat} {fs : List Fl} {q : Bq} {v v' : Value} {l l' : List Ft} {w w' : World} (h : CK w0 M fs q v l w) (hm : Mv (ownO q.fb v) (ownO q.fb v') w w') (hl : LF w0 M q.fb q.base v' l' w') : CK w0 M fs q v' l' w' := by
  have h1 := h.lf.lb
  refine ⟨h.sc.keep fun b hb hne => hm.k.block b (by omega) fun ho => ?_, hl⟩
  rcases ho with e | e
  · exact hne e
  · have := (h.lf.own.lt b e).1
    omega
/-- what check leaves -/
def CkPo (w0 : World) (M : Nat) (fs : List Fl) (q : Bq) (v : Value) (l : List Ft) (w : World) (e : Ending) (w' : World) : Prop := e = .returned (.tuple #[]) ∧ ∃ v', CK w0 M fs q v' l w' ∧ Mv (ownO q.fb v) (ownO q.fb v') w w'
theorem cadd_ck {w0 : World} {M : Nat} {fs : List Fl} {q : Bq} {v : Value} {l : List Ft} {w : World} (h : CK w0 M fs q v l w) (hl : l.length ≤ 1000000000) (k f t : Bs) :
    Calls Tryz.prog 34 #[.string (B k), .string (B f), .string (B t), .pointer (some ⟨q.fb, 0, none⟩)] w (CkPo w0 M fs q v (l ++ [(k, f, t)]) w) :=
  (cadd_any w0 M q.fb q.base v l k f t w h.lf hl).mono fun e w' ⟨h1, v', h2, h3⟩ => ⟨h1, v', h.add h3 h2, h3⟩
theorem CkPo.pre {w0 : World} {M : Nat} {fs : List Fl} {q : Bq} {v : Value} {l : List Ft} {w w1 : World} {e : Ending} {w' : World} (hb : Below w.heap.size w w1) (h : CkPo w0 M fs q v l w1 e w') : CkPo w0 M fs q v l w e w' := by
  obtain ⟨h1, v', h2, h3⟩ := h
  exact ⟨h1, v', h2, (Mv.of_below hb).trans h3⟩
theorem toList_B (x : Bs) : (B x).toList = x := by simp [B]
/-- the faults of a reference that leads to no other place -/
def chkF (fs : List Fl) (i : Nat) (a r : Bs) : List Ft := match faultOf fs i a r with
  | none => []
  | some k => [(k, a, r)]
theorem cutH_any (r : Bs) (w : World) (hr : r.length ≤ 1000000) (hG : Fil.Glob w) :
    Calls Tryz.prog 36 #[.string (B r), .string ⟨#[35]⟩] w fun e w' => e = .returned (.tuple #[.string (B (pathOf r)), .string (B (fragOf r)), .bool (hasF r)]) ∧ ∃ n, w' = w.drewN n := by
  obtain ⟨m, hm⟩ := hG
  refine (Tryz.strings_Cut (B r) ⟨#[35]⟩ m w (by rw [B_size]; omega) hm).mono fun e w' ⟨h1, h2⟩ => ⟨?_, h2⟩
  have e0 : (B r).data.toList = r := by simp [B]
  rw [h1, e0]
  have := cut_hash r
  have e1 : Lib.cut r (⟨#[35]⟩ : ByteArray).data.toList = (pathOf r, fragOf r, hasF r) := this
  rw [e1]
  rfl
theorem AncV.look {w : World} {q : Bq} {f : Fl} {v : Value} (h : AncV w q f v) (s : Bs) : (Instr.lookup 73 v (.string (B s)) false).run Tryz.prog w = .ok (.bool ((ancN f).contains s)) w := by
  unfold AncV at h
  unfold ancN
  cases hs : sheet f with
  | none => rw [hs] at h; subst h; exact has_none w s
  | some n =>
    rw [hs] at h
    obtain ⟨m, rfl, _, hm⟩ := h
    rw [hm.has s]
    congr 2
    rw [Bool.eq_iff_iff, decide_eq_true_eq, List.contains_iff_mem, mem_addAll]
theorem zeroI (w : World) : (zeroValue 3).run Tryz.prog w = .ok (.int .i64 0) w := by kernel_rfl
theorem SMap.first {w : World} {b : Nat} {fs : List Fl} (h : SMap w b (firstTo fs fs.length)) (k : Bs) :
    (Instr.lookup 75 (.map (some b)) (.string (B k)) true).run Tryz.prog w = .ok (.tuple #[.int .i64 ((idxOf fs k).getD 0 : Nat), .bool (idxOf fs k).isSome]) w := by
  have := (SMap.look (T := 75) (K := 9) (E := 3) Tryz.underlying75 Tryz.underlying9 h k _ (zeroI w)).2
  rw [this, look_first fs k fs.length (Nat.le_refl _), List.take_length]
  cases idxOf fs k <;> rfl
/-- the fault of a reference with a part behind the sign, by the file that is meant -/
theorem chkF_meant {fs : List Fl} {i j : Nat} {a r : Bs} {f : Fl} (h : meantOf fs i a r = some j) (hf : fs[j]? = some f) : chkF fs i a r = if hasF r && !(ancN f).contains (fragOf r) then [(anchorK, a, r)] else [] := by
  unfold chkF faultOf ancAt
  rw [h]
  simp only [hf]
  split
  · rename_i h2
    split at h2
    · cases h2
    · rename_i h3; rw [if_neg h3]
  · rename_i k h2
    split at h2
    · rename_i h3; rw [if_pos h3]; injection h2 with h2; rw [← h2]
    · cases h2
theorem chkF_none {fs : List Fl} {i : Nat} {a r : Bs} (h : meantOf fs i a r = none) : chkF fs i a r = [(fileK, a, r)] := by
  unfold chkF faultOf
  rw [h]
set_option maxHeartbeats 4000000 in
set_option maxRecDepth 100000 in
theorem chk_any (w0 : World) (M : Nat) (fs : List Fl) (q : Bq) (v : Value) (l : List Ft) (i : Nat) (f : Fl) (r : Bs) (w : World) (h : CK w0 M fs q v l w) (hl : l.length ≤ 1000000000) (hi : fs[i]? = some f) (hn : fs.length ≤ 1000000) (hf : f.1.length ≤ 900000) (hr : r.length ≤ 900000) :
    Calls Tryz.prog 35 #[.int .i64 (i : Int), .string (B r), .pointer (some ⟨q.lb, 0, none⟩), .pointer (some ⟨q.xb, 0, none⟩), .pointer (some ⟨q.kb, 0, none⟩), .pointer (some ⟨q.nb, 0, none⟩)] w (CkPo w0 M fs q v (l ++ chkF fs i f.1 r) w) := by
  have HC := Lib.hid (fun V hV => cutH_any r V (by omega) hV)
  have hG := h.sc.gl
  have hil := (List.getElem?_eq_some_iff.1 hi).1
  have hi1 : (i : Int) < (fs.length : Int) := by omega
  have HA := Lib.hid (fun (V : World) (k t : Bs) (hV : CK w0 M fs q v l V) => cadd_ck hV hl k f.1 t)
  by_cases hp0 : pathOf r = []
  · have hm : meantOf fs i f.1 r = some i := by unfold meantOf; rw [if_pos hp0]
    have HE := Lib.hid (chkF_meant hm hi)
    have e1 : (pathOf r == []) = true := by rw [hp0]; rfl
    have e2 : (pathOf r).isEmpty = true := by rw [hp0]; rfl
    clear hm hp0
    go_enter Tryz.func35, Tryz.ntmps35
    go_wp2_with fail
    refine (HC.out _ hG).mono ?_
    rintro e w1 ⟨rfl, n1, hw1⟩
    have hb1 : Below w.heap.size w w1 := by rw [hw1]; exact below_of_drewN _ _ _
    have h1 := h.step hb1
    clear hw1 h
    have l1 : w1.cell? ⟨q.lb, 0, none⟩ = some (.slice q.F fs.length q.c) := by simp [World.cell?, h1.sc.lbx]
    have l2 : w1.cell? ⟨q.nb, 0, none⟩ = some (.slice (some ⟨q.gb, 0, none⟩) fs.length fs.length) := by simp [World.cell?, h1.sc.nbx]
    have l3 : w1.cell? ⟨q.kb, 0, none⟩ = some (.func (.func 34) #[] #[.pointer (some ⟨q.fb, 0, none⟩)]) := by have := h1.sc.kbx; unfold FBx at this; simp [World.cell?, this]
    obtain ⟨mv, l4, hmv⟩ := h1.sc.an i f hi
    have l5 := hmv.look (fragOf r)
    obtain ⟨bb, o, hF, hbm, hcell⟩ := h1.sc.rd.elem flC 2 flC_len (by omega) hi
    have c0 : w1.cell? ⟨bb, o + i * 2, none⟩ = some (.string (B f.1)) := hcell 0 _ rfl
    rw [hF] at l1
    cases hh : hasF r
    · rw [hh] at HE
      go_wp2
      go_end0
      exact CkPo.pre hb1 ⟨rfl, v, by rw [HE.out]; simpa using h1, .refl _ _⟩
    · rw [hh] at HE
      cases hcn : (ancN f).contains (fragOf r)
      · rw [hcn] at HE l5
        go_wp2_with fail
        go_still_tail 7, (by kernel_rfl)
        change wpList _ _ _ _ _ w1.drew
        have hb2 := (Below.refl w1.heap.size w1).drew
        have h2 := h1.step hb2
        go_wp2_with fail
        refine (HA.out _ anchorK r h2).mono ?_
        rintro e w3 ⟨rfl, v3, h3, hm3⟩
        go_wp2
        go_end0
        exact CkPo.pre hb1 (CkPo.pre hb2 ⟨rfl, v3, by rw [HE.out]; exact h3, hm3⟩)
      · rw [hcn] at HE l5
        go_wp2
        go_end0
        exact CkPo.pre hb1 ⟨rfl, v, by rw [HE.out]; simpa using h1, .refl _ _⟩
  · have hm : meantOf fs i f.1 r = if Fil.joinF f.1 (pathOf r) = [] then none else idxOf fs (Fil.joinF f.1 (pathOf r)) := by unfold meantOf; rw [if_neg hp0]
    have e1 : (pathOf r == []) = false := by simpa using hp0
    have e2 : (pathOf r).isEmpty = false := by simpa using hp0
    have hpl : (pathOf r).length ≤ 900000 := Nat.le_trans (List.takeWhile_prefix _).length_le hr
    have HJ : Hid (∀ V, Fil.Glob V → Calls Tryz.prog 37 #[.string (B f.1), .string (B (pathOf r))] V fun e w' => e = Fil.PairRet (Fil.joinF f.1 (pathOf r)) ∧ Below V.heap.size V w') := fun V hV => by
      have := Fil.fjoin_any (B f.1) (B (pathOf r)) V (by rw [B_size]; omega) (by rw [B_size]; omega) hV
      rw [toList_B, toList_B] at this
      exact this
    go_enter Tryz.func35, Tryz.ntmps35
    go_wp2_with fail
    refine (HC.out _ hG).mono ?_
    rintro e w1 ⟨rfl, n1, hw1⟩
    have hb1 : Below w.heap.size w w1 := by rw [hw1]; exact below_of_drewN _ _ _
    have h1 := h.step hb1
    clear hw1 h
    have l1 : w1.cell? ⟨q.lb, 0, none⟩ = some (.slice q.F fs.length q.c) := by simp [World.cell?, h1.sc.lbx]
    obtain ⟨bb, o, hF, hbm, hcell⟩ := h1.sc.rd.elem flC 2 flC_len (by omega) hi
    have c0 : w1.cell? ⟨bb, o + i * 2, none⟩ = some (.string (B f.1)) := hcell 0 _ rfl
    rw [hF] at l1
    go_wp2_with fail
    refine (HJ.out _ h1.sc.gl).mono ?_
    rintro e w2 ⟨rfl, hb2⟩
    have h2 := h1.step hb2
    have x1 : w2.cell? ⟨q.xb, 0, none⟩ = some (.map (some q.fm)) := by simp [World.cell?, h2.sc.xbx]
    have x2 := h2.sc.fmx.first (Fil.joinF f.1 (pathOf r))
    clear l1 c0 hcell
    have l1 : w2.cell? ⟨q.lb, 0, none⟩ = some (.slice q.F fs.length q.c) := by simp [World.cell?, h2.sc.lbx]
    have l3 : w2.cell? ⟨q.kb, 0, none⟩ = some (.func (.func 34) #[] #[.pointer (some ⟨q.fb, 0, none⟩)]) := by have := h2.sc.kbx; unfold FBx at this; simp [World.cell?, this]
    obtain ⟨bb', o', hF', hbm', hcell⟩ := h2.sc.rd.elem flC 2 flC_len (by omega) hi
    rw [hF] at hF'
    cases hF'
    have c0 : w2.cell? ⟨bb, o + i * 2, none⟩ = some (.string (B f.1)) := hcell 0 _ rfl
    rw [hF] at l1
    unfold Fil.PairRet Fil.errK
    generalize Fil.joinF f.1 (pathOf r) = J at *
    by_cases hJ : J = []
    · rw [if_pos hJ] at hm
      have HE := Lib.hid (chkF_none hm)
      have d6 : ((6 : Int) != 0) = true := rfl
      rw [if_pos hJ]
      subst hJ
      generalize (idxOf fs []).getD 0 = gk at *
      generalize (idxOf fs []).isSome = gs at *
      go_wp2_with fail
      go_still_tail 7, (by kernel_rfl)
      change wpList _ _ _ _ _ w2.drew
      have hb3 := (Below.refl w2.heap.size w2).drew
      have h3 := h2.step hb3
      go_wp2_with fail
      refine (HA.out _ fileK r h3).mono ?_
      rintro e w4 ⟨rfl, v4, h4, hm4⟩
      go_wp2
      refine bodyPost_ret (results_none rfl _ _ _) rfl ?_
      exact CkPo.pre hb1 (CkPo.pre hb2 (CkPo.pre hb3 ⟨rfl, v4, by rw [HE.out]; exact h4, hm4⟩))
    · rw [if_neg hJ] at hm
      rw [if_neg hJ]
      cases hx : idxOf fs J with
      | none =>
        rw [hx] at hm x2
        have HE := Lib.hid (chkF_none hm)
        have x2 : (Instr.lookup 75 (.map (some q.fm)) (.string (B J)) true).run Tryz.prog w2 = .ok (.tuple #[.int .i64 0, .bool false]) w2 := x2
        go_wp2_with fail
        go_still_tail 7, (by kernel_rfl)
        change wpList _ _ _ _ _ w2.drew
        have hb3 := (Below.refl w2.heap.size w2).drew
        have h3 := h2.step hb3
        go_wp2_with fail
        refine (HA.out _ fileK r h3).mono ?_
        rintro e w4 ⟨rfl, v4, h4, hm4⟩
        go_wp2
        refine bodyPost_ret (results_none rfl _ _ _) rfl ?_
        exact CkPo.pre hb1 (CkPo.pre hb2 (CkPo.pre hb3 ⟨rfl, v4, by rw [HE.out]; exact h4, hm4⟩))
      | some k =>
        rw [hx] at hm x2
        have hk := idxOf_lt hx
        have hfk : fs[k]? = some fs[k] := List.getElem?_eq_getElem hk
        have HE := Lib.hid (chkF_meant hm hfk)
        have x2 : (Instr.lookup 75 (.map (some q.fm)) (.string (B J)) true).run Tryz.prog w2 = .ok (.tuple #[.int .i64 (k : Int), .bool true]) w2 := x2
        have l2 : w2.cell? ⟨q.nb, 0, none⟩ = some (.slice (some ⟨q.gb, 0, none⟩) fs.length fs.length) := by simp [World.cell?, h2.sc.nbx]
        obtain ⟨mv, l4, hmv⟩ := h2.sc.an k _ hfk
        have l5 := hmv.look (fragOf r)
        have hk1 : (k : Int) < (fs.length : Int) := by omega
        generalize fs[k] = fk at *
        cases hh : hasF r
        · rw [hh] at HE
          go_wp2
          go_end0
          exact CkPo.pre hb1 (CkPo.pre hb2 ⟨rfl, v, by rw [HE.out]; simpa using h2, .refl _ _⟩)
        · rw [hh] at HE
          cases hcn : (ancN fk).contains (fragOf r)
          · rw [hcn] at HE l5
            go_wp2_with fail
            go_still_tail 7, (by kernel_rfl)
            change wpList _ _ _ _ _ w2.drew
            have hb3 := (Below.refl w2.heap.size w2).drew
            have h3 := h2.step hb3
            go_wp2_with fail
            refine (HA.out _ anchorK r h3).mono ?_
            rintro e w4 ⟨rfl, v4, h4, hm4⟩
            go_wp2
            go_end0
            exact CkPo.pre hb1 (CkPo.pre hb2 (CkPo.pre hb3 ⟨rfl, v4, by rw [HE.out]; exact h4, hm4⟩))
          · rw [hcn] at HE l5
            go_wp2
            go_end0
            exact CkPo.pre hb1 (CkPo.pre hb2 ⟨rfl, v, by rw [HE.out]; simpa using h2, .refl _ _⟩)
end Go.Proofs.YtejjidbodfoiiaaGreatDoor
namespace Go.Proofs.YtejjidbodfoiiaaGreatDoor
open Go.RowKit
set_option linter.unusedVariables false
set_option linter.unusedSimpArgs false
attribute [local go_sem] B_data B_size
attribute [local go_sem] run_mkS

theorem run_mkI (w : World) : (Instr.makeMap 75 none).run Tryz.prog w = .ok (.map (some w.heap.size)) (w.alloc (.map #[] 0)) := rfl
attribute [local go_sem] run_mkI
theorem Tryz.infoMapB : (Tryz.prog.info? 73).map (fun i => (i.zero, i.size, i.bytes)) = some (some (.map none), 1, 8) := by kernel_rfl
theorem run_makeMaps (n : Nat) (hn : n ≤ 1000000) (W : World) : (Instr.makeSlice 76 (.int .i64 (n : Int)) (.int .i64 (n : Int))).run Tryz.prog W =
    .ok (.slice (some ⟨W.heap.size, 0, none⟩) n n) (W.alloc (.cells (Array.replicate n (.map none)) 73)) := by
  obtain ⟨i0, hi, hz0, hz1, hz2⟩ := info_parts Tryz.infoMapB
  have hb : (i0.bytes : Int) * (n : Int) ≤ 281474976710656 := by rw [hz2]; omega
  have hr := run_make (P := Tryz.prog) W 76 73 i0 _ Tryz.underlying76 hi hz0 .i64 .i64 n n (by omega) (by omega) hb (by omega)
  simp only [Int.toNat_natCast] at hr
  have e : madeCells (Value.map none).cells (n * 1) = Array.replicate n (.map none) := by
    apply Array.ext
    · simp [madeCells]
    · intro i h1 h2
      have e0 : (Value.map none).cells = #[.map none] := rfl
      simp [e0, madeCells, Nat.mod_one]
  rw [hr, hz1, e]
theorem vals_mem {M : Nat} {key r : Bs} : ∀ n, okN M n → r ∈ vals key n → r.length ≤ M := by
  refine Nd.ind ?_
  intro nm tx ats ks IH hok hr
  obtain ⟨h1, h2, h3, h4, h5, h6⟩ := hok.parts
  rw [vals] at hr
  split at hr
  · cases hr
  · rcases List.mem_append.1 hr with hr | hr
    · unfold valAs at hr
      obtain ⟨p, hp, e⟩ := List.mem_map.1 hr
      rw [← e]
      exact (h5 p (List.mem_filter.1 hp).1).2
    · have key2 : ∀ ks : List Nd, (∀ k ∈ ks, r ∈ vals key k → r.length ≤ M) → r ∈ valsL key ks → r.length ≤ M := by
        intro ks
        induction ks with
        | nil => intro _ h; rw [valsL] at h; cases h
        | cons a q ih =>
          intro H h
          rw [valsL] at h
          rcases List.mem_append.1 h with h | h
          · exact H a (List.mem_cons_self ..) h
          · exact ih (fun k hk => H k (List.mem_cons_of_mem _ hk)) h
      exact key2 ks (fun k hk hr => IH k hk (h6 k hk) hr) hr
/-- a page that was read is small -/
theorem sheet_sz {f : Fl} {n : Nd} (h : sheet f = some n) (hf : f.2.length ≤ 50000) : szN n ≤ 800000 ∧ okN 1000000000 n ∧ ∀ r ∈ refsN n, r.length ≤ 800000 := by
  unfold sheet at h
  split at h
  · unfold readN at h
    split at h
    · rename_i y hy
      injection h with h
      subst h
      obtain ⟨hc, hl⟩ := pTop_some hy
      have hs := sz_mku y.1 hc
      have hl : (mku y.1).length ≤ f.2.length := by rw [← hl, List.length_append]; omega
      have h1 : szN y.1 ≤ 800000 := by omega
      refine ⟨h1, ok_of_sz _ _ (by omega), fun r hr => ?_⟩
      have hok := ok_of_sz 800000 y.1 h1
      rcases List.mem_append.1 hr with hr | hr
      · exact vals_mem _ hok hr
      · exact vals_mem _ hok hr
    · cases h
  · cases h
/-- identifiers of a page in a row, while the row is filled -/
def AncW (w : World) (lo : Nat) (f : Fl) (v : Value) : Prop := match sheet f with
  | none => v = .map none
  | some n => ∃ m, v = .map (some m) ∧ lo ≤ m ∧ SMap w m (seenM (addAll (vals idK n)))
theorem AncW.keep {w w' : World} {lo : Nat} {f : Fl} {v : Value} (h : AncW w lo f v) (hk : ∀ b, lo ≤ b → b < w.heap.size → w'.heap[b]? = w.heap[b]?) : AncW w' lo f v := by
  unfold AncW at *
  cases hs : sheet f with
  | none => rw [hs] at h; exact h
  | some n =>
    rw [hs] at h
    obtain ⟨m, e, h1, h2⟩ := h
    exact ⟨m, e, h1, h2.of_block (hk m h1 h2.lt)⟩
/-- pages, whose nodes lie below block t -/
structure ShU (W : World) (sb t : Nat) (fs : List Fl) (cs : List (Option NC)) : Prop where
  sh : ShB W sb cs
  len : cs.length = fs.length
  at1 : ∀ (i : Nat) (f : Fl) (o : Option NC), fs[i]? = some f → cs[i]? = some o → match sheet f with
    | none => o = none
    | some n => ∃ c, o = some c ∧ NdAt W (fun b => sb < b ∧ b < t) n c
theorem ShI.u {W : World} {sb : Nat} {fs : List Fl} {cs : List (Option NC)} (h : ShI W sb fs fs.length cs) : ShU W sb W.heap.size fs cs :=
  ⟨h.sh, h.len, fun i f o hf ho => h.at1 i f o (List.getElem?_eq_some_iff.1 hf).1 hf ho⟩
theorem ShU.keep {W W' : World} {sb t : Nat} {fs : List Fl} {cs : List (Option NC)} (h : ShU W sb t fs cs) (hk : ∀ b, sb ≤ b → b < t ∨ b = sb → W'.heap[b]? = W.heap[b]?) : ShU W' sb t fs cs := by
  refine ⟨(hk _ (Nat.le_refl _) (.inr rfl)).trans h.sh, h.len, fun i f o hf ho => ?_⟩
  have := h.at1 i f o hf ho
  cases hs : sheet f with
  | none => rw [hs] at this; exact this
  | some n =>
    rw [hs] at this
    obtain ⟨c, e, hn⟩ := this
    exact ⟨c, e, NdAt.keep (fun _ h => h) (fun b hb => hk b (by omega) (.inl hb.2)) n c hn⟩
/-- what is known in the first loop of Check: t where its own maps begin -/
structure L1 (w : World) (fs : List Fl) (F : Option Addr) (c sb t : Nat) (cs : List (Option NC)) (j r : Nat) (W : World) : Prop where
  kp : Below w.heap.size w W
  lbx : W.heap[w.heap.size]? = some (.cells #[.slice F fs.length c] 22 (0, 0))
  sh : ShU W sb t fs cs
  xbx : W.heap[t + 1]? = some (.cells #[.map (some t)] 75 (0, 0))
  fmx : SMap W t (firstTo fs j)
  nbx : W.heap[t + 1 + 1 + 1]? = some (.cells #[.slice (some ⟨t + 1 + 1, 0, none⟩) fs.length fs.length] 76 (0, 0))
  row : ∃ arr : Array Value, W.heap[t + 1 + 1]? = some (.cells arr 73 (0, 0)) ∧ arr.size = fs.length ∧ ∀ (i : Nat) (f : Fl) (v : Value), fs[i]? = some f → arr[i]? = some v → (i < r → AncW W (t + 4) f v) ∧ (r ≤ i → v = .map none)
  o1 : w.heap.size < sb ∧ sb < t
section
variable {w W W' : World} {fs : List Fl} {F : Option Addr} {c sb t j r : Nat} {cs : List (Option NC)}
theorem L1.lt (h : L1 w fs F c sb t cs j r W) : t + 1 + 1 + 1 < W.heap.size := (Array.getElem?_eq_some_iff.1 h.nbx).1
/-- a world that differs at blocks of the loop's own alone -/
theorem L1.keep (h : L1 w fs F c sb t cs j r W) (hb : Below w.heap.size w W') (hk : ∀ b, w.heap.size ≤ b → b ≠ t → b ≠ t + 1 + 1 → b < W.heap.size → W'.heap[b]? = W.heap[b]?)
    {j' r' : Nat} (hm : SMap W' t (firstTo fs j')) (hr : ∃ arr : Array Value, W'.heap[t + 1 + 1]? = some (.cells arr 73 (0, 0)) ∧ arr.size = fs.length ∧ ∀ (i : Nat) (f : Fl) (v : Value), fs[i]? = some f → arr[i]? = some v → (i < r' → AncW W' (t + 4) f v) ∧ (r' ≤ i → v = .map none)) : L1 w fs F c sb t cs j' r' W' := by
  have h1 := h.lt
  have h2 := h.o1
  exact ⟨hb, (hk _ (Nat.le_refl _) (by omega) (by omega) (by omega)).trans h.lbx, h.sh.keep fun b h3 h4 => hk b (by omega) (by omega) (by omega) (by omega), (hk _ (by omega) (by omega) (by omega) (by omega)).trans h.xbx, hm, (hk _ (by omega) (by omega) (by omega) (by omega)).trans h.nbx, hr, h.o1⟩
theorem L1.step (h : L1 w fs F c sb t cs j r W) (hb : Below W.heap.size W W') : L1 w fs F c sb t cs j r W' := by
  have h1 := h.lt
  have h2 := h.o1
  refine h.keep (h.kp.trans (hb.mono h.kp.size)) (fun b _ _ _ hl => hb.block b hl) (h.fmx.of_block (hb.block _ (by omega))) ?_
  obtain ⟨arr, h3, h4, h5⟩ := h.row
  exact ⟨arr, (hb.block _ (by omega)).trans h3, h4, fun i f v hf hv => ⟨fun hi => ((h5 i f v hf hv).1 hi).keep fun b _ hl => hb.block b hl, (h5 i f v hf hv).2⟩⟩
/-- a name is entered -/
theorem L1.nameNew (h : L1 w fs F c sb t cs j r W) {f : Fl} (hf : fs[j]? = some f) (hn : lookL f.1 (firstTo fs j) = none) (hm : SMap W' t (putM f.1 (.int .i64 (j : Int)) (firstTo fs j))) (hg : W.grownBy W' (some t)) : L1 w fs F c sb t cs (j + 1) r W' := by
  have h1 := h.lt
  have h2 := h.o1
  have e : firstTo fs (j + 1) = putM f.1 (.int .i64 (j : Int)) (firstTo fs j) := by rw [firstTo, hf]; simp only; rw [if_pos hn, putM_new hn]
  refine h.keep (h.kp.grown hg h.kp.size fun k hk => by injection hk with hk; omega) (fun b _ hb _ hl => hg.block b hl fun e => hb (by injection e)) (by rw [e]; exact hm) ?_
  obtain ⟨arr, h3, h4, h5⟩ := h.row
  have hne : ∀ b, b ≠ t → some b ≠ some t := fun b hb e => hb (by injection e)
  exact ⟨arr, (hg.block _ (by omega) (hne _ (by omega))).trans h3, h4, fun i f v hf hv => ⟨fun hi => ((h5 i f v hf hv).1 hi).keep fun b hlo hl => hg.block b hl (hne _ (by omega)), (h5 i f v hf hv).2⟩⟩
theorem L1.nameOld (h : L1 w fs F c sb t cs j r W) {f : Fl} (hf : fs[j]? = some f) (hn : lookL f.1 (firstTo fs j) ≠ none) : L1 w fs F c sb t cs (j + 1) r W := by
  have e : firstTo fs (j + 1) = firstTo fs j := by rw [firstTo, hf]; simp only; rw [if_neg hn]
  exact h.keep h.kp (fun _ _ _ _ _ => rfl) (by rw [e]; exact h.fmx) h.row
theorem L1.rowNone (h : L1 w fs F c sb t cs j r W) {f : Fl} (hf : fs[r]? = some f) (hs : sheet f = none) : L1 w fs F c sb t cs j (r + 1) W := by
  refine h.keep h.kp (fun _ _ _ _ _ => rfl) h.fmx ?_
  obtain ⟨arr, h3, h4, h5⟩ := h.row
  refine ⟨arr, h3, h4, fun i g v hg hv => ⟨fun hi => ?_, fun hi => (h5 i g v hg hv).2 (by omega)⟩⟩
  by_cases hir : i < r
  · exact (h5 i g v hg hv).1 hir
  · have : i = r := by omega
    subst this
    rw [hf] at hg
    cases hg
    unfold AncW
    rw [hs]
    exact (h5 i f v hf hv).2 (Nat.le_refl _)
theorem L1.rowPut (h : L1 w fs F c sb t cs j r W) {f : Fl} {n : Nd} {m : Nat} (hf : fs[r]? = some f) (hs : sheet f = some n) (hm : SMap W m (seenM (addAll (vals idK n)))) (hlo : t + 4 ≤ m) : L1 w fs F c sb t cs j (r + 1) (W.setCell ⟨t + 1 + 1, r, none⟩ (.map (some m))) := by
  have h1 := h.lt
  have h2 := h.o1
  have hk : ∀ b, b ≠ t + 1 + 1 → (W.setCell ⟨t + 1 + 1, r, none⟩ (.map (some m))).heap[b]? = W.heap[b]? := fun b hb => set_block (fun e => hb e.symm)
  refine h.keep (h.kp.setCell (p := ⟨t + 1 + 1, r, none⟩) (by show w.heap.size ≤ t + 1 + 1; omega) _) (fun b _ _ hb _ => hk b hb) (h.fmx.of_block (hk _ (by omega))) ?_
  obtain ⟨arr, h3, h4, h5⟩ := h.row
  have hrl := (List.getElem?_eq_some_iff.1 hf).1
  refine ⟨_, heap_setA _ h3, by simp [h4], fun i g v hg hv => ?_⟩
  by_cases hir : i = r
  · subst hir
    rw [hf] at hg
    cases hg
    rw [Array.getElem?_setIfInBounds_self_of_lt (by omega)] at hv
    cases hv
    refine ⟨fun _ => ?_, fun hi => by omega⟩
    unfold AncW
    rw [hs]
    exact ⟨m, rfl, hlo, hm.of_block (hk _ (by omega))⟩
  · rw [Array.getElem?_setIfInBounds_ne (fun e => hir e.symm)] at hv
    exact ⟨fun hi => ((h5 i g v hg hv).1 (by omega)).keep fun b hlo hl => hk b (by omega), fun hi => (h5 i g v hg hv).2 (by omega)⟩
theorem L1.rowAt (h : L1 w fs F c sb t cs j r W) {i : Nat} (hi : i < fs.length) : (∃ v, W.cell? ⟨t + 1 + 1, i, none⟩ = some v) ∧ W.frozen? ⟨t + 1 + 1, i, none⟩ = false := by
  obtain ⟨arr, h3, h4, h5⟩ := h.row
  refine ⟨⟨arr[i]'(by omega), ?_⟩, by simp [World.frozen?, h3]⟩
  rw [cell_of_row W _ _ _ _ _ h3]
  exact Array.getElem?_eq_getElem _
end
theorem keeps {w w' : World} {M : Nat} (hb : Below M w w') (hM : w.heap.size ≤ M) {p : Addr} {v : Value} (h : w.cell? p = some v) : w'.cell? p = some v := by
  have hlt : p.block < w.heap.size := by
    rcases Nat.lt_or_ge p.block w.heap.size with h1 | h1
    · exact h1
    · rw [World.cell?, Array.getElem?_eq_none h1] at h; cases h
  rw [hb.cell (Nat.lt_of_lt_of_le hlt hM)]; exact h
theorem keep5 {w w' : World} {a1 a2 a3 a4 a5 : Addr} {v1 v2 v3 v4 v5 : Value} (hb : Below w.heap.size w w') (h : w.cell? a1 = some v1 ∧ w.cell? a2 = some v2 ∧ w.cell? a3 = some v3 ∧ w.cell? a4 = some v4 ∧ w.cell? a5 = some v5) :
    w'.cell? a1 = some v1 ∧ w'.cell? a2 = some v2 ∧ w'.cell? a3 = some v3 ∧ w'.cell? a4 = some v4 ∧ w'.cell? a5 = some v5 :=
  ⟨keeps hb (Nat.le_refl _) h.1, keeps hb (Nat.le_refl _) h.2.1, keeps hb (Nat.le_refl _) h.2.2.1, keeps hb (Nat.le_refl _) h.2.2.2.1, keeps hb (Nat.le_refl _) h.2.2.2.2⟩
theorem set5k {w : World} {b i : Nat} {u : Value} {a1 a2 a3 a4 a5 : Addr} {v1 v2 v3 v4 v5 : Value} (h : w.cell? a1 = some v1 ∧ w.cell? a2 = some v2 ∧ w.cell? a3 = some v3 ∧ w.cell? a4 = some v4 ∧ w.cell? a5 = some v5)
    (h1 : a1.block ≠ b) (h2 : a2.block ≠ b) (h3 : a3.block ≠ b) (h4 : a4.block ≠ b) (h5 : a5.block ≠ b) :
    (w.setCell ⟨b, i, none⟩ u).cell? a1 = some v1 ∧ (w.setCell ⟨b, i, none⟩ u).cell? a2 = some v2 ∧ (w.setCell ⟨b, i, none⟩ u).cell? a3 = some v3 ∧ (w.setCell ⟨b, i, none⟩ u).cell? a4 = some v4 ∧ (w.setCell ⟨b, i, none⟩ u).cell? a5 = some v5 := by
  have key : ∀ (a : Addr), a.block ≠ b → (w.setCell ⟨b, i, none⟩ u).cell? a = w.cell? a := fun a ha => cell_block (set_block fun e => ha e.symm)
  exact ⟨(key _ h1).trans h.1, (key _ h2).trans h.2.1, (key _ h3).trans h.2.2.1, (key _ h4).trans h.2.2.2.1, (key _ h5).trans h.2.2.2.2⟩
end Go.Proofs.YtejjidbodfoiiaaGreatDoor
namespace Go.Proofs.YtejjidbodfoiiaaGreatDoor
open Go.RowKit
set_option linter.unusedVariables false
set_option linter.unusedSimpArgs false
attribute [local go_sem] B_data B_size

/-- what is known in the second loop of Check -/
structure C2 (w : World) (fs : List Fl) (q : Bq) (sb t : Nat) (cs : List (Option NC)) (v : Value) (l : List Ft) (W : World) : Prop where
  ck : CK w w.heap.size fs q v l W
  sh : ShU W sb t fs cs
  o : sb < t ∧ t ≤ q.fb
section
variable {w W W' : World} {fs : List Fl} {q : Bq} {sb t : Nat} {cs : List (Option NC)} {v v' : Value} {l l' : List Ft}
theorem C2.fb (h : C2 w fs q sb t cs v l W) : q.fb < W.heap.size := (Array.getElem?_eq_some_iff.1 h.ck.lf.oo).1
theorem C2.step (h : C2 w fs q sb t cs v l W) (hb : Below W.heap.size W W') : C2 w fs q sb t cs v l W' := by
  have h1 := h.fb
  have h2 := h.o
  exact ⟨h.ck.step hb, h.sh.keep fun b h3 h4 => hb.block b (by omega), h.o⟩
theorem C2.add (h : C2 w fs q sb t cs v l W) (hm : Mv (ownO q.fb v) (ownO q.fb v') W W') (hk : CK w w.heap.size fs q v' l' W') : C2 w fs q sb t cs v' l' W' := by
  have h1 := h.fb
  have h2 := h.o
  have h3 := h.ck.lf.ln2
  refine ⟨hk, h.sh.keep fun b h4 h5 => hm.k.block b (by omega) fun ho => ?_, h.o⟩
  rcases ho with e | e
  · omega
  · have := (h.ck.lf.own.lt b e).1
    omega
end
/-- the two boxes of the second loop are laid -/
theorem L1.ck {w W X1 X2 : World} {fs : List Fl} {F : Option Addr} {c sb t : Nat} {cs : List (Option NC)} (h : L1 w fs F c sb t cs fs.length fs.length W) (hr : Rd w w.heap.size 2 F fs.length (fs.flatMap flC)) (hG : Fil.Glob w)
    (hX1 : X1 = W.alloc (.cells #[.slice none 0 0] 32)) (hX2 : X2 = X1.alloc (.cells #[.func (.func 34) #[] #[.pointer (some ⟨W.heap.size, 0, none⟩)]] 79)) :
    C2 w fs ⟨F, c, w.heap.size, t + 1, t, W.heap.size + 1, t + 1 + 1 + 1, t + 1 + 1, W.heap.size, W.heap.size + 2⟩ sb t cs (.slice none 0 0) [] X2 := by
  have h1 := h.lt
  have h2 := h.o1
  have s1 : X1.heap.size = W.heap.size + 1 := by rw [hX1]; simp
  have s2 : X2.heap.size = W.heap.size + 2 := by rw [hX2]; simp [s1]
  have b1 : Below W.heap.size W X1 := by rw [hX1]; exact below_alloc W _
  have b2 : Below X1.heap.size X1 X2 := by rw [hX2]; exact below_alloc X1 _
  have b3 := b1.trans (b2.mono (by omega))
  have q1 : X1.heap[W.heap.size]? = some (.cells #[.slice none 0 0] 32 (0, 0)) := by rw [hX1]; exact heap_alloc_new W _
  have q2 : X2.heap[X1.heap.size]? = some (.cells #[.func (.func 34) #[] #[.pointer (some ⟨W.heap.size, 0, none⟩)]] 79 (0, 0)) := by rw [hX2]; exact heap_alloc_new X1 _
  rw [s1] at q2
  have hk : ∀ b, b < W.heap.size → X2.heap[b]? = W.heap[b]? := fun b hb => b3.block b hb
  have hGl : 0 < w.heap.size := by
    obtain ⟨m, hm⟩ := hG
    exact World.block_lt_of_cell? w _ hm
  have hkp := h.kp.size
  have hB := h.kp.trans (b3.mono hkp)
  refine ⟨⟨⟨(hk w.heap.size (by omega)).trans h.lbx, hr.below hB, (hk (t + 1) (by omega)).trans h.xbx, h.fmx.of_block (hk t (by omega)), q2, (hk (t + 1 + 1 + 1) (by omega)).trans h.nbx, fun j f hj => ?_, hG.below hB (Nat.le_refl _), ?_, ?_, ?_, ?_, ?_, ?_, ?_, hGl⟩, ⟨hB, (b2.block W.heap.size (by omega)).trans q1, ⟨rfl, .inl ⟨rfl, rfl⟩⟩, hkp, ?_, ?_⟩⟩, h.sh.keep fun b _ _ => hk b (by omega), ?_, ?_⟩
  · obtain ⟨arr, h3, h4, h5⟩ := h.row
    have hjl := (List.getElem?_eq_some_iff.1 hj).1
    have hv : arr[j]? = some (arr[j]'(by omega)) := Array.getElem?_eq_getElem _
    refine ⟨_, (cell_block (p := ⟨t + 1 + 1, j, none⟩) (hk _ (by show t + 1 + 1 < _; omega))).trans ((cell_of_row W _ _ _ _ _ h3).trans hv), ?_⟩
    have ha := (h5 j f _ hj hv).1 hjl
    unfold AncW at ha
    unfold AncV
    cases hs : sheet f with
    | none => rw [hs] at ha; exact ha
    | some n =>
      rw [hs] at ha
      obtain ⟨m, e, h6, h7⟩ := ha
      have h8 := h7.lt
      exact ⟨m, e, ⟨by show m < W.heap.size + 2; omega, by show m ≠ W.heap.size; omega⟩, h7.of_block (hk m h8)⟩
  all_goals (try simp only)
  all_goals omega
theorem pageF_len {fs : List Fl} {i : Nat} {f : Fl} (hf : f.2.length ≤ 50000) : (pageF fs i f).length ≤ 1600001 := by
  unfold pageF
  cases hs : sheet f with
  | none => simp only; split <;> simp
  | some n =>
    simp only
    obtain ⟨h1, -, -⟩ := sheet_sz hs hf
    have h2 := vals_sz hrefK n
    have h3 := vals_sz srcK n
    have h4 : ∀ l : List Bs, (l.flatMap (refF fs i f.1)).length ≤ l.length := by
      intro l
      induction l with
      | nil => simp
      | cons r q ih =>
        rw [List.flatMap_cons, List.length_append, List.length_cons]
        have : (refF fs i f.1 r).length ≤ 1 := by
          unfold refF
          split
          · simp
          · split <;> simp
        omega
    have h5 := h4 (refsN n)
    have h6 : (refsN n).length = (vals hrefK n).length + (vals srcK n).length := List.length_append
    omega
theorem faultsTo_len {fs : List Fl} (hf : ∀ f ∈ fs, f.2.length ≤ 50000) : ∀ k, k ≤ fs.length → (faultsTo fs k).length ≤ 1600001 * k := by
  intro k
  induction k with
  | zero => intro _; simp [faultsTo]
  | succ k ih =>
    intro hk
    have h1 := ih (by omega)
    have e : fs[k]? = some fs[k] := List.getElem?_eq_getElem (by omega)
    rw [faultsTo_succ, List.length_append, e]
    have := pageF_len (fs := fs) (i := k) (hf fs[k] (List.getElem_mem _))
    simp only [Option.getD_some]
    omega
theorem refF_in {fs : List Fl} {i : Nat} {a r : Bs} (h : outB r = false) : refF fs i a r = chkF fs i a r := by unfold refF; rw [h]; rfl
theorem refF_out {fs : List Fl} {i : Nat} {a r : Bs} (h : outB r = true) : refF fs i a r = [] := by unfold refF; rw [if_pos h]
theorem refs_le {f : Fl} {n : Nd} (h : sheet f = some n) (hf : f.2.length ≤ 50000) : (refsN n).length ≤ 1600000 := by
  obtain ⟨h1, -, -⟩ := sheet_sz h hf
  have h2 := vals_sz hrefK n
  have h3 := vals_sz srcK n
  have h6 : (refsN n).length = (vals hrefK n).length + (vals srcK n).length := List.length_append
  omega
theorem flat_len (fs : List Fl) (i : Nat) (a : Bs) : ∀ l : List Bs, (l.flatMap (refF fs i a)).length ≤ l.length := by
  intro l
  induction l with
  | nil => simp
  | cons r q ih =>
    rw [List.flatMap_cons, List.length_append, List.length_cons]
    have : (refF fs i a r).length ≤ 1 := by
      unfold refF
      split
      · simp
      · split <;> simp
    omega
/-- what Check hands back -/
def FPost (l : List Ft) (w : World) (e : Ending) (w' : World) : Prop := ∃ A c, e = .returned (.slice A l.length c) ∧ Rd w' w'.heap.size 3 A l.length (ftV l) ∧ Below w.heap.size w w'
end Go.Proofs.YtejjidbodfoiiaaGreatDoor
