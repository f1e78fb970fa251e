/-
  Layer 49 (project): one line behind the first five: the chapter's.
-/
import Derived.Test.YtmkenekngaihhaaGreatDoorPjQ
import Derived.Test.YtmkenekngaihhaaGreatDoorPjS
namespace Go.Proofs.YtmkenekngaihhaaGreatDoor
open Go.RowKit
set_option linter.unusedVariables false
set_option linter.unusedSimpArgs false
attribute [local go_sem] B_data B_size

theorem PB.d0 {q : Nat} {p : Pj} {vA vF vT : Value} {W : World} (h : PB q p vA vF vT W) : W.cell? ⟨q, 0, none⟩ = some (.string (B p.ti)) := by unfold PB at h; simp [World.cell?, h]
theorem PB.d1 {q : Nat} {p : Pj} {vA vF vT : Value} {W : World} (h : PB q p vA vF vT W) : W.cell? ⟨q, 1, none⟩ = some (.string (B p.la)) := by unfold PB at h; simp [World.cell?, h]
theorem PB.d2 {q : Nat} {p : Pj} {vA vF vT : Value} {W : World} (h : PB q p vA vF vT W) : W.cell? ⟨q, 2, none⟩ = some (.string (B p.ma)) := by unfold PB at h; simp [World.cell?, h]
theorem PB.d3 {q : Nat} {p : Pj} {vA vF vT : Value} {W : World} (h : PB q p vA vF vT W) : W.cell? ⟨q, 3, none⟩ = some (.string (B p.so)) := by unfold PB at h; simp [World.cell?, h]
theorem PB.d4 {q : Nat} {p : Pj} {vA vF vT : Value} {W : World} (h : PB q p vA vF vT W) : W.cell? ⟨q, 4, none⟩ = some (.string (B p.st)) := by unfold PB at h; simp [World.cell?, h]
/-- a project's block that holds nothing -/
def RZ (r : Nat) (W : World) : Prop := W.heap[r]? = some (.cells #[.string ⟨#[]⟩, .string ⟨#[]⟩, .string ⟨#[]⟩, .string ⟨#[]⟩, .string ⟨#[]⟩, .slice none 0 0, .slice none 0 0, .slice none 0 0] 26 (0, 0))
theorem RZ.r0 {r : Nat} {W : World} (h : RZ r W) : W.cell? ⟨r, 0, none⟩ = some (.string ⟨#[]⟩) := by unfold RZ at h; simp [World.cell?, h]
theorem RZ.r1 {r : Nat} {W : World} (h : RZ r W) : W.cell? ⟨r, 1, none⟩ = some (.string ⟨#[]⟩) := by unfold RZ at h; simp [World.cell?, h]
theorem RZ.r2 {r : Nat} {W : World} (h : RZ r W) : W.cell? ⟨r, 2, none⟩ = some (.string ⟨#[]⟩) := by unfold RZ at h; simp [World.cell?, h]
theorem RZ.r3 {r : Nat} {W : World} (h : RZ r W) : W.cell? ⟨r, 3, none⟩ = some (.string ⟨#[]⟩) := by unfold RZ at h; simp [World.cell?, h]
theorem RZ.r4 {r : Nat} {W : World} (h : RZ r W) : W.cell? ⟨r, 4, none⟩ = some (.string ⟨#[]⟩) := by unfold RZ at h; simp [World.cell?, h]
theorem RZ.r5 {r : Nat} {W : World} (h : RZ r W) : W.cell? ⟨r, 5, none⟩ = some (.slice none 0 0) := by unfold RZ at h; simp [World.cell?, h]
theorem RZ.r6 {r : Nat} {W : World} (h : RZ r W) : W.cell? ⟨r, 6, none⟩ = some (.slice none 0 0) := by unfold RZ at h; simp [World.cell?, h]
theorem RZ.r7 {r : Nat} {W : World} (h : RZ r W) : W.cell? ⟨r, 7, none⟩ = some (.slice none 0 0) := by unfold RZ at h; simp [World.cell?, h]
theorem RZ.ff {r i : Nat} {W : World} (h : RZ r W) : W.frozen? ⟨r, i, none⟩ = false := by unfold RZ at h; simp [World.frozen?, h]
theorem RZ.lt {r : Nat} {W : World} (h : RZ r W) : r < W.heap.size := (Array.getElem?_eq_some_iff.1 h).1
theorem RZ.below {r M : Nat} {W W' : World} (h : RZ r W) (hb : Below M W W') (hM : r < M) : RZ r W' := (hb.block r hM).trans h
theorem RZ.step {r : Nat} {W W' : World} (h : RZ r W) (hb : Below W.heap.size W W') : RZ r W' := h.below hb h.lt
theorem RZ.grown {r : Nat} {W W' : World} {row : Option Nat} (h : RZ r W) (hg : W.grownBy W' row) (hne : row ≠ some r) : RZ r W' := (hg.block r h.lt (fun e => hne e.symm)).trans h
theorem PB.step {q : Nat} {p : Pj} {vA vF vT : Value} {W W' : World} (h : PB q p vA vF vT W) (hb : Below W.heap.size W W') : PB q p vA vF vT W' := h.below hb h.lt
theorem grown_setC {a w : World} {r i : Nat} {u : Value} (h : a.grownBy w (some r)) : a.grownBy (w.setCell ⟨r, i, none⟩ u) (some r) :=
  grown_trans h ⟨rfl, rfl, rfl, by simp [World.setCell], fun k _ hk => by
    have : ¬ r = k := fun e => hk (by rw [e])
    simp [World.setCell, Array.getElem?_modify, this]⟩
theorem grown_set8 (w : World) (r : Nat) (u0 u1 u2 u3 u4 u5 u6 u7 : Value) : w.grownBy ((((((((w.setCell ⟨r, 0, none⟩ u0).setCell ⟨r, 1, none⟩ u1).setCell ⟨r, 2, none⟩ u2).setCell ⟨r, 3, none⟩ u3).setCell ⟨r, 4, none⟩ u4).setCell ⟨r, 5, none⟩ u5).setCell ⟨r, 6, none⟩ u6).setCell ⟨r, 7, none⟩ u7) (some r) :=
  grown_setC (grown_setC (grown_setC (grown_setC (grown_setC (grown_setC (grown_setC (grown_setC (World.grownBy.refl w _))))))))
theorem PV.kept8 {base r : Nat} {p : Pj} {vA vF vT : Value} {W W' : World} (h : PV base p vA vF vT W) (hr : RZ r W) (hg : W.grownBy W' (some r)) : PV base p vA vF vT W' :=
  ⟨h.ov.kept hg (.inr (own_ne h.ov hr (by decide))), h.of.kept hg (.inr (own_ne h.of hr (by decide))), h.ot.kept hg (.inr (own_ne h.ot hr (by decide))), Nat.le_trans h.le hg.size⟩
/-- what a line leaves -/
def RMPost (base : Nat) (p : Pj) (l : List UInt8) (st : Nat) (W : World) (e : Ending) (w' : World) : Prop :=
  ∃ (st' : Nat) (b : Bool) (p' : Pj) (A' G' H' : Option Addr) (a' g' h' : Nat), e = .returned (.tuple #[.agg #[.string (B p'.ti), .string (B p'.la), .string (B p'.ma), .string (B p'.so), .string (B p'.st), .slice A' p'.vs.length a', .slice G' p'.fs.length g', .slice H' p'.ts.length h'], .int .i64 (st' : Int), .bool b]) ∧
    Below base W w' ∧ PV base p' (.slice A' p'.vs.length a') (.slice G' p'.fs.length g') (.slice H' p'.ts.length h') w' ∧ (if b = true then moreP p l st = some (p', st') else moreP p l st = none)
theorem rm_no {base : Nat} {p : Pj} {l : List UInt8} {st : Nat} {A G H : Option Addr} {cA cF cT : Nat} {W w' : World} (n : Nat) (h : Hid (moreP p l st = none)) (hb : Below base W w') (hv : PV base p (.slice A p.vs.length cA) (.slice G p.fs.length cF) (.slice H p.ts.length cT) w') : RMPost base p l st W (.returned (.tuple #[.agg #[.string (B p.ti), .string (B p.la), .string (B p.ma), .string (B p.so), .string (B p.st), .slice A p.vs.length cA, .slice G p.fs.length cF, .slice H p.ts.length cT], .int .i64 (n : Int), .bool false])) w' :=
  ⟨n, false, p, A, G, H, cA, cF, cT, rfl, hb, hv, h.out⟩
theorem beg_yes {l k : List UInt8} (w : World) (hl : l.length ≤ 1000000000) (hk : k.length ≤ 100) (h : k.isPrefixOf l = true) :
    Calls Tryz.prog 40 #[.string (B l), .string (B k)] w fun e w' => e = .returned (.tuple #[.string (B (l.drop k.length)), .bool true]) ∧ w = w' := by
  refine (begins_any (B l) (B k) w (by rw [B_size]; exact hl) (by rw [B_size]; omega)).mono fun e w' ⟨h1, h2⟩ => ⟨?_, h2⟩
  rw [h1, B_data, B_data]; unfold cutP; rw [if_pos h]; rfl
theorem beg_no {l k : List UInt8} (w : World) (hl : l.length ≤ 1000000000) (hk : k.length ≤ 100) (h : ¬ k.isPrefixOf l = true) :
    Calls Tryz.prog 40 #[.string (B l), .string (B k)] w fun e w' => e = .returned (.tuple #[.string ⟨#[]⟩, .bool false]) ∧ w = w' := by
  refine (begins_any (B l) (B k) w (by rw [B_size]; exact hl) (by rw [B_size]; omega)).mono fun e w' ⟨h1, h2⟩ => ⟨?_, h2⟩
  rw [h1, B_data, B_data]; unfold cutP; rw [if_neg h]; rfl
theorem words_single (r : List UInt8) : ([] ∉ wordsP r ∧ (wordsP r).length = 1) ↔ (r ≠ [] ∧ 32 ∉ r) := by
  rcases cut_sp r with ⟨h1, _⟩ | ⟨w, q, h1, h2, _⟩
  · rw [wordsP_no r h1]
    constructor
    · rintro ⟨h, _⟩; exact ⟨fun e => h (by simp [e]), h1⟩
    · rintro ⟨h, _⟩; exact ⟨fun e => h (List.mem_singleton.1 e).symm, rfl⟩
  · subst h2
    rw [wordsP_sp w q h1]
    have := words_pos q
    constructor
    · rintro ⟨_, h⟩; simp only [List.length_cons] at h; omega
    · rintro ⟨_, h⟩; exact absurd (by simp) h
theorem tgF_one (t : Tg) : ∀ u ∈ [Value.string (B t.nm), .string (B t.kd), .int .i64 t.pg, .int .i64 t.wd], u.oneCell' = true := by
  intro u hu
  simp only [List.mem_cons, List.not_mem_nil, or_false] at hu
  rcases hu with rfl | rfl | rfl | rfl <;> rfl
theorem pre_ex {a b l : List UInt8} (ha : a.isPrefixOf l = true) (hb : b.isPrefixOf l = true) : a.isPrefixOf b = true ∨ b.isPrefixOf a = true := by
  rw [List.isPrefixOf_iff_prefix] at *
  rw [List.isPrefixOf_iff_prefix]
  exact List.prefix_or_prefix_of_prefix ha hb
set_option maxHeartbeats 16000000 in
set_option maxRecDepth 100000 in
theorem rmore_any (base : Nat) (p : Pj) (A G H : Option Addr) (cA cF cT : Nat) (l : List UInt8) (st : Nat) (W : World) (hV : PV base p (.slice A p.vs.length cA) (.slice G p.fs.length cF) (.slice H p.ts.length cT) W) (hl : l.length ≤ 1000000000) (hsz : p.vs.length ≤ 1000000 ∧ p.fs.length ≤ 1000000 ∧ p.ts.length ≤ 1000000) :
    Calls Tryz.prog 42 #[.agg #[.string (B p.ti), .string (B p.la), .string (B p.ma), .string (B p.so), .string (B p.st), .slice A p.vs.length cA, .slice G p.fs.length cF, .slice H p.ts.length cT], .string (B l), .int .i64 (st : Int)] W (RMPost base p l st W) := by
  have hle := hV.le
  have hb1 := below_alloc W (.cells #[.string (B p.ti), .string (B p.la), .string (B p.ma), .string (B p.so), .string (B p.st), .slice A p.vs.length cA, .slice G p.fs.length cF, .slice H p.ts.length cT] 26)
  have hb2 := below_alloc (W.alloc (.cells #[.string (B p.ti), .string (B p.la), .string (B p.ma), .string (B p.so), .string (B p.st), .slice A p.vs.length cA, .slice G p.fs.length cF, .slice H p.ts.length cT] 26)) (.cells #[.string ⟨#[]⟩, .string ⟨#[]⟩, .string ⟨#[]⟩, .string ⟨#[]⟩, .string ⟨#[]⟩, .slice none 0 0, .slice none 0 0, .slice none 0 0] 26)
  have hB : PB W.heap.size p (.slice A p.vs.length cA) (.slice G p.fs.length cF) (.slice H p.ts.length cT) ((W.alloc (.cells #[.string (B p.ti), .string (B p.la), .string (B p.ma), .string (B p.so), .string (B p.st), .slice A p.vs.length cA, .slice G p.fs.length cF, .slice H p.ts.length cT] 26)).alloc (.cells #[.string ⟨#[]⟩, .string ⟨#[]⟩, .string ⟨#[]⟩, .string ⟨#[]⟩, .string ⟨#[]⟩, .slice none 0 0, .slice none 0 0, .slice none 0 0] 26)) := PB.step (heap_alloc_new W _) hb2
  have hR : RZ (W.alloc (.cells #[.string (B p.ti), .string (B p.la), .string (B p.ma), .string (B p.so), .string (B p.st), .slice A p.vs.length cA, .slice G p.fs.length cF, .slice H p.ts.length cT] 26)).heap.size ((W.alloc (.cells #[.string (B p.ti), .string (B p.la), .string (B p.ma), .string (B p.so), .string (B p.st), .slice A p.vs.length cA, .slice G p.fs.length cF, .slice H p.ts.length cT] 26)).alloc (.cells #[.string ⟨#[]⟩, .string ⟨#[]⟩, .string ⟨#[]⟩, .string ⟨#[]⟩, .string ⟨#[]⟩, .slice none 0 0, .slice none 0 0, .slice none 0 0] 26)) := heap_alloc_new _ _
  have hbw : Below base W ((W.alloc (.cells #[.string (B p.ti), .string (B p.la), .string (B p.ma), .string (B p.so), .string (B p.st), .slice A p.vs.length cA, .slice G p.fs.length cF, .slice H p.ts.length cT] 26)).alloc (.cells #[.string ⟨#[]⟩, .string ⟨#[]⟩, .string ⟨#[]⟩, .string ⟨#[]⟩, .string ⟨#[]⟩, .slice none 0 0, .slice none 0 0, .slice none 0 0] 26)) := (hb1.trans (hb2.mono hb1.size)).mono hle
  have hV := (hV.below hb1).below hb2
  have er : (W.alloc (.cells #[.string (B p.ti), .string (B p.la), .string (B p.ma), .string (B p.so), .string (B p.st), .slice A p.vs.length cA, .slice G p.fs.length cF, .slice H p.ts.length cT] 26)).heap.size = W.heap.size + 1 := by simp
  rw [er] at hR
  have hqr : W.heap.size ≠ W.heap.size + 1 := by omega
  have hrq : W.heap.size + 1 ≠ W.heap.size := by omega
  have hrle : base ≤ W.heap.size + 1 := by omega
  clear hb1 hb2 er
  have YV := Lib.hid (fun V h => beg_yes (l := l) (k := [118, 97, 114, 32]) V hl (by decide) h)
  have NV := Lib.hid (fun V h => beg_no (l := l) (k := [118, 97, 114, 32]) V hl (by decide) h)
  have YF := Lib.hid (fun V h => beg_yes (l := l) (k := [102, 108, 97, 103, 32]) V hl (by decide) h)
  have NF := Lib.hid (fun V h => beg_no (l := l) (k := [102, 108, 97, 103, 32]) V hl (by decide) h)
  have YT := Lib.hid (fun V h => beg_yes (l := l) (k := [116, 97, 114, 103, 101, 116, 32]) V hl (by decide) h)
  have NT := Lib.hid (fun V h => beg_no (l := l) (k := [116, 97, 114, 103, 101, 116, 32]) V hl (by decide) h)
  have HM : Hid (moreP p l st = _) := rfl
  by_cases hv : ([118, 97, 114, 32] : List UInt8).isPrefixOf l = true
  · have hnf : ¬ ([102, 108, 97, 103, 32] : List UInt8).isPrefixOf l = true := fun h => by
      rcases pre_ex hv h with h | h <;> revert h <;> decide
    have hnt : ¬ ([116, 97, 114, 103, 101, 116, 32] : List UInt8).isPrefixOf l = true := fun h => by
      rcases pre_ex hv h with h | h <;> revert h <;> decide
    have CV := Lib.hid (fun V => YV.out V hv)
    have CF := Lib.hid (fun V => NF.out V hnf)
    have CT := Lib.hid (fun V => NT.out V hnt)
    by_cases h0 : st = 0
    · have HM2 : Hid (moreP p l st = (varP [] (l.drop 4)).map fun v => ({ p with vs := p.vs ++ [v] }, 0)) := by unfold moreP; rw [if_pos ⟨hv, h0⟩]; rfl
      subst h0
      have CV : Hid (∀ V, Calls Tryz.prog 40 #[.string (B l), .string (B [118, 97, 114, 32])] V fun e w' => e = .returned (.tuple #[.string (B (l.drop 4)), .bool true]) ∧ V = w') := CV
      have hrl : (l.drop 4).length ≤ 1000000000 := by rw [List.length_drop]; omega
      generalize l.drop 4 = r at *
      have HVA : Hid (∀ V, Calls Tryz.prog 66 #[.string (B r)] V (PRet (varP [] r) V)) := by
        intro V
        have := rvariable_any (B r) V (by rw [B_size]; exact hrl)
        rw [B_data] at this
        exact this
      clear hv hnf hnt YV NV YF NF YT NT HM CF CT
      go_enter Tryz.func42, Tryz.ntmps42
      go_wp2_with fail
      generalize ((W.alloc (.cells #[.string (B p.ti), .string (B p.la), .string (B p.ma), .string (B p.so), .string (B p.st), .slice A p.vs.length cA, .slice G p.fs.length cF, .slice H p.ts.length cT] 26)).alloc (.cells #[.string ⟨#[]⟩, .string ⟨#[]⟩, .string ⟨#[]⟩, .string ⟨#[]⟩, .string ⟨#[]⟩, .slice none 0 0, .slice none 0 0, .slice none 0 0] 26)) = W0 at *
      refine (CV.out _).mono ?_
      rintro e w1 ⟨rfl, rfl⟩
      go_wp2_with fail
      refine (HVA.out _).mono ?_
      rintro e w2 hpr
      obtain ⟨x, y, b, rfl, hbn, hif⟩ := pret_un hpr
      have hif2 := Lib.hid hif
      have hba := below_alloc w2 (.cells #[.string (B x), .string (B y)] 40)
      have hbn := hbn.trans (hba.mono hbn.size)
      have hB := hB.step hbn
      have hR := hR.step hbn
      have hbw := hbw.trans (hbn.mono hV.le)
      have hV := hV.below hbn
      have k0 : (w2.alloc (.cells #[.string (B x), .string (B y)] 40)).cell? ⟨w2.heap.size, 0, none⟩ = some (.string (B x)) := by simp
      have k1 : (w2.alloc (.cells #[.string (B x), .string (B y)] 40)).cell? ⟨w2.heap.size, 1, none⟩ = some (.string (B y)) := by simp
      have b5 := hB.c5
      have hbl := hB.lt
      have hle3 := hV.le
      clear hif hbn hba HVA CV hpr
      go_upto_region 4 with fail
      generalize (w2.alloc (.cells #[.string (B x), .string (B y)] 40)) = w3 at *
      generalize w2.heap.size = bq at *
      go_wp2_with (at_builtin; refine wpList_app rfl _ _ 22 rfl 40 (.agg #[.string ⟨#[]⟩, .string ⟨#[]⟩]) 2 32 Tryz.underlying22 Tryz.infoPair rfl (by decide) w3 [.string (B x), .string (B y)] rfl ?c1 base _ _ _ hV.ov rfl rfl ?c2 (by decide) hle3 ?_)
      case c1 => exact prF_one (x, y)
      case c2 => omega
      intro v' w4 ho hg hb
      obtain ⟨A', c', rfl, _⟩ := own_form ho
      have hne5 := own_ne hV.ov hB (by decide)
      have hneR := own_ne hV.ov hR (by decide)
      have hB4 : PB W.heap.size p _ _ _ w4 := PB.grown hB hg hne5
      have hR4 := hR.grown hg hneR
      have hV4 := (hV.appV (v := (x, y)) ho hg).setq (i := 5) (u := .slice A' (p.vs.length + 1) c') hB4 (by decide) (by decide) (by decide)
      have hB5 := hB4.set5 (u := .slice A' (p.vs.length + 1) c') (p.vs ++ [(x, y)])
      have hR5 : RZ (W.heap.size + 1) (w4.setCell ⟨W.heap.size, 5, none⟩ (.slice A' (p.vs.length + 1) c')) := hR4.grown (row := some W.heap.size) (grown_setC (World.grownBy.refl w4 _)) (fun e => by injection e with e; omega)
      have hbw5 : Below base W (w4.setCell ⟨W.heap.size, 5, none⟩ (.slice A' (p.vs.length + 1) c')) := (hbw.trans hb).setCell (p := ⟨W.heap.size, 5, none⟩) hle _
      have z5 := hB4.c5
      have zf := hB4.ff (i := 5)
      clear ho hg hb hB hR hV hbw hB4 hR4 k0 k1 b5
      go_upto_region 5 with fail
      generalize (w4.setCell ⟨W.heap.size, 5, none⟩ (.slice A' (p.vs.length + 1) c')) = w5 at *
      have hB := hB5
      have hR := hR5
      have b0 := hB.d0
      have b1 := hB.d1
      have b2 := hB.d2
      have b3 := hB.d3
      have b4 := hB.d4
      have b5 := hB.c5
      have b6 := hB.c6
      have b7 := hB.c7
      have bf5 := hB.ff (i := 5)
      have bf6 := hB.ff (i := 6)
      have bf7 := hB.ff (i := 7)
      have r0 := hR.r0
      have r1 := hR.r1
      have r2 := hR.r2
      have r3 := hR.r3
      have r4 := hR.r4
      have r5 := hR.r5
      have r6 := hR.r6
      have r7 := hR.r7
      have rf0 := hR.ff (i := 0)
      have rf1 := hR.ff (i := 1)
      have rf2 := hR.ff (i := 2)
      have rf3 := hR.ff (i := 3)
      have rf4 := hR.ff (i := 4)
      have rf5 := hR.ff (i := 5)
      have rf6 := hR.ff (i := 6)
      have rf7 := hR.ff (i := 7)
      go_wp2
      refine bodyPost_ret (v := .tuple #[.agg #[.string (B p.ti), .string (B p.la), .string (B p.ma), .string (B p.so), .string (B p.st), .slice A' (p.vs.length + 1) c', .slice G p.fs.length cF, .slice H p.ts.length cT], .int .i64 0, .bool b]) (by simp [results, Tryz.results42, go_sem, r0, r1, r2, r3, r4, r5, r6, r7, hqr, hrq]) rfl ?_
      refine ⟨0, b, { p with vs := p.vs ++ [(x, y)] }, A', G, H, c', cF, cT, by simp, hbw5.trans (below_of_grown (grown_set8 _ _ _ _ _ _ _ _ _ _) hV4.le (fun k hk => by injection hk with hk; omega)), ?_, ?_⟩
      · have hl5 : (p.vs ++ [(x, y)]).length = p.vs.length + 1 := by simp
        show PV base _ (.slice A' (p.vs ++ [(x, y)]).length c') _ _ _
        rw [hl5]
        exact hV4.kept8 hR (grown_set8 _ _ _ _ _ _ _ _ _ _)
      · have hif := hif2.out
        cases b with
        | false => rw [if_neg (by simp)] at hif ⊢; rw [HM2.out, hif]; rfl
        | true => rw [if_pos rfl] at hif ⊢; rw [HM2.out, hif]; rfl
    · have HX : Hid (moreP p l st = none) := by unfold moreP; rw [if_neg (fun h => h0 h.2), if_neg (fun h => hnf h.1), if_neg hnt]; rfl
      have e0 : ((st : Int) == 0) = false := by simp; omega
      clear hv hnf hnt h0 YV NV YF NF YT NT HM
      have b0 := hB.d0
      have b1 := hB.d1
      have b2 := hB.d2
      have b3 := hB.d3
      have b4 := hB.d4
      have b5 := hB.c5
      have b6 := hB.c6
      have b7 := hB.c7
      have bf5 := hB.ff (i := 5)
      have bf6 := hB.ff (i := 6)
      have bf7 := hB.ff (i := 7)
      have r0 := hR.r0
      have r1 := hR.r1
      have r2 := hR.r2
      have r3 := hR.r3
      have r4 := hR.r4
      have r5 := hR.r5
      have r6 := hR.r6
      have r7 := hR.r7
      have rf0 := hR.ff (i := 0)
      have rf1 := hR.ff (i := 1)
      have rf2 := hR.ff (i := 2)
      have rf3 := hR.ff (i := 3)
      have rf4 := hR.ff (i := 4)
      have rf5 := hR.ff (i := 5)
      have rf6 := hR.ff (i := 6)
      have rf7 := hR.ff (i := 7)
      go_enter Tryz.func42, Tryz.ntmps42
      go_wp2_with fail
      generalize ((W.alloc (.cells #[.string (B p.ti), .string (B p.la), .string (B p.ma), .string (B p.so), .string (B p.st), .slice A p.vs.length cA, .slice G p.fs.length cF, .slice H p.ts.length cT] 26)).alloc (.cells #[.string ⟨#[]⟩, .string ⟨#[]⟩, .string ⟨#[]⟩, .string ⟨#[]⟩, .string ⟨#[]⟩, .slice none 0 0, .slice none 0 0, .slice none 0 0] 26)) = W0 at *
      refine (CV.out _).mono ?_
      rintro e w1 ⟨rfl, rfl⟩
      go_wp2_with fail
      refine (CF.out _).mono ?_
      rintro e w1 ⟨rfl, rfl⟩
      go_wp2_with fail
      refine (CT.out _).mono ?_
      rintro e w1 ⟨rfl, rfl⟩
      go_wp2
      refine bodyPost_ret (v := .tuple #[.agg #[.string (B p.ti), .string (B p.la), .string (B p.ma), .string (B p.so), .string (B p.st), .slice A p.vs.length cA, .slice G p.fs.length cF, .slice H p.ts.length cT], .int .i64 2, .bool false]) (by simp [results, Tryz.results42, go_sem, r0, r1, r2, r3, r4, r5, r6, r7, hqr, hrq]) rfl ?_
      exact rm_no 2 HX (hbw.trans (below_of_grown (grown_set8 _ _ _ _ _ _ _ _ _ _) hV.le (fun k hk => by injection hk with hk; omega))) (hV.kept8 hR (grown_set8 _ _ _ _ _ _ _ _ _ _))
  · have CV := Lib.hid (fun V => NV.out V hv)
    have HM1 : Hid (moreP p l st = if ([102, 108, 97, 103, 32] : List UInt8).isPrefixOf l = true ∧ st ≤ 1 then (if l.drop 5 ≠ [] ∧ 32 ∉ l.drop 5 then some ({ p with fs := p.fs ++ [l.drop 5] }, 1) else none)
      else if ([116, 97, 114, 103, 101, 116, 32] : List UInt8).isPrefixOf l = true then (targetP (l.drop 7)).map fun t => ({ p with ts := p.ts ++ [t] }, 2) else none) := by unfold moreP; rw [if_neg (fun h => hv h.1)]; rfl
    by_cases hf : ([102, 108, 97, 103, 32] : List UInt8).isPrefixOf l = true
    · have hnt : ¬ ([116, 97, 114, 103, 101, 116, 32] : List UInt8).isPrefixOf l = true := fun h => by
        rcases pre_ex hf h with h | h <;> revert h <;> decide
      have CF : Hid (∀ V, Calls Tryz.prog 40 #[.string (B l), .string (B [102, 108, 97, 103, 32])] V fun e w' => e = .returned (.tuple #[.string (B (l.drop 5)), .bool true]) ∧ V = w') := fun V => YF.out V hf
      have CT := Lib.hid (fun V => NT.out V hnt)
      by_cases h1 : st ≤ 1
      · have HM2 : Hid (moreP p l st = if l.drop 5 ≠ [] ∧ 32 ∉ l.drop 5 then some ({ p with fs := p.fs ++ [l.drop 5] }, 1) else none) := by rw [HM1.out, if_pos ⟨hf, h1⟩]; rfl
        have e1 : decide ((st : Int) ≤ 1) = true := by simp; omega
        have hrl : (l.drop 5).length ≤ 1000000000 := by rw [List.length_drop]; omega
        generalize l.drop 5 = r at *
        have HW : Hid (∀ V, Calls Tryz.prog 67 #[.string (B r)] V (WPost r V)) := by
          intro V
          have := words_any (B r) V (by rw [B_size]; exact hrl)
          rw [B_data] at this
          exact this
        have HWS := Lib.hid (words_single r)
        clear hv hf hnt h1 YV NV YF NF YT NT HM CT HM1
        go_enter Tryz.func42, Tryz.ntmps42
        go_wp2_with fail
        generalize ((W.alloc (.cells #[.string (B p.ti), .string (B p.la), .string (B p.ma), .string (B p.so), .string (B p.st), .slice A p.vs.length cA, .slice G p.fs.length cF, .slice H p.ts.length cT] 26)).alloc (.cells #[.string ⟨#[]⟩, .string ⟨#[]⟩, .string ⟨#[]⟩, .string ⟨#[]⟩, .string ⟨#[]⟩, .slice none 0 0, .slice none 0 0, .slice none 0 0] 26)) = W0 at *
        refine (CV.out _).mono ?_
        rintro e w1 ⟨rfl, rfl⟩
        go_wp2_with fail
        refine (CF.out _).mono ?_
        rintro e w1 ⟨rfl, rfl⟩
        go_wp2_with fail
        refine (HW.out _).mono ?_
        rintro e w2 ⟨v, ok, rfl, hif, hbn⟩
        have hB := hB.step hbn
        have hR := hR.step hbn
        have hbw := hbw.trans (hbn.mono hV.le)
        have hV := hV.below hbn
        have hle3 := hV.le
        by_cases hin : [] ∈ wordsP r
        · rw [if_pos hin] at hif
          subst hif
          have HX : Hid (moreP p l st = none) := by rw [HM2.out, if_neg (fun h => (HWS.out.2 h).1 hin)]; rfl
          clear hin hbn HW CV CF
          have b0 := hB.d0
          have b1 := hB.d1
          have b2 := hB.d2
          have b3 := hB.d3
          have b4 := hB.d4
          have b5 := hB.c5
          have b6 := hB.c6
          have b7 := hB.c7
          have bf5 := hB.ff (i := 5)
          have bf6 := hB.ff (i := 6)
          have bf7 := hB.ff (i := 7)
          have r0 := hR.r0
          have r1 := hR.r1
          have r2 := hR.r2
          have r3 := hR.r3
          have r4 := hR.r4
          have r5 := hR.r5
          have r6 := hR.r6
          have r7 := hR.r7
          have rf0 := hR.ff (i := 0)
          have rf1 := hR.ff (i := 1)
          have rf2 := hR.ff (i := 2)
          have rf3 := hR.ff (i := 3)
          have rf4 := hR.ff (i := 4)
          have rf5 := hR.ff (i := 5)
          have rf6 := hR.ff (i := 6)
          have rf7 := hR.ff (i := 7)
          go_wp2
          refine bodyPost_ret (v := .tuple #[.agg #[.string (B p.ti), .string (B p.la), .string (B p.ma), .string (B p.so), .string (B p.st), .slice A p.vs.length cA, .slice G p.fs.length cF, .slice H p.ts.length cT], .int .i64 1, .bool false]) (by simp [results, Tryz.results42, go_sem, r0, r1, r2, r3, r4, r5, r6, r7, hqr, hrq]) rfl ?_
          exact rm_no 1 HX (hbw.trans (below_of_grown (grown_set8 _ _ _ _ _ _ _ _ _ _) hV.le (fun k hk => by injection hk with hk; omega))) (hV.kept8 hR (grown_set8 _ _ _ _ _ _ _ _ _ _))
        rw [if_neg hin] at hif
        obtain ⟨rfl, hown⟩ := hif
        obtain ⟨Aw, cw, rfl, _⟩ := own_form hown
        by_cases hl1 : (wordsP r).length = 1
        · have HX : Hid (moreP p l st = some ({ p with fs := p.fs ++ [r] }, 1)) := by rw [HM2.out, if_pos (HWS.out.1 ⟨hin, hl1⟩)]; rfl
          have e2 : (((wordsP r).length : Int) != 1) = false := by simp [hl1]
          have e3 : (((wordsP r).length : Int) == 1) = true := by simp [hl1]
          have b6 := hB.c6
          clear hin hbn HW CV CF hown hl1
          go_wp2_with (at_builtin; refine wpList_app rfl _ _ 23 rfl 9 (.string ⟨#[]⟩) 1 16 Tryz.underlying23 Tryz.info9 rfl (by decide) w2 [.string (B r)] rfl ?c3 base _ _ _ hV.of rfl rfl ?c4 (by decide) hle3 ?_)
          case c3 => intro u hu; simp at hu; subst hu; rfl
          case c4 => omega
          intro v' w4 ho hg hb
          obtain ⟨A', c', rfl, _⟩ := own_form ho
          have hne5 := own_ne hV.of hB (by decide)
          have hneR := own_ne hV.of hR (by decide)
          have hB4 : PB W.heap.size p _ _ _ w4 := PB.grown hB hg hne5
          have hR4 := hR.grown hg hneR
          have hV4 := (hV.appF (v := r) ho hg).setq (i := 6) (u := .slice A' (p.fs.length + 1) c') hB4 (by decide) (by decide) (by decide)
          have hB5 := hB4.set6 (u := .slice A' (p.fs.length + 1) c') (p.fs ++ [r])
          have hR5 : RZ (W.heap.size + 1) (w4.setCell ⟨W.heap.size, 6, none⟩ (.slice A' (p.fs.length + 1) c')) := hR4.grown (row := some W.heap.size) (grown_setC (World.grownBy.refl w4 _)) (fun e => by injection e with e; omega)
          have hbw5 : Below base W (w4.setCell ⟨W.heap.size, 6, none⟩ (.slice A' (p.fs.length + 1) c')) := (hbw.trans hb).setCell (p := ⟨W.heap.size, 6, none⟩) hle _
          have z5 := hB4.c6
          have zf := hB4.ff (i := 6)
          clear ho hg hb hB hR hV hbw hB4 hR4 b6
          go_upto_region 12 with fail
          generalize (w4.setCell ⟨W.heap.size, 6, none⟩ (.slice A' (p.fs.length + 1) c')) = w5 at *
          have hB := hB5
          have hR := hR5
          have b0 := hB.d0
          have b1 := hB.d1
          have b2 := hB.d2
          have b3 := hB.d3
          have b4 := hB.d4
          have b5 := hB.c5
          have b6 := hB.c6
          have b7 := hB.c7
          have bf5 := hB.ff (i := 5)
          have bf6 := hB.ff (i := 6)
          have bf7 := hB.ff (i := 7)
          have r0 := hR.r0
          have r1 := hR.r1
          have r2 := hR.r2
          have r3 := hR.r3
          have r4 := hR.r4
          have r5 := hR.r5
          have r6 := hR.r6
          have r7 := hR.r7
          have rf0 := hR.ff (i := 0)
          have rf1 := hR.ff (i := 1)
          have rf2 := hR.ff (i := 2)
          have rf3 := hR.ff (i := 3)
          have rf4 := hR.ff (i := 4)
          have rf5 := hR.ff (i := 5)
          have rf6 := hR.ff (i := 6)
          have rf7 := hR.ff (i := 7)
          go_wp2
          refine bodyPost_ret (v := .tuple #[.agg #[.string (B p.ti), .string (B p.la), .string (B p.ma), .string (B p.so), .string (B p.st), .slice A p.vs.length cA, .slice A' (p.fs.length + 1) c', .slice H p.ts.length cT], .int .i64 1, .bool true]) (by simp [results, Tryz.results42, go_sem, r0, r1, r2, r3, r4, r5, r6, r7, hqr, hrq]) rfl ?_
          refine ⟨1, true, { p with fs := p.fs ++ [r] }, A, A', H, cA, c', cT, by simp, hbw5.trans (below_of_grown (grown_set8 _ _ _ _ _ _ _ _ _ _) hV4.le (fun k hk => by injection hk with hk; omega)), ?_, by rw [if_pos rfl]; exact HX.out⟩
          have hl5 : (p.fs ++ [r]).length = p.fs.length + 1 := by simp
          show PV base _ _ (.slice A' (p.fs ++ [r]).length c') _ _
          rw [hl5]
          exact hV4.kept8 hR (grown_set8 _ _ _ _ _ _ _ _ _ _)
        · have HX : Hid (moreP p l st = none) := by rw [HM2.out, if_neg (fun h => hl1 (HWS.out.2 h).2)]; rfl
          have e2 : (((wordsP r).length : Int) != 1) = true := by simp; omega
          have e3 : (((wordsP r).length : Int) == 1) = false := by simp; omega
          clear hin hbn HW CV CF hown hl1
          have b0 := hB.d0
          have b1 := hB.d1
          have b2 := hB.d2
          have b3 := hB.d3
          have b4 := hB.d4
          have b5 := hB.c5
          have b6 := hB.c6
          have b7 := hB.c7
          have bf5 := hB.ff (i := 5)
          have bf6 := hB.ff (i := 6)
          have bf7 := hB.ff (i := 7)
          have r0 := hR.r0
          have r1 := hR.r1
          have r2 := hR.r2
          have r3 := hR.r3
          have r4 := hR.r4
          have r5 := hR.r5
          have r6 := hR.r6
          have r7 := hR.r7
          have rf0 := hR.ff (i := 0)
          have rf1 := hR.ff (i := 1)
          have rf2 := hR.ff (i := 2)
          have rf3 := hR.ff (i := 3)
          have rf4 := hR.ff (i := 4)
          have rf5 := hR.ff (i := 5)
          have rf6 := hR.ff (i := 6)
          have rf7 := hR.ff (i := 7)
          go_wp2
          refine bodyPost_ret (v := .tuple #[.agg #[.string (B p.ti), .string (B p.la), .string (B p.ma), .string (B p.so), .string (B p.st), .slice A p.vs.length cA, .slice G p.fs.length cF, .slice H p.ts.length cT], .int .i64 1, .bool false]) (by simp [results, Tryz.results42, go_sem, r0, r1, r2, r3, r4, r5, r6, r7, hqr, hrq]) rfl ?_
          exact rm_no 1 HX (hbw.trans (below_of_grown (grown_set8 _ _ _ _ _ _ _ _ _ _) hV.le (fun k hk => by injection hk with hk; omega))) (hV.kept8 hR (grown_set8 _ _ _ _ _ _ _ _ _ _))
      · have HX : Hid (moreP p l st = none) := by rw [HM1.out, if_neg (fun h => h1 h.2), if_neg hnt]; rfl
        have e1 : decide ((st : Int) ≤ 1) = false := by simp; omega
        clear hv hf hnt h1 YV NV YF NF YT NT HM HM1
        go_enter Tryz.func42, Tryz.ntmps42
        go_wp2_with fail
        generalize ((W.alloc (.cells #[.string (B p.ti), .string (B p.la), .string (B p.ma), .string (B p.so), .string (B p.st), .slice A p.vs.length cA, .slice G p.fs.length cF, .slice H p.ts.length cT] 26)).alloc (.cells #[.string ⟨#[]⟩, .string ⟨#[]⟩, .string ⟨#[]⟩, .string ⟨#[]⟩, .string ⟨#[]⟩, .slice none 0 0, .slice none 0 0, .slice none 0 0] 26)) = W0 at *
        refine (CV.out _).mono ?_
        rintro e w1 ⟨rfl, rfl⟩
        go_wp2_with fail
        refine (CF.out _).mono ?_
        rintro e w1 ⟨rfl, rfl⟩
        go_wp2_with fail
        refine (CT.out _).mono ?_
        rintro e w1 ⟨rfl, rfl⟩
        have b0 := hB.d0
        have b1 := hB.d1
        have b2 := hB.d2
        have b3 := hB.d3
        have b4 := hB.d4
        have b5 := hB.c5
        have b6 := hB.c6
        have b7 := hB.c7
        have bf5 := hB.ff (i := 5)
        have bf6 := hB.ff (i := 6)
        have bf7 := hB.ff (i := 7)
        have r0 := hR.r0
        have r1 := hR.r1
        have r2 := hR.r2
        have r3 := hR.r3
        have r4 := hR.r4
        have r5 := hR.r5
        have r6 := hR.r6
        have r7 := hR.r7
        have rf0 := hR.ff (i := 0)
        have rf1 := hR.ff (i := 1)
        have rf2 := hR.ff (i := 2)
        have rf3 := hR.ff (i := 3)
        have rf4 := hR.ff (i := 4)
        have rf5 := hR.ff (i := 5)
        have rf6 := hR.ff (i := 6)
        have rf7 := hR.ff (i := 7)
        go_wp2
        refine bodyPost_ret (v := .tuple #[.agg #[.string (B p.ti), .string (B p.la), .string (B p.ma), .string (B p.so), .string (B p.st), .slice A p.vs.length cA, .slice G p.fs.length cF, .slice H p.ts.length cT], .int .i64 2, .bool false]) (by simp [results, Tryz.results42, go_sem, r0, r1, r2, r3, r4, r5, r6, r7, hqr, hrq]) rfl ?_
        exact rm_no 2 HX (hbw.trans (below_of_grown (grown_set8 _ _ _ _ _ _ _ _ _ _) hV.le (fun k hk => by injection hk with hk; omega))) (hV.kept8 hR (grown_set8 _ _ _ _ _ _ _ _ _ _))
    have CF := Lib.hid (fun V => NF.out V hf)
    by_cases ht : ([116, 97, 114, 103, 101, 116, 32] : List UInt8).isPrefixOf l = true
    · have CT : Hid (∀ V, Calls Tryz.prog 40 #[.string (B l), .string (B [116, 97, 114, 103, 101, 116, 32])] V fun e w' => e = .returned (.tuple #[.string (B (l.drop 7)), .bool true]) ∧ V = w') := fun V => YT.out V ht
      have HM2 : Hid (moreP p l st = (targetP (l.drop 7)).map fun t => ({ p with ts := p.ts ++ [t] }, 2)) := by rw [HM1.out, if_neg (fun h => hf h.1), if_pos ht]; rfl
      have hrl : (l.drop 7).length ≤ 1000000000 := by rw [List.length_drop]; omega
      generalize l.drop 7 = r at *
      have HVA : Hid (∀ V, Calls Tryz.prog 68 #[.string (B r)] V (TRet (targetP r) V)) := by
        intro V
        have := output_any (B r) V (by rw [B_size]; exact hrl)
        rw [B_data] at this
        exact this
      clear hv hf ht YV NV YF NF YT NT HM HM1
      go_enter Tryz.func42, Tryz.ntmps42
      go_wp2_with fail
      generalize ((W.alloc (.cells #[.string (B p.ti), .string (B p.la), .string (B p.ma), .string (B p.so), .string (B p.st), .slice A p.vs.length cA, .slice G p.fs.length cF, .slice H p.ts.length cT] 26)).alloc (.cells #[.string ⟨#[]⟩, .string ⟨#[]⟩, .string ⟨#[]⟩, .string ⟨#[]⟩, .string ⟨#[]⟩, .slice none 0 0, .slice none 0 0, .slice none 0 0] 26)) = W0 at *
      refine (CV.out _).mono ?_
      rintro e w1 ⟨rfl, rfl⟩
      go_wp2_with fail
      refine (CF.out _).mono ?_
      rintro e w1 ⟨rfl, rfl⟩
      go_wp2_with fail
      refine (CT.out _).mono ?_
      rintro e w1 ⟨rfl, rfl⟩
      go_wp2_with fail
      refine (HVA.out _).mono ?_
      rintro e w2 hpr
      obtain ⟨t, b, rfl, hbn, hif⟩ := tret_un hpr
      have hif2 := Lib.hid hif
      have hba := below_alloc w2 (.cells #[.string (B t.nm), .string (B t.kd), .int .i64 t.pg, .int .i64 t.wd] 38)
      have hbn := hbn.trans (hba.mono hbn.size)
      have hB := hB.step hbn
      have hR := hR.step hbn
      have hbw := hbw.trans (hbn.mono hV.le)
      have hV := hV.below hbn
      have hb4 : Bx4 (w2.alloc (.cells #[.string (B t.nm), .string (B t.kd), .int .i64 t.pg, .int .i64 t.wd] 38)) w2.heap.size (B t.nm) (B t.kd) t.pg t.wd := heap_alloc_new w2 _
      have b7 := hB.c7
      have hle3 := hV.le
      clear hif hbn hba HVA CV CF CT hpr
      go_upto_region 17 with fail
      generalize (w2.alloc (.cells #[.string (B t.nm), .string (B t.kd), .int .i64 t.pg, .int .i64 t.wd] 38)) = w3 at *
      generalize w2.heap.size = bq at *
      have k0 := hb4.c0
      have k1 := hb4.c1
      have k2 := hb4.c2
      have k3 := hb4.c3
      go_wp2_with (at_builtin; refine wpList_app rfl _ _ 24 rfl 38 (.agg #[.string ⟨#[]⟩, .string ⟨#[]⟩, .int .i64 0, .int .i64 0]) 4 48 Tryz.underlying24 Tryz.infoTg rfl (by decide) w3 [.string (B t.nm), .string (B t.kd), .int .i64 t.pg, .int .i64 t.wd] rfl ?c5 base _ _ _ hV.ot rfl rfl ?c6 (by decide) hle3 ?_)
      case c5 => exact tgF_one t
      case c6 => omega
      intro v' w4 ho hg hb
      obtain ⟨A', c', rfl, _⟩ := own_form ho
      have hne5 := own_ne hV.ot hB (by decide)
      have hneR := own_ne hV.ot hR (by decide)
      have hB4 : PB W.heap.size p _ _ _ w4 := PB.grown hB hg hne5
      have hR4 := hR.grown hg hneR
      have hV4 := (hV.appT (v := t) ho hg).setq (i := 7) (u := .slice A' (p.ts.length + 1) c') hB4 (by decide) (by decide) (by decide)
      have hB5 := hB4.set7 (u := .slice A' (p.ts.length + 1) c') (p.ts ++ [t])
      have hR5 : RZ (W.heap.size + 1) (w4.setCell ⟨W.heap.size, 7, none⟩ (.slice A' (p.ts.length + 1) c')) := hR4.grown (row := some W.heap.size) (grown_setC (World.grownBy.refl w4 _)) (fun e => by injection e with e; omega)
      have hbw5 : Below base W (w4.setCell ⟨W.heap.size, 7, none⟩ (.slice A' (p.ts.length + 1) c')) := (hbw.trans hb).setCell (p := ⟨W.heap.size, 7, none⟩) hle _
      have z5 := hB4.c7
      have zf := hB4.ff (i := 7)
      clear ho hg hb hB hR hV hbw hB4 hR4 k0 k1 k2 k3 b7 hb4
      go_upto_region 18 with fail
      generalize (w4.setCell ⟨W.heap.size, 7, none⟩ (.slice A' (p.ts.length + 1) c')) = w5 at *
      have hB := hB5
      have hR := hR5
      have b0 := hB.d0
      have b1 := hB.d1
      have b2 := hB.d2
      have b3 := hB.d3
      have b4 := hB.d4
      have b5 := hB.c5
      have b6 := hB.c6
      have b7 := hB.c7
      have bf5 := hB.ff (i := 5)
      have bf6 := hB.ff (i := 6)
      have bf7 := hB.ff (i := 7)
      have r0 := hR.r0
      have r1 := hR.r1
      have r2 := hR.r2
      have r3 := hR.r3
      have r4 := hR.r4
      have r5 := hR.r5
      have r6 := hR.r6
      have r7 := hR.r7
      have rf0 := hR.ff (i := 0)
      have rf1 := hR.ff (i := 1)
      have rf2 := hR.ff (i := 2)
      have rf3 := hR.ff (i := 3)
      have rf4 := hR.ff (i := 4)
      have rf5 := hR.ff (i := 5)
      have rf6 := hR.ff (i := 6)
      have rf7 := hR.ff (i := 7)
      go_wp2
      refine bodyPost_ret (v := .tuple #[.agg #[.string (B p.ti), .string (B p.la), .string (B p.ma), .string (B p.so), .string (B p.st), .slice A p.vs.length cA, .slice G p.fs.length cF, .slice A' (p.ts.length + 1) c'], .int .i64 2, .bool b]) (by simp [results, Tryz.results42, go_sem, r0, r1, r2, r3, r4, r5, r6, r7, hqr, hrq]) rfl ?_
      refine ⟨2, b, { p with ts := p.ts ++ [t] }, A, G, A', cA, cF, c', by simp, hbw5.trans (below_of_grown (grown_set8 _ _ _ _ _ _ _ _ _ _) hV4.le (fun k hk => by injection hk with hk; omega)), ?_, ?_⟩
      · have hl5 : (p.ts ++ [t]).length = p.ts.length + 1 := by simp
        show PV base _ _ _ (.slice A' (p.ts ++ [t]).length c') _
        rw [hl5]
        exact hV4.kept8 hR (grown_set8 _ _ _ _ _ _ _ _ _ _)
      · have hif := hif2.out
        cases b with
        | false => rw [if_neg (by simp)] at hif ⊢; rw [HM2.out, hif]; rfl
        | true => rw [if_pos rfl] at hif ⊢; rw [HM2.out, hif]; rfl
    · have HX : Hid (moreP p l st = none) := by rw [HM1.out, if_neg (fun h => hf h.1), if_neg ht]; rfl
      have CT := Lib.hid (fun V => NT.out V ht)
      clear hv hf ht YV NV YF NF YT NT HM HM1
      go_enter Tryz.func42, Tryz.ntmps42
      go_wp2_with fail
      generalize ((W.alloc (.cells #[.string (B p.ti), .string (B p.la), .string (B p.ma), .string (B p.so), .string (B p.st), .slice A p.vs.length cA, .slice G p.fs.length cF, .slice H p.ts.length cT] 26)).alloc (.cells #[.string ⟨#[]⟩, .string ⟨#[]⟩, .string ⟨#[]⟩, .string ⟨#[]⟩, .string ⟨#[]⟩, .slice none 0 0, .slice none 0 0, .slice none 0 0] 26)) = W0 at *
      refine (CV.out _).mono ?_
      rintro e w1 ⟨rfl, rfl⟩
      go_wp2_with fail
      refine (CF.out _).mono ?_
      rintro e w1 ⟨rfl, rfl⟩
      go_wp2_with fail
      refine (CT.out _).mono ?_
      rintro e w1 ⟨rfl, rfl⟩
      have b0 := hB.d0
      have b1 := hB.d1
      have b2 := hB.d2
      have b3 := hB.d3
      have b4 := hB.d4
      have b5 := hB.c5
      have b6 := hB.c6
      have b7 := hB.c7
      have bf5 := hB.ff (i := 5)
      have bf6 := hB.ff (i := 6)
      have bf7 := hB.ff (i := 7)
      have r0 := hR.r0
      have r1 := hR.r1
      have r2 := hR.r2
      have r3 := hR.r3
      have r4 := hR.r4
      have r5 := hR.r5
      have r6 := hR.r6
      have r7 := hR.r7
      have rf0 := hR.ff (i := 0)
      have rf1 := hR.ff (i := 1)
      have rf2 := hR.ff (i := 2)
      have rf3 := hR.ff (i := 3)
      have rf4 := hR.ff (i := 4)
      have rf5 := hR.ff (i := 5)
      have rf6 := hR.ff (i := 6)
      have rf7 := hR.ff (i := 7)
      go_wp2
      refine bodyPost_ret (v := .tuple #[.agg #[.string (B p.ti), .string (B p.la), .string (B p.ma), .string (B p.so), .string (B p.st), .slice A p.vs.length cA, .slice G p.fs.length cF, .slice H p.ts.length cT], .int .i64 2, .bool false]) (by simp [results, Tryz.results42, go_sem, r0, r1, r2, r3, r4, r5, r6, r7, hqr, hrq]) rfl ?_
      exact rm_no 2 HX (hbw.trans (below_of_grown (grown_set8 _ _ _ _ _ _ _ _ _ _) hV.le (fun k hk => by injection hk with hk; omega))) (hV.kept8 hR (grown_set8 _ _ _ _ _ _ _ _ _ _))
end Go.Proofs.YtmkenekngaihhaaGreatDoor
