/-
  Layer 48 (graph): Rule, where it lays a rule.
-/
import Derived.Test.YtbikldmhfaecpaaGrH
import Derived.Deep.RegionLaw
namespace Go.Proofs.Ytbikldmhfaecpaa
open Go.RowKit
set_option linter.unusedVariables false
set_option linter.unusedSimpArgs false
attribute [local go_sem] B_data B_size

theorem run_isnilR_none (w : World) : (binOp .eql 46 (.map none) (.map none)).run Try.prog w = .ok (.bool true) w := by kernel_rfl
theorem run_isnilR_some (b : Nat) (w : World) : (binOp .eql 46 (.map (some b)) (.map none)).run Try.prog w = .ok (.bool false) w := by kernel_rfl
theorem run_mkRules (w : World) : (Instr.makeMap 46 none).run Try.prog w = .ok (.map (some w.heap.size)) (w.alloc (.map #[] 0)) := rfl
theorem run_mkUsers (w : World) : (Instr.makeMap 47 none).run Try.prog w = .ok (.map (some w.heap.size)) (w.alloc (.map #[] 0)) := rfl
/-- the new rule -/
def newR (n : Nm) (needs : List Nm) (f : Nat) : RuleS := ⟨n, needs, f, false, [], [], 0, true, false⟩
/-- an argument that lies outside the graph -/
structure Arg (own : Own) (id : Nat) (w : World) (A : Option Addr) (m c : Nat) (needs : List Nm) : Prop where
  rd : Rd w w.heap.size 1 A m (strs needs)
  out : ∀ ad, A = some ad → 0 < m → ¬ Mine own id ad.block
  le : m ≤ c
theorem Arg.kp {own : Own} {id : Nat} {w w' : World} {A : Option Addr} {m c : Nat} {needs : List Nm} (h : Arg own id w A m c needs) (k : Kp own id w w') : Arg own id w' A m c needs := by
  obtain ⟨⟨h1, h2⟩, h3, h4⟩ := h
  refine ⟨⟨h1, fun hn => ?_⟩, h3, h4⟩
  obtain ⟨ad, e, hb, hc⟩ := h2 hn
  exact ⟨ad, e, Nat.lt_of_lt_of_le hb k.size, fun j u hj => (World.cell?_of_block (w := w) (a := ad.add j) (by rw [show (ad.add j).block = ad.block from by unfold Addr.add; split <;> rfl]; exact k.block _ hb (h3 ad e hn))).trans (hc j u hj)⟩
theorem Arg.ext {own own' : Own} {id : Nat} {w : World} {A : Option Addr} {m c : Nat} {needs : List Nm} (h : Arg own id w A m c needs) {M : Nat} (e : Ext own own' id M) (hM : w.heap.size ≤ M) : Arg own' id w A m c needs :=
  ⟨h.rd, fun ad ea hn => by
    obtain ⟨ad', e', hb, _⟩ := h.rd.2 hn
    rw [ea] at e'; injection e' with e'; subst e'
    exact fun hm => h.out ad ea hn ((e.mine (Nat.lt_of_lt_of_le hb hM)).1 hm), h.le⟩
/-- the users while a rule is laid: those of kn have the new one already -/
def usN (S : GS) (n : Nm) (kn : List Nm) (m : Nm) : List Nm := if m ∈ kn then usersOf S.rules m ++ [n] else usersOf S.rules m
theorem usN_snoc (S : GS) (n : Nm) (kn : List Nm) (u : Nm) (h : u ∉ kn) (U : Nm → List Nm) (hU : ∀ m, U m = usN S n kn m) : ∀ m, (if m = u then U m ++ [n] else U m) = usN S n (kn ++ [u]) m := by
  intro m
  rw [hU m]
  unfold usN
  by_cases hm : m = u
  · subst hm; simp [h]
  · simp [hm]
theorem users_new (S : GS) (n : Nm) (needs : List Nm) (f : Nat) (kn : List Nm) (hk : ∀ m, m ∈ kn ↔ m ∈ needs) (m : Nm) : usN S n kn m = usersOf (S.rules ++ [newR n needs f]) m := by
  unfold usN usersOf
  rw [List.filter_append, List.map_append]
  by_cases h : m ∈ needs
  · rw [if_pos ((hk m).2 h)]
    simp [newR, h]
  · rw [if_neg (fun x => h ((hk m).1 x))]
    simp [newR, h]
/-- the world while the users of a new rule are added -/
structure LI (own : Own) (id gb : Nat) (vm : Option Nat) (rb ub : Nat) (pt : Nm → PtI) (S : GS) (n : Nm) (needs : List Nm) (f kb : Nat) (own1 : Own) (kn : List Nm) (w wr : World) : Prop where
  gw : ∃ U, GW own1 id gb vm (some rb) (some ub) pt { S with rules := S.rules ++ [newR n needs f] } U wr ∧ ∀ m, U m = usN S n kn m
  ext : Ext own own1 id w.heap.size
  kp : Kp own id w wr
  mp : SMap wr kb (seenM kn)
  ok : own1 kb = none
  hk : w.heap.size ≤ kb
def fnO : Option Nat → Value
  | none => .nilFunc
  | some f => fnV f
theorem run_fnil_none (w : World) : (binOp .eql 43 .nilFunc .nilFunc).run Try.prog w = .ok (.bool true) w := by kernel_rfl
theorem run_fnil_some (k : FuncId) (w : World) : (binOp .eql 43 (.func (.func k) #[] #[]) .nilFunc).run Try.prog w = .ok (.bool false) w := by kernel_rfl
theorem contains_any (A : Option Addr) (n c : Nat) (xs : List Nm) (w : World) (hr : Rd w w.heap.size 1 A n (strs xs)) (hn : n ≤ 1000000) :
    Calls Try.prog 39 #[.slice A n c, .string ⟨#[]⟩] w fun e w' => e = .returned (.bool (decide (([] : Nm) ∈ xs))) ∧ w' = w := by
  have hl : xs.length = n := hr.strs_length
  rcases Nat.eq_zero_or_pos n with h0 | h0
  · subst h0
    have e1 : xs = [] := List.eq_nil_of_length_eq_zero hl
    subst e1
    exact (Try.slices_Contains_string_empty A c ⟨#[]⟩ w).mono fun e w' h => ⟨by simpa using h.1, h.2⟩
  · obtain ⟨x, hx⟩ : ∃ x, xs[0]? = some x := ⟨xs[0]'(by omega), List.getElem?_eq_getElem (by omega)⟩
    obtain ⟨b, o, e, _, _⟩ := rd_get hr hx
    subst e
    refine (Try.slices_Contains_string b o n c (xs.map B) ⟨#[]⟩ w (by rw [List.length_map, hl]; exact Nat.le_refl _) (by omega) (fun j hj => ?_)).mono ?_
    · rw [zs_get xs j hj]
      rw [List.length_map] at hj
      obtain ⟨b', o', e, _, h⟩ := rd_get (k := j) (x := xs[j]) hr (List.getElem?_eq_getElem hj)
      injection e with e; injection e with e1 e2
      subst e1; subst e2
      rw [h]; simp [hj]
    · rintro e w' ⟨rfl, rfl⟩
      rw [List.take_of_length_le (by rw [List.length_map, hl]; exact Nat.le_refl _)]
      refine ⟨?_, rfl⟩
      congr 2
      rw [Bool.eq_iff_iff, Lib.containsS_iff, decide_eq_true_eq, List.mem_map]
      constructor
      · rintro ⟨y, hy, e⟩
        have : y = [] := B_inj (e.trans (show (⟨#[]⟩ : ByteArray) = B [] from rfl))
        rw [← this]; exact hy
      · intro h; exact ⟨[], h, rfl⟩
theorem Kp.ext {own own' : Own} {id : Nat} {a b : World} (h : Kp own id a b) (e : Ext own own' id a.heap.size) : Kp own' id a b :=
  ⟨h.os, h.tape, h.output, h.size, fun k hk hm => h.block k hk (fun m => hm ((e.mine hk).2 m))⟩
def tagA (own : Own) (A : Option Addr) (x : Nat × Tag) : Own := match A with
  | none => own
  | some ad => tagO own ad.block x
theorem Ext.taggedA {own own1 : Own} {id M : Nat} {A : Option Addr} {t : Tag} (h : Ext own own1 id M) (hA : ∀ ad, A = some ad → M ≤ ad.block) : Ext own (tagA own1 A (id, t)) id M := by
  cases A with
  | none => exact h
  | some ad => exact h.tagged (hA ad rfl)
theorem tagA_ne {own : Own} {A : Option Addr} {x : Nat × Tag} {b : Nat} (h : ∀ ad, A = some ad → ad.block ≠ b) : tagA own A x b = own b := by
  cases A with
  | none => rfl
  | some ad => show tagO own ad.block x b = own b; unfold tagO; rw [if_neg (fun e => h ad rfl e.symm)]
theorem GW.taggedA {own : Own} {id gb : Nat} {vm rm um : Option Nat} {pt : Nm → PtI} {S : GS} {U : Nm → List Nm} {w : World} {A : Option Addr} {x : Nat × Tag} (h : GW own id gb vm rm um pt S U w) (hA : ∀ ad, A = some ad → own ad.block = none ∧ ad.block < w.heap.size) : GW (tagA own A x) id gb vm rm um pt S U w := by
  cases A with
  | none => exact h
  | some ad => exact h.tagged (hA ad rfl).1 (hA ad rfl).2
set_option maxRecDepth 100000 in
theorem laid_rule {own own1 : Own} {id gb rb ub m c c7 f : Nat} {vm : Option Nat} {pt : Nm → PtI} {S : GS} {U : Nm → List Nm} {n : Nm} {needs : List Nm} {A A7 : Option Addr} {w1 w4 w7 w10 : World} {K : FuncId}
    (h : GW own1 id gb vm (some rb) (some ub) pt S U w4) (hext : Ext own own1 id w1.heap.size) (hkp : Kp own id w1 w4) (harg : Arg own1 id w4 A m c needs) (hn : findR S.rules n = none) (hl : needs.length = m) (hf : fnV f = .func (.func K) #[] #[])
    (ho7 : w7.ownsRow w4.heap.size 9 1 (.slice A7 m c7) m (strs needs)) (hc7 : m ≤ c7) (hb7 : Below w4.heap.size w4.drew w7)
    (hm10 : SMap w10 rb (putM n (.pointer (some ⟨w7.heap.size, 0, none⟩)) (rkv pt S.rules)))
    (hg10 : (w7.alloc (.cells #[.slice A7 m c7, .func (.func K) #[] #[], .bool false, .slice none 0 0, .string ⟨#[]⟩, .int .i64 0, .bool true, .bool false] 71)).grownBy w10 (some rb)) :
    ∃ own2 pt', Ext own own2 id w1.heap.size ∧ GW own2 id gb vm (some rb) (some ub) pt' { S with rules := S.rules ++ [newR n needs f] } U w10 ∧ Kp own id w1 w10 ∧ Arg own2 id w10 A m c needs := by
  subst hl
  have hs47 : w4.heap.size ≤ w7.heap.size := hb7.size
  have hA7 : ∀ ad, A7 = some ad → w4.heap.size ≤ ad.block ∧ ad.block < w7.heap.size := fun ad e => by subst e; exact ho7.lt _ rfl
  have hAn : ∀ ad, A7 = some ad → own1 ad.block = none := fun ad e => h.fr _ (hA7 ad e).1
  have hrb := (h.r1 rb rfl).1
  have hrbl : rb < w4.heap.size := (h.r1 rb rfl).2.lt
  have hpn : tagA own1 A7 (id, .needs n) w7.heap.size = none := by rw [tagA_ne (fun ad e => by have := (hA7 ad e).2; omega)]; exact h.fr _ hs47
  have hkb : Below w4.heap.size w4 w7 := (Below.refl _ w4).drew.trans hb7
  have h7 := ((h.below hkb).alloc (.cells #[.slice A7 needs.length c7, .func (.func K) #[] #[], .bool false, .slice none 0 0, .string ⟨#[]⟩, .int .i64 0, .bool true, .bool false] 71)).taggedA (A := A7) (x := (id, .needs n)) (fun ad e => ⟨hAn ad e, by have := (hA7 ad e).2; simp; omega⟩)
  have h7' := h7.tagged (g := w7.heap.size) (x := (id, .rule n)) hpn (by simp)
  have hs10 : w7.heap.size + 1 ≤ w10.heap.size := by have := hg10.size; simpa using this
  have ext1 : Ext own1 (tagO (tagA own1 A7 (id, .needs n)) w7.heap.size (id, .rule n)) id w4.heap.size := ((Ext.refl own1 id w4.heap.size h.fr).taggedA (fun ad e => (hA7 ad e).1)).tagged hs47
  have hblk : ∀ q, q < w7.heap.size → q ≠ rb → w10.heap[q]? = w7.heap[q]? := fun q hq hne => by
    rw [hg10.block q (by simp; omega) (fun e => by injection e with e; exact hne e), Lib.alloc_old _ _ _ hq]
  have hat : RAt (tagO (tagA own1 A7 (id, .needs n)) w7.heap.size (id, .rule n)) id ⟨w7.heap.size, A7, c7⟩ (newR n needs f) w10 := by
    refine ⟨by show tagO _ _ _ _ = _; unfold tagO; rw [if_pos rfl]; rfl, none, 0, 0, ?_, ⟨⟨(Rd.of_own ho7).1, fun h0 => ?_⟩, fun ad e h0 => ?_⟩, hc7, ⟨Rd.nil, fun ad e => by cases e⟩⟩
    · refine (hg10.block w7.heap.size (by simp) (fun e => by injection e with e; omega)).trans ?_
      rw [heap_alloc_new]
      show _ = some (Obj.cells #[.slice A7 needs.length c7, fnV f, .bool false, .slice none 0 0, .string (B []), .int .i64 ((0 : Nat) : Int), .bool true, .bool false] _ (0, 0))
      rw [hf]; rfl
    · obtain ⟨ad, e, hb, hcc⟩ := (Rd.of_own ho7).2 h0
      refine ⟨ad, e, by omega, fun j u hj => ?_⟩
      refine (World.cell?_of_block (w := w7) (a := ad.add j) ?_).trans (hcc j u hj)
      rw [show (ad.add j).block = ad.block from by unfold Addr.add; split <;> rfl]
      exact hblk _ hb (fun e2 => by have := hAn ad e; rw [e2, hrb] at this; cases this)
    · have e : A7 = some ad := e
      show tagO _ _ _ _ = _
      unfold tagO
      rw [if_neg (fun e2 => by have := (hA7 ad e).2; omega), e]
      show tagO own1 ad.block _ _ = _
      unfold tagO; rw [if_pos rfl]; rfl
  refine ⟨_, _, (hext.trans ext1 hkp.size), h7'.radd hn rfl hat hm10 (fun q hq m _ _ => hg10.block q (h7'.mine_lt m) (fun e => by injection e with e; exact hq e)) hg10.size, ?_, ?_⟩
  · exact ((hkp.step hkb).alloc _).grown hg10 (fun q e hq => by injection e with e; subst e; exact (hext.mine hq).1 ⟨_, hrb⟩)
  · exact (harg.ext ext1 (Nat.le_refl _)).kp ((((Kp.of_below hkb).alloc _).grown hg10 (fun q e hq => by injection e with e; subst e; exact (⟨_, hrb⟩ : Mine own1 id _))).ext ext1)
theorem RAt.hold {own own4 : Own} {id : Nat} {p : PtI} {r : RuleS} {w : World} (h : RAt own id p r w) (ho : ∀ b y, own b = some y → own4 b = some y) : RAt own4 id p r w := by
  obtain ⟨iA, im, ic, h1, h2, h3, h4⟩ := h.cells
  exact ⟨ho _ _ h.tag, iA, im, ic, h1, ⟨h2.1, fun ad e hn => ho _ _ (h2.2 ad e hn)⟩, h3, ⟨h4.1, fun ad e hn => ho _ _ (h4.2 ad e hn)⟩⟩
theorem GW.uadd2 {own own4 : Own} {id gb rb ub : Nat} {vm : Option Nat} {pt : Nm → PtI} {S : GS} {U : Nm → List Nm} {w w' : World} (h : GW own id gb vm (some rb) (some ub) pt S U w) {u n : Nm} {g cap : Nat} {kv : List (Nm × Value)} (hu : UAt own id U kv w)
    (ho4 : ∀ b y, own b = some y → own4 b = some y) (hf4 : ∀ b, w'.heap.size ≤ b → own4 b = none)
    (hm : SMap w' ub (putM u (.slice (some ⟨g, 0, none⟩) ((U u).length + 1) cap) kv)) (ho : w'.ownsRow 0 9 1 (.slice (some ⟨g, 0, none⟩) ((U u).length + 1) cap) ((U u).length + 1) (strs (U u) ++ [.string (B n)]))
    (hg : own4 g = some (id, .user u)) (hk : ∀ q t, own q = some (id, t) → t ≠ .users → t ≠ .user u → w'.heap[q]? = w.heap[q]?) (hs : w.heap.size ≤ w'.heap.size) :
    GW own4 id gb vm (some rb) (some ub) pt S (fun m => if m = u then U m ++ [n] else U m) w' := by
  refine ⟨ho4 _ _ h.gt, (hk gb _ h.gt (by simp) (by simp)).trans h.head, h.v0, fun q e => ?_, fun e => (by cases e), fun q e => ?_, h.ru, fun e => (by cases e), fun q e => ?_, fun r hr => ?_, h.nd, hf4⟩
  · exact ⟨ho4 _ _ (h.v1 q e).1, (h.v1 q e).2.of_block (hk q _ (h.v1 q e).1 (by simp) (by simp))⟩
  · exact ⟨ho4 _ _ (h.r1 q e).1, (h.r1 q e).2.of_block (hk q _ (h.r1 q e).1 (by simp) (by simp))⟩
  · injection e with e; subst e
    refine ⟨ho4 _ _ (h.u1 _ rfl).1, _, hm, fun m => ?_⟩
    by_cases hmu : m = u
    · subst hmu
      refine .inr ⟨_, by rw [look_putM, if_pos rfl], ?_, fun b hb' => by injection hb' with hb'; rw [← hb']; exact hg⟩
      simp only [if_true, List.length_append, List.length_singleton]
      rw [strs_app]; exact ho
    · simp only [if_neg hmu]
      rcases hu m with ⟨h0, h1⟩ | ⟨v, g1, g2, g3⟩
      · exact .inl ⟨by rw [look_putM, if_neg hmu]; exact h0, h1⟩
      · exact .inr ⟨v, by rw [look_putM, if_neg hmu]; exact g1, own_keep g2 fun b hb' => hk b _ (g3 b hb') (by simp) (by simp [hmu]), fun b hb' => ho4 _ _ (g3 b hb')⟩
  · exact ((h.rs r hr).keepT (fun b t e ht => hk b t e (by rcases ht with rfl | rfl | rfl <;> simp) (by rcases ht with rfl | rfl | rfl <;> simp)) hs).hold ho4
theorem added_user {own3 : Own} {id gb rb ub : Nat} {vm : Option Nat} {pt : Nm → PtI} {S : GS} {U : Nm → List Nm} {u n : Nm} {w2 w3 w4 : World} {v : Value} {cap g : Nat} {kv : List (Nm × Value)}
    (h : GW own3 id gb vm (some rb) (some ub) pt S U w2) (hvt : ∀ b, v.ownBlock = some b → own3 b = some (id, .user u)) (ho3 : w3.ownsRow 0 9 1 (.slice (some ⟨g, 0, none⟩) ((U u).length + 1) cap) ((U u).length + 1) (strs (U u) ++ [.string (B n)]))
    (hg3 : w2.grownBy w3 v.ownBlock) (hfr : v.ownBlock = some g ∨ w2.heap.size < g) (hlt : g < w3.heap.size) (hu : UAt own3 id U kv w2) (hm4 : SMap w4 ub (putM u (.slice (some ⟨g, 0, none⟩) ((U u).length + 1) cap) kv)) (hg4 : w3.grownBy w4 (some ub)) :
    ∃ own4, Ext own3 own4 id w2.heap.size ∧ GW own4 id gb vm (some rb) (some ub) pt S (fun m => if m = u then U m ++ [n] else U m) w4 ∧ Kp own3 id w2 w4 := by
  have hub := (h.u1 ub rfl).1
  have hubl := h.mine_lt ⟨_, hub⟩
  have hgu : g ≠ ub := fun e => by
    rcases hfr with hfr | hfr
    · have := hvt g hfr; rw [e, hub] at this; injection this with this; injection this with _ this; cases this
    · omega
  have hsz : w2.heap.size ≤ w4.heap.size := Nat.le_trans hg3.size hg4.size
  have ho4 : w4.ownsRow 0 9 1 (.slice (some ⟨g, 0, none⟩) ((U u).length + 1) cap) ((U u).length + 1) (strs (U u) ++ [.string (B n)]) := own_keep ho3 (fun b hb => by injection hb with hb; have hb : g = b := hb; subst hb; exact hg4.block _ hlt (fun e => by injection e with e; exact hgu e))
  have hk : ∀ q t, own3 q = some (id, t) → t ≠ .users → t ≠ .user u → w4.heap[q]? = w2.heap[q]? := fun q t e h1 h2 => by
    have hq := h.mine_lt ⟨t, e⟩
    refine (hg4.block q (Nat.lt_of_lt_of_le hq hg3.size) (fun e2 => ?_)).trans (hg3.block q hq (fun e2 => ?_))
    · injection e2 with e2; rw [e2, hub] at e; injection e with e; injection e with _ e; exact h1 e.symm
    · have := hvt q e2.symm; rw [e] at this; injection this with this; injection this with _ this; exact h2 this
  have hkp : Kp own3 id w2 w4 := ((Kp.refl own3 id w2).grown hg3 (fun q e _ => ⟨_, hvt q e⟩)).grown hg4 (fun q e _ => by injection e with e; subst e; exact ⟨_, hub⟩)
  rcases hfr with hfr | hfr
  · exact ⟨own3, Ext.refl own3 id _ h.fr, h.uadd2 hu (fun _ _ e => e) (fun b hb => h.fr b (Nat.le_trans hsz hb)) hm4 ho4 (hvt g hfr) hk hsz, hkp⟩
  · have hgn := h.fr g (Nat.le_of_lt hfr)
    refine ⟨tagO own3 g (id, .user u), (Ext.refl own3 id _ h.fr).tagged (Nat.le_of_lt hfr), h.uadd2 hu (fun b y e => tagO_old hgn e) (fun b hb => ?_) hm4 ho4 (by unfold tagO; rw [if_pos rfl]) hk hsz, hkp⟩
    have := hg4.size
    unfold tagO; rw [if_neg (by omega)]
    exact h.fr b (Nat.le_trans hsz hb)
theorem users_at {w w' : World} {ub : Nat} {kv : List (Nm × Value)} {u : Nm} {v : Value} (h : SMap w ub kv) (h' : SMap w' ub kv) (e : (Instr.lookup 47 (.map (some ub)) (.string (B u)) false).run Try.prog w = .ok v w) : (Instr.lookup 47 (.map (some ub)) (.string (B u)) false).run Try.prog w' = .ok v w' := by
  have h1 := (SMap.look (T := 47) (K := 9) (E := 29) Try.underlying47 Try.underlying9 h u _ (zeroSS w)).1
  have h2 := (SMap.look (T := 47) (K := 9) (E := 29) Try.underlying47 Try.underlying9 h' u _ (zeroSS w')).1
  have h3 := (Result.ok.inj (h1.symm.trans e)).1
  exact h2.trans (congrArg (fun v => Result.ok v w') h3)
theorem ruleX_name (S : GS) (needs : List Nm) (f : Option Nat) : ruleX S [] needs f = (6, S) := by unfold ruleX; rw [if_pos rfl]
theorem ruleX_empty {S : GS} {n : Nm} {needs : List Nm} (f : Option Nat) (hn : n ≠ []) (h : [] ∈ needs) : ruleX S n needs f = (6, S) := by unfold ruleX; rw [if_neg hn, if_pos h]
theorem ruleX_arg {S : GS} {n : Nm} {needs : List Nm} (hn : n ≠ []) (h : [] ∉ needs) : ruleX S n needs none = (2, S) := by unfold ruleX; rw [if_neg hn, if_neg h]
theorem ruleX_val {S : GS} {n : Nm} {needs : List Nm} {f : Nat} {v : Nm} (hn : n ≠ []) (h : [] ∉ needs) (hv : getV S.vals n = some v) : ruleX S n needs (some f) = (7, S) := by unfold ruleX; rw [if_neg hn, if_neg h]; simp [hv]
theorem ruleX_twice {S : GS} {n : Nm} {needs : List Nm} {f : Nat} {r : RuleS} (hn : n ≠ []) (h : [] ∉ needs) (hv : getV S.vals n = none) (hr : findR S.rules n = some r) : ruleX S n needs (some f) = (7, S) := by unfold ruleX; rw [if_neg hn, if_neg h]; simp [hv, hr]
theorem ruleX_many {S : GS} {n : Nm} {needs : List Nm} {f : Nat} (hn : n ≠ []) (h : [] ∉ needs) (hv : getV S.vals n = none) (hr : findR S.rules n = none) (hl : 1024 < needs.length) : ruleX S n needs (some f) = (3, S) := by unfold ruleX; rw [if_neg hn, if_neg h]; simp [hv, hr, hl]
theorem ruleX_limit {S : GS} {n : Nm} {needs : List Nm} {f : Nat} (hn : n ≠ []) (h : [] ∉ needs) (hv : getV S.vals n = none) (hr : findR S.rules n = none) (hl : 1024 ≤ S.vals.length + S.rules.length) : ruleX S n needs (some f) = (3, S) := by unfold ruleX; rw [if_neg hn, if_neg h]; simp [hv, hr, hl]
theorem ruleX_new {S : GS} {n : Nm} {needs : List Nm} {f : Nat} (hn : n ≠ []) (h : [] ∉ needs) (hv : getV S.vals n = none) (hr : findR S.rules n = none) (hl : ¬ 1024 < needs.length) (hl2 : ¬ 1024 ≤ S.vals.length + S.rules.length) :
    ruleX S n needs (some f) = (0, touchX { S with rules := S.rules ++ [newR n needs f] } n) := by unfold ruleX; rw [if_neg hn, if_neg h]; simp [hv, hr, hl, hl2, newR]
set_option maxHeartbeats 8000000 in
set_option maxRecDepth 100000 in
theorem rule_any {own : Own} {id gb R : Nat} {S : GS} (n : Nm) (needs : List Nm) (fo : Option Nat) (A : Option Addr) (m c : Nat) (w : World) (hgr : Gr own id gb S w) (hi : GI R S) (hc : S.changes ≤ 1000000) (ha : Arg own id w A m c needs) (hm : m ≤ 1000000) :
    Calls Try.prog 24 #[.pointer (some ⟨gb, 0, none⟩), .string (B n), .slice A m c, fnO fo] w (GPost own id gb (ruleX S n needs fo).2 (.int .i64 ((ruleX S n needs fo).1 : Int)) w) := by
  obtain ⟨X, hX⟩ : ∃ X, X = ruleX S n needs fo := ⟨_, rfl⟩
  rw [← hX]
  have HX := Lib.hid hX
  clear hX
  have HGR := Lib.hid hgr
  have HSZ := Lib.hid hi.size
  have HRL : Hid (S.rules.length ≤ 10000) := Lib.hid (by have := hi.size; omega)
  have HNL : Hid (needs.length = m) := Lib.hid ha.rd.strs_length
  have HA := Lib.hid ha
  obtain ⟨vm, rm, um, pt, U, h, hU⟩ := hgr
  have HU := Lib.hid hU
  have HH := Lib.hid h
  have hn0 := B_nil n
  have hfn := run_fnil_none
  have hfs := run_fnil_some
  have HSELF : Hid (∀ (k : Nat) (q : Nat), GPost own id gb S (.int .i64 (k : Int)) w (.returned (.int .i64 (k : Int))) (w.drewN q)) := Lib.hid fun k q => ⟨rfl, own, Ext.refl own id _ h.fr, HGR.out.drewN q, (Kp.refl _ _ _).drewN q⟩
  by_cases hne : n = []
  · have HXX : Hid (X = (6, S)) := by rw [HX.out, hne, ruleX_name]; rfl
    have hd : decide (n = []) = true := by simpa using hne
    rw [hd] at hn0
    have hn1 : List.isEmpty n = true := by rw [hne]; rfl
    clear hd hne h hU
    go_enter Try.func24, Try.ntmps24
    go_wp2
    rw [HXX.out]
    go_ret
    exact HSELF.out 6 0
  have hd : decide (n = []) = false := by simpa using hne
  rw [hd] at hn0
  have HN := Lib.hid hne
  have hn1 : List.isEmpty n = false := by cases n with | nil => exact absurd rfl hne | cons _ _ => rfl
  clear hd hne
  have HCO := Lib.hid (contains_any A m c needs w ha.rd hm)
  by_cases he : ([] : Nm) ∈ needs
  · have HXX : Hid (X = (6, S)) := by rw [HX.out, ruleX_empty fo HN.out he]; rfl
    have hd : decide (([] : Nm) ∈ needs) = true := by simpa using he
    rw [hd] at HCO
    clear hd he h hU
    go_enter Try.func24, Try.ntmps24
    go_wp2_with fail
    refine HCO.out.mono ?_
    rintro e w1 ⟨rfl, rfl⟩
    go_wp2
    rw [HXX.out]
    go_ret
    exact HSELF.out 6 0
  have hd : decide (([] : Nm) ∈ needs) = false := by simpa using he
  rw [hd] at HCO
  have HE := Lib.hid he
  clear hd he
  cases fo with
  | none =>
    have HXX : Hid (X = (2, S)) := by rw [HX.out, ruleX_arg HN.out HE.out]; rfl
    simp only [fnO]
    clear h hU
    go_enter Try.func24, Try.ntmps24
    go_wp2_with fail
    refine HCO.out.mono ?_
    rintro e w1 ⟨rfl, rfl⟩
    go_wp2
    rw [HXX.out]
    go_ret
    exact HSELF.out 2 0
  | some f =>
    simp only [fnO, fnV_eq]
    have HFI : Hid (fnV f = .func (.func (fnId f)) #[] #[]) := Lib.hid (fnV_eq f)
    have c0 := h.c0
    have c1 := h.c1
    have lv := h.lookV n
    have HSC := Lib.hid (fun W (h : GW own id gb vm rm um pt S U W) => size_any W h (by have := HSZ.out; omega))
    cases hv : getV S.vals n with
    | some v =>
      rw [hv] at lv
      simp only [Option.getD_some, Option.isSome_some] at lv
      have HXX : Hid (X = (7, S)) := by rw [HX.out, ruleX_val HN.out HE.out hv]; rfl
      clear h hU hv
      generalize fnId f = K at *
      go_enter Try.func24, Try.ntmps24
      go_wp2_with fail
      refine HCO.out.mono ?_
      rintro e w1 ⟨rfl, rfl⟩
      go_wp2
      rw [HXX.out]
      go_ret
      exact HSELF.out 7 0
    | none =>
      rw [hv] at lv
      simp only [Option.getD_none, Option.isSome_none] at lv
      cases hr : findR S.rules n with
      | some r =>
        have lr := h.lookR_some hr
        have HXX : Hid (X = (7, S)) := by rw [HX.out, ruleX_twice HN.out HE.out hv hr]; rfl
        clear h hU hv hr
        generalize fnId f = K at *
        go_enter Try.func24, Try.ntmps24
        go_wp2_with fail
        refine HCO.out.mono ?_
        rintro e w1 ⟨rfl, rfl⟩
        go_wp2
        rw [HXX.out]
        go_ret
        exact HSELF.out 7 0
      | none =>
        have lr := h.lookR_none hr
        by_cases hl : 1024 < needs.length
        · have HXX : Hid (X = (3, S)) := by rw [HX.out, ruleX_many HN.out HE.out hv hr hl]; rfl
          have hge : decide ((m : Int) > 1024) = true := by rw [← HNL.out]; simp; omega
          clear h hU hv hr hl
          generalize fnId f = K at *
          go_enter Try.func24, Try.ntmps24
          go_wp2_with fail
          refine HCO.out.mono ?_
          rintro e w1 ⟨rfl, rfl⟩
          go_wp2
          rw [HXX.out]
          go_ret
          exact HSELF.out 3 0
        have hgm : decide ((m : Int) > 1024) = false := by rw [← HNL.out]; simp; omega
        by_cases hl2 : 1024 ≤ S.vals.length + S.rules.length
        · have HXX : Hid (X = (3, S)) := by rw [HX.out, ruleX_limit HN.out HE.out hv hr hl2]; rfl
          have hge : decide ((((S.vals.length + S.rules.length : Nat) : Int)) ≥ 1024) = true := by simp; omega
          clear h hU hv hr hl hl2
          generalize fnId f = K at *
          generalize S.vals.length + S.rules.length = N at *
          go_enter Try.func24, Try.ntmps24
          go_wp2_with fail
          refine HCO.out.mono ?_
          rintro e w1 ⟨rfl, rfl⟩
          go_wp2_with fail
          refine (HSC.out _ HH.out).mono ?_
          rintro e w2 ⟨rfl, q, rfl⟩
          go_wp2
          rw [HXX.out]
          go_ret
          exact HSELF.out 3 q
        have HXX : Hid (X = (0, touchX { S with rules := S.rules ++ [newR n needs f] } n)) := by rw [HX.out, ruleX_new HN.out HE.out hv hr hl hl2]; rfl
        have hge : decide ((((S.vals.length + S.rules.length : Nat) : Int)) ≥ 1024) = false := by simp; omega
        have HRN := Lib.hid hr
        have HML : Hid (m ≤ 1024) := Lib.hid (by have := HNL.out; omega)
        have HSM : Hid (S.rules.length + 1 ≤ 10000) := Lib.hid (by omega)
        clear h hU hv hr hl hl2
        generalize hNN : S.vals.length + S.rules.length = N at hge HSC
        clear hNN
        generalize hKK : fnId f = K at *
        have HKK := Lib.hid hKK
        clear hKK
        go_enter Try.func24, Try.ntmps24
        go_wp2_with fail
        refine HCO.out.mono ?_
        rintro e w1 ⟨rfl, rfl⟩
        go_wp2_with fail
        refine (HSC.out _ HH.out).mono ?_
        rintro e w2 ⟨rfl, q, rfl⟩
        have HW1 := Lib.hid (HH.out.below (below_of_drewN _ w1 q))
        have HK1 := Lib.hid ((Kp.refl own id w1).drewN q)
        have HA1 := Lib.hid (HA.out.kp HK1.out)
        have hkn := run_isnilR_none
        have hks := run_isnilR_some
        have hmr := run_mkRules
        have hmu := run_mkUsers
        have hmk := run_mkSet
        go_upto_region 12 with fail
        clear HSC lv lr hn1 c0 c1 hfn hfs hgm hge HCO
        have c1 := HW1.out.c1
        generalize w1.drewN q = w2 at HW1 HK1 HA1 c1 ⊢
        have HFR := Lib.hid HH.out.fr
        have HRU := Lib.hid HW1.out.ru
        clear HH HGR HSELF
        rcases rm with _ | rb
        · obtain rfl : um = none := HRU.out.1 rfl
          have hh0 := (HW1.out.alloc (.map #[] 0)).head
          have c1a := (HW1.out.alloc (.map #[] 0)).c1
          have z1a := (HW1.out.alloc (.map #[] 0)).free 1
          have hh1 : ((w2.alloc (.map #[] 0)).setCell ⟨gb, 1, none⟩ (.map (some w2.heap.size))).heap[gb]? = some (.cells #[.map vm, .map (some w2.heap.size), .map none, .int .i64 (S.runs : Int), .int .i64 (S.changes : Int)] 49 (0, 0)) := by simp [World.setCell, Array.getElem?_modify, hh0]
          go_upto_region 14 with fail
          generalize hw3 : (w2.alloc (.map #[] 0)).setCell ⟨gb, 1, none⟩ (.map (some w2.heap.size)) = w3 at hh1 ⊢
          have HLT : Hid (gb < w2.heap.size) := Lib.hid HW1.out.lt
          have hs3 : w3.heap.size = w2.heap.size + 1 := by rw [← hw3]; simp [World.setCell]
          have hb3 : w3.heap[w2.heap.size]? = some (.map #[] 0) := by rw [← hw3, Below.heap_setCell _ _ _ _ (show w2.heap.size ≠ gb by have := HLT.out; omega)]; exact heap_alloc_new w2 _
          have hk3 : ∀ q, q < w2.heap.size → q ≠ gb → w3.heap[q]? = w2.heap[q]? := fun q hq hne => by rw [← hw3, Below.heap_setCell _ _ _ q hne, Lib.alloc_old _ _ _ hq]
          have hp3 : Kp own id w1 w3 := by rw [← hw3]; exact (HK1.out.alloc _).setCell (fun _ => ⟨_, HW1.out.gt⟩)
          clear hw3 c1a z1a c1 hh0
          have HS3 := Lib.hid hs3
          clear hs3
          have hh2 : (w3.alloc (.map #[] 0)).heap[gb]? = some (.cells #[.map vm, .map (some w2.heap.size), .map none, .int .i64 (S.runs : Int), .int .i64 (S.changes : Int)] 49 (0, 0)) := by
            rw [Lib.alloc_old _ _ _ (by have := HLT.out; have := HS3.out; omega)]; exact hh1
          have c2a : (w3.alloc (.map #[] 0)).cell? ⟨gb, 2, none⟩ = some (.map none) := by simp only [World.cell?, hh2]; rfl
          have z2a : (w3.alloc (.map #[] 0)).frozen? ⟨gb, 2, none⟩ = false := by simp only [World.frozen?, hh2]; rfl
          have hh4 : ((w3.alloc (.map #[] 0)).setCell ⟨gb, 2, none⟩ (.map (some w3.heap.size))).heap[gb]? = some (.cells #[.map vm, .map (some w2.heap.size), .map (some w3.heap.size), .int .i64 (S.runs : Int), .int .i64 (S.changes : Int)] 49 (0, 0)) := by simp [World.setCell, Array.getElem?_modify, hh2]
          go_upto_region 15 with fail
          have hs3 := HS3.out
          generalize hw4 : (w3.alloc (.map #[] 0)).setCell ⟨gb, 2, none⟩ (.map (some w3.heap.size)) = w4 at hh4 ⊢
          have hs4 : w4.heap.size = w2.heap.size + 2 := by rw [← hw4]; simp [World.setCell, hs3]
          have hk4 : ∀ q, q < w3.heap.size → q ≠ gb → w4.heap[q]? = w3.heap[q]? := fun q hq hne => by rw [← hw4, Below.heap_setCell _ _ _ q hne, Lib.alloc_old _ _ _ hq]
          have hb4 : w4.heap[w3.heap.size]? = some (.map #[] 0) := by rw [← hw4, Below.heap_setCell _ _ _ _ (show w3.heap.size ≠ gb by have := HLT.out; omega)]; exact heap_alloc_new w3 _
          have hp4 : Kp own id w1 w4 := by rw [← hw4]; exact (hp3.alloc _).setCell (fun _ => ⟨_, HW1.out.gt⟩)
          rw [hs3] at hh4 hb4 hk4
          have hgw2 := HW1.out.rnew hh4 ((hk4 _ (by omega) (by have := HLT.out; omega)).trans hb3) hb4 hs4 (fun q hq hne => (hk4 q (by omega) hne).trans (hk3 q hq hne))
          have hext : Ext own (tagO (tagO own w2.heap.size (id, .rules)) (w2.heap.size + 1) (id, .users)) id w1.heap.size := ((Ext.refl own id w1.heap.size HFR.out).tagged HK1.out.size).tagged (Nat.le_succ_of_le HK1.out.size)
          have harg := (HA.out.ext hext (Nat.le_refl _)).kp (hp4.ext hext)
          generalize tagO (tagO own w2.heap.size (id, .rules)) (w2.heap.size + 1) (id, .users) = own1 at hgw2 hext harg
          clear hh2 hh4 c2a z2a hs3 hs4 hk3 hk4 hb3 hb4 hp3 hw4 hh1
          rw [show w3.heap.size = w2.heap.size + 1 from HS3.out]
          generalize w2.heap.size + 1 = ub at hgw2 ⊢
          generalize w2.heap.size = rb at hgw2 ⊢

          have H2 := Lib.hid (And.intro hgw2 (And.intro hext (And.intro hp4 harg)))
          have k1 := hgw2.c1
          clear hgw2 hext hp4 harg
          have HCL := Lib.hid (clone_any A m c needs w4.drew H2.out.2.2.2.rd (by have := HML.out; omega))
          clear hkn hks hmr hmu hn0
          go_region_held3 (fun w' => w'.cell? ⟨gb, 1, none⟩ = some (.map (some rb))) (first | exact HSW3 | exact HSW2 | exact HSW | exact k1)
            (first | (go_at_call 40; refine HCL.out.mono ?_; rintro e w7 ⟨v7, rfl, ho7, hb7⟩; obtain ⟨A7, c7, rfl, hc7⟩ := own_form ho7; have HSW := keeps hb7 (Nat.le_refl _) k1; have hG7 := ((H2.out.1.drew).below hb7).alloc (.cells #[.slice A7 m c7, .func (.func K) #[] #[], .bool false, .slice none 0 0, .string ⟨#[]⟩, .int .i64 0, .bool true, .bool false] 71); have HSW2 := hG7.c1; obtain ⟨w10, hrun, hm10, hg10⟩ := SMap.store (T := 46) (K := 9) (E := 54) Try.underlying46 Try.underlying9 (hG7.r1 rb rfl).2 n (.pointer (some ⟨w7.heap.size, 0, none⟩)); have HSW3 : w10.cell? ⟨gb, 1, none⟩ = some (.map (some rb)) := (World.cell?_of_block (a := ⟨gb, 1, none⟩) (hg10.block gb hG7.lt (fun e => by injection e with e; have h1 := hG7.gt; rw [e, (hG7.r1 rb rfl).1] at h1; injection h1 with h1; injection h1 with _ h1; cases h1))).trans HSW2))
          obtain ⟨own2, pt2, hx, hgw, hkp, hag⟩ := laid_rule H2.out.1 H2.out.2.1 H2.out.2.2.1 H2.out.2.2.2 HRN.out HNL.out HFI.out ho7 hc7 hb7 hm10 hg10
          have hli : LI own id gb vm rb ub pt2 S n needs f w10.heap.size own2 [] w1 (w10.alloc (.map #[] 0)) :=
            ⟨⟨U, hgw.alloc _, fun m => by rw [HU.out m]; simp [usN]⟩, hx, hkp.alloc _, SMap.made w10, hgw.fr _ (Nat.le_refl _), hkp.size⟩
          have HLI := Lib.hid hli
          clear hli hx hgw hkp hag ho7 hc7 hb7 hG7 hm10 hg10 hrun HSW HSW2 HSW3 HCL H2 k1
          go_wp2
          generalize w10.heap.size = kb at HLI ⊢
          go_loopg [77] m (fun j i wr => ∃ (k : Nat) (kn : List Nm) (own3 : Own), Hid (j = m - k) ∧ k ≤ m ∧ i = .int .i64 (k : Int) ∧ Hid (∀ x, x ∈ kn ↔ x ∈ needs.take k) ∧ Hid (LI own id gb vm rb ub pt2 S n needs f kb own3 kn w1 wr))
          case atStart => exact ⟨0, [], own2, rfl, Nat.zero_le _, rfl, Lib.hid (by simp), HLI⟩
          case round =>
            clear HLI
            obtain ⟨k, kn, own3, hj, hk, rfl, hkn, hli⟩ := hrel
            by_cases hlt : k < m
            · have hlt2 : k < needs.length := by rw [HNL.out]; exact hlt
              have hgk : needs[k]? = some needs[k] := List.getElem?_eq_getElem hlt2
              have HTK : Hid (∀ x, x ∈ needs.take (k + 1) ↔ x ∈ needs.take k ∨ x = needs[k]) := Lib.hid (fun x => by rw [List.take_succ_eq_append_getElem hlt2, List.mem_append, List.mem_singleton])
              have harg := HA.out.kp hli.out.kp
              obtain ⟨b2, o2, rfl, _, hcu⟩ := rd_get harg.rd hgk
              generalize needs[k] = u at *
              have hlk := look_seen hli.out.mp u
              have j1 : (0 : Int) ≤ (k : Int) := by omega
              have j2 : (k : Int) < (m : Int) := by omega
              clear hgk harg
              by_cases hin : u ∈ kn
              · have hd : decide (u ∈ kn) = true := by simpa using hin
                rw [hd] at hlk
                have HKN : Hid (∀ x, x ∈ kn ↔ x ∈ needs.take (k + 1)) := Lib.hid (fun x => by
                  rw [HTK.out x, ← hkn.out x]
                  constructor
                  · exact .inl
                  · rintro (h | rfl); exact h; exact hin)
                clear hd hin
                go_wp2
                go_roundg (m - (k + 1))
                case rel => exact ⟨k + 1, kn, own3, rfl, by omega, by go_num, HKN, hli⟩
                case measure => have := hj.out; omega
              · have hd : decide (u ∈ kn) = false := by simpa using hin
                rw [hd] at hlk
                have HIN := Lib.hid hin
                have HKN : Hid (∀ x, x ∈ kn ++ [u] ↔ x ∈ needs.take (k + 1)) := Lib.hid (fun x => by
                  rw [HTK.out x, ← hkn.out x, List.mem_append, List.mem_singleton])
                have hmp := hli.out.mp
                clear hd hin
                go_wp2_with (refine wpList_put rfl 62 9 4 _ _ _ rfl Try.underlying62 Try.underlying9 kb (seenM kn) hmp rfl u rfl (.bool true) rfl ?_)
                intro w5 hm5 hg5
                rw [putM_seen HIN.out] at hm5
                obtain ⟨U3, hgw3, hU3⟩ := hli.out.gw
                have hkbn := hli.out.ok
                have hgw5 := hgw3.grown hg5 (fun q e => by injection e with e; rw [← e]; exact hkbn)
                have hkp5 := hli.out.kp.grown hg5 (fun q e hq => by injection e with e; have := hli.out.hk; omega)
                have H5 := Lib.hid (And.intro hgw5 (And.intro hkp5 (And.intro hm5 (And.intro hli.out.ext (And.intro hkbn hli.out.hk)))))
                have HU3 := Lib.hid hU3
                clear hmp hlk hgw3 hU3 hkbn hgw5 hkp5 hm5 hg5 hcu
                go_upto_region 22 with fail
                have c2w5 := H5.out.1.c2
                have c2w5b := (H5.out.1.alloc (.cells #[.string (B n)] 9)).c2
                obtain ⟨A2, cc2, hlk1, _, hmore⟩ := (H5.out.1.drew).users u
                obtain ⟨hub, kv, hskv, hu, hrow, htag⟩ := hmore ub rfl
                have hlk2 := users_at hskv (hskv.alloc (.cells #[.string (B n)] 9)) hlk1
                have hlk3 := users_at (w' := (w5.alloc (.cells #[.string (B n)] 9)).drew) hskv (hskv.alloc (.cells #[.string (B n)] 9)) hlk1
                have hul : (U3 u).length ≤ 20000 := by
                  rw [HU3.out u]; unfold usN
                  have := users_len S.rules u
                  have := HRL.out
                  split
                  · rw [List.length_append, List.length_singleton]; omega
                  · omega
                have HMO := Lib.hid (And.intro hub (And.intro hskv (And.intro hu htag)))
                clear hmore hub hskv hu htag
                go_region_law (refine step_appS (by rfl) (.tmp 97) (.tmp 99) (by rfl) w5.drew n (.slice A2 (U3 u).length cc2) (U3 u).length (strs (U3 u)) hrow rfl rfl (by omega) ?_; intro g cap w6 ho6 hg6 hfr6 hlt6; have hne6 : ∀ q t, own3 q = some (id, t) → t ≠ .user u → some q ≠ (Value.slice A2 (U3 u).length cc2).ownBlock := (fun q t e ht e2 => by have := HMO.out.2.2.2 q e2.symm; rw [e] at this; injection this with this; injection this with _ this; exact ht this); have c2w6 : w6.cell? ⟨gb, 2, none⟩ = some (.map (some ub)) := (World.cell?_of_block (a := ⟨gb, 2, none⟩) (hg6.block gb H5.out.1.lt (hne6 gb _ H5.out.1.gt (by simp)))).trans c2w5; have hs6 := HMO.out.2.1.of_block (hg6.block ub HMO.out.2.1.lt (hne6 ub _ HMO.out.1 (by simp))); obtain ⟨w7, hrun, hm7, hg7⟩ := SMap.store (T := 47) (K := 9) (E := 29) Try.underlying47 Try.underlying9 hs6 u (.slice (some ⟨g, 0, none⟩) ((U3 u).length + 1) cap))
                all_goals
                  obtain ⟨own4, hx4, hgw4, hkp4⟩ := added_user H5.out.1.drew HMO.out.2.2.2 ho6 hg6 hfr6 hlt6 HMO.out.2.2.1 hm7 hg7
                  have hkl : kb < w5.heap.size := H5.out.2.2.1.lt
                  have hli7 : LI own id gb vm rb ub pt2 S n needs f kb own4 (kn ++ [u]) w1 w7 :=
                    ⟨⟨_, hgw4, usN_snoc S n kn u HIN.out U3 HU3.out⟩, H5.out.2.2.2.1.trans hx4 H5.out.2.1.size, H5.out.2.1.drew.trans2 hkp4 H5.out.2.2.2.1,
                     (H5.out.2.2.1.of_block (w := w5) ((hg7.block kb (Nat.lt_of_lt_of_le hkl hg6.size) (fun e => by injection e with e; have := HMO.out.1; rw [← e, H5.out.2.2.2.2.1] at this; cases this)).trans (hg6.block kb hkl (fun e => by have := HMO.out.2.2.2 kb e.symm; rw [H5.out.2.2.2.2.1] at this; cases this)))),
                     by rw [hx4.old kb hkl]; exact H5.out.2.2.2.2.1, H5.out.2.2.2.2.2⟩
                  have HL7 := Lib.hid hli7
                  clear hli7 hx4 hgw4 hkp4 hkl hrun hm7 hg7 ho6 hg6 hfr6 hlt6 hne6 c2w6 hs6 hlk1 hlk2 hlk3 hrow c2w5 c2w5b
                  go_wp2
                  go_roundg (m - (k + 1))
                  case rel => exact ⟨k + 1, kn ++ [u], own4, rfl, by omega, by go_num, HKN, HL7⟩
                  case measure => have := hj.out; omega
            · obtain rfl : k = m := by omega
              obtain ⟨U3, hgw3, hU3⟩ := hli.out.gw
              have hUU : ∀ x, U3 x = usersOf (S.rules ++ [newR n needs f]) x := fun x => (hU3 x).trans (users_new S n needs f kn (fun y => by rw [hkn.out y, ← HNL.out, List.take_length]) x)
              have CT := Lib.hid (touch_any n wr hgw3 hUU (by show (S.rules ++ [newR n needs f]).length ≤ 10000; rw [List.length_append, List.length_singleton]; exact HSM.out) hc)
              have HUU := Lib.hid hUU
              clear hgw3 hU3 hUU
              go_wp2_with fail
              refine CT.out.mono ?_
              rintro e w5 ⟨rfl, hgw5, hkp5⟩
              have HF : Hid (GPost own id gb (touchX { S with rules := S.rules ++ [newR n needs f] } n) (.int .i64 ((0 : Nat) : Int)) w1 (.returned (.int .i64 ((0 : Nat) : Int))) w5) := Lib.hid ⟨rfl, own3, hli.out.ext, ⟨_, _, _, _, _, hgw5, fun x => (HUU.out x).trans (markS_users _ (S.rules ++ [newR n needs f]) x).symm⟩, hli.out.kp.trans2 hkp5 hli.out.ext⟩
              clear hgw5 hkp5 CT
              go_wp2
              rw [HXX.out]
              go_ret
              exact HF.out
        · obtain ⟨ub, rfl⟩ : ∃ ub, um = some ub := by
            cases hu : um with
            | none => have := HRU.out.2 hu; cases this
            | some ub => exact ⟨ub, rfl⟩
          go_upto_region 15 with fail
          obtain ⟨own1, ho1⟩ : ∃ o, o = own := ⟨_, rfl⟩
          have hgw2 : GW own1 id gb vm (some rb) (some ub) pt S U w2 := by rw [ho1]; exact HW1.out
          have hext : Ext own own1 id w1.heap.size := by rw [ho1]; exact Ext.refl own id _ HFR.out
          have harg : Arg own1 id w2 A m c needs := by rw [ho1]; exact HA1.out
          have hp4 := HK1.out
          obtain ⟨w4, hw4⟩ : ∃ w4, w4 = w2 := ⟨_, rfl⟩
          subst hw4
          clear HW1 HK1 HA1 HRU ho1 c1

          have H2 := Lib.hid (And.intro hgw2 (And.intro hext (And.intro hp4 harg)))
          have k1 := hgw2.c1
          clear hgw2 hext hp4 harg
          have HCL := Lib.hid (clone_any A m c needs w4.drew H2.out.2.2.2.rd (by have := HML.out; omega))
          clear hkn hks hmr hmu hn0
          go_region_held3 (fun w' => w'.cell? ⟨gb, 1, none⟩ = some (.map (some rb))) (first | exact HSW3 | exact HSW2 | exact HSW | exact k1)
            (first | (go_at_call 40; refine HCL.out.mono ?_; rintro e w7 ⟨v7, rfl, ho7, hb7⟩; obtain ⟨A7, c7, rfl, hc7⟩ := own_form ho7; have HSW := keeps hb7 (Nat.le_refl _) k1; have hG7 := ((H2.out.1.drew).below hb7).alloc (.cells #[.slice A7 m c7, .func (.func K) #[] #[], .bool false, .slice none 0 0, .string ⟨#[]⟩, .int .i64 0, .bool true, .bool false] 71); have HSW2 := hG7.c1; obtain ⟨w10, hrun, hm10, hg10⟩ := SMap.store (T := 46) (K := 9) (E := 54) Try.underlying46 Try.underlying9 (hG7.r1 rb rfl).2 n (.pointer (some ⟨w7.heap.size, 0, none⟩)); have HSW3 : w10.cell? ⟨gb, 1, none⟩ = some (.map (some rb)) := (World.cell?_of_block (a := ⟨gb, 1, none⟩) (hg10.block gb hG7.lt (fun e => by injection e with e; have h1 := hG7.gt; rw [e, (hG7.r1 rb rfl).1] at h1; injection h1 with h1; injection h1 with _ h1; cases h1))).trans HSW2))
          obtain ⟨own2, pt2, hx, hgw, hkp, hag⟩ := laid_rule H2.out.1 H2.out.2.1 H2.out.2.2.1 H2.out.2.2.2 HRN.out HNL.out HFI.out ho7 hc7 hb7 hm10 hg10
          have hli : LI own id gb vm rb ub pt2 S n needs f w10.heap.size own2 [] w1 (w10.alloc (.map #[] 0)) :=
            ⟨⟨U, hgw.alloc _, fun m => by rw [HU.out m]; simp [usN]⟩, hx, hkp.alloc _, SMap.made w10, hgw.fr _ (Nat.le_refl _), hkp.size⟩
          have HLI := Lib.hid hli
          clear hli hx hgw hkp hag ho7 hc7 hb7 hG7 hm10 hg10 hrun HSW HSW2 HSW3 HCL H2 k1
          go_wp2
          generalize w10.heap.size = kb at HLI ⊢
          go_loopg [77] m (fun j i wr => ∃ (k : Nat) (kn : List Nm) (own3 : Own), Hid (j = m - k) ∧ k ≤ m ∧ i = .int .i64 (k : Int) ∧ Hid (∀ x, x ∈ kn ↔ x ∈ needs.take k) ∧ Hid (LI own id gb vm rb ub pt2 S n needs f kb own3 kn w1 wr))
          case atStart => exact ⟨0, [], own2, rfl, Nat.zero_le _, rfl, Lib.hid (by simp), HLI⟩
          case round =>
            clear HLI
            obtain ⟨k, kn, own3, hj, hk, rfl, hkn, hli⟩ := hrel
            by_cases hlt : k < m
            · have hlt2 : k < needs.length := by rw [HNL.out]; exact hlt
              have hgk : needs[k]? = some needs[k] := List.getElem?_eq_getElem hlt2
              have HTK : Hid (∀ x, x ∈ needs.take (k + 1) ↔ x ∈ needs.take k ∨ x = needs[k]) := Lib.hid (fun x => by rw [List.take_succ_eq_append_getElem hlt2, List.mem_append, List.mem_singleton])
              have harg := HA.out.kp hli.out.kp
              obtain ⟨b2, o2, rfl, _, hcu⟩ := rd_get harg.rd hgk
              generalize needs[k] = u at *
              have hlk := look_seen hli.out.mp u
              have j1 : (0 : Int) ≤ (k : Int) := by omega
              have j2 : (k : Int) < (m : Int) := by omega
              clear hgk harg
              by_cases hin : u ∈ kn
              · have hd : decide (u ∈ kn) = true := by simpa using hin
                rw [hd] at hlk
                have HKN : Hid (∀ x, x ∈ kn ↔ x ∈ needs.take (k + 1)) := Lib.hid (fun x => by
                  rw [HTK.out x, ← hkn.out x]
                  constructor
                  · exact .inl
                  · rintro (h | rfl); exact h; exact hin)
                clear hd hin
                go_wp2
                go_roundg (m - (k + 1))
                case rel => exact ⟨k + 1, kn, own3, rfl, by omega, by go_num, HKN, hli⟩
                case measure => have := hj.out; omega
              · have hd : decide (u ∈ kn) = false := by simpa using hin
                rw [hd] at hlk
                have HIN := Lib.hid hin
                have HKN : Hid (∀ x, x ∈ kn ++ [u] ↔ x ∈ needs.take (k + 1)) := Lib.hid (fun x => by
                  rw [HTK.out x, ← hkn.out x, List.mem_append, List.mem_singleton])
                have hmp := hli.out.mp
                clear hd hin
                go_wp2_with (refine wpList_put rfl 62 9 4 _ _ _ rfl Try.underlying62 Try.underlying9 kb (seenM kn) hmp rfl u rfl (.bool true) rfl ?_)
                intro w5 hm5 hg5
                rw [putM_seen HIN.out] at hm5
                obtain ⟨U3, hgw3, hU3⟩ := hli.out.gw
                have hkbn := hli.out.ok
                have hgw5 := hgw3.grown hg5 (fun q e => by injection e with e; rw [← e]; exact hkbn)
                have hkp5 := hli.out.kp.grown hg5 (fun q e hq => by injection e with e; have := hli.out.hk; omega)
                have H5 := Lib.hid (And.intro hgw5 (And.intro hkp5 (And.intro hm5 (And.intro hli.out.ext (And.intro hkbn hli.out.hk)))))
                have HU3 := Lib.hid hU3
                clear hmp hlk hgw3 hU3 hkbn hgw5 hkp5 hm5 hg5 hcu
                go_upto_region 22 with fail
                have c2w5 := H5.out.1.c2
                have c2w5b := (H5.out.1.alloc (.cells #[.string (B n)] 9)).c2
                obtain ⟨A2, cc2, hlk1, _, hmore⟩ := (H5.out.1.drew).users u
                obtain ⟨hub, kv, hskv, hu, hrow, htag⟩ := hmore ub rfl
                have hlk2 := users_at hskv (hskv.alloc (.cells #[.string (B n)] 9)) hlk1
                have hlk3 := users_at (w' := (w5.alloc (.cells #[.string (B n)] 9)).drew) hskv (hskv.alloc (.cells #[.string (B n)] 9)) hlk1
                have hul : (U3 u).length ≤ 20000 := by
                  rw [HU3.out u]; unfold usN
                  have := users_len S.rules u
                  have := HRL.out
                  split
                  · rw [List.length_append, List.length_singleton]; omega
                  · omega
                have HMO := Lib.hid (And.intro hub (And.intro hskv (And.intro hu htag)))
                clear hmore hub hskv hu htag
                go_region_law (refine step_appS (by rfl) (.tmp 97) (.tmp 99) (by rfl) w5.drew n (.slice A2 (U3 u).length cc2) (U3 u).length (strs (U3 u)) hrow rfl rfl (by omega) ?_; intro g cap w6 ho6 hg6 hfr6 hlt6; have hne6 : ∀ q t, own3 q = some (id, t) → t ≠ .user u → some q ≠ (Value.slice A2 (U3 u).length cc2).ownBlock := (fun q t e ht e2 => by have := HMO.out.2.2.2 q e2.symm; rw [e] at this; injection this with this; injection this with _ this; exact ht this); have c2w6 : w6.cell? ⟨gb, 2, none⟩ = some (.map (some ub)) := (World.cell?_of_block (a := ⟨gb, 2, none⟩) (hg6.block gb H5.out.1.lt (hne6 gb _ H5.out.1.gt (by simp)))).trans c2w5; have hs6 := HMO.out.2.1.of_block (hg6.block ub HMO.out.2.1.lt (hne6 ub _ HMO.out.1 (by simp))); obtain ⟨w7, hrun, hm7, hg7⟩ := SMap.store (T := 47) (K := 9) (E := 29) Try.underlying47 Try.underlying9 hs6 u (.slice (some ⟨g, 0, none⟩) ((U3 u).length + 1) cap))
                all_goals
                  obtain ⟨own4, hx4, hgw4, hkp4⟩ := added_user H5.out.1.drew HMO.out.2.2.2 ho6 hg6 hfr6 hlt6 HMO.out.2.2.1 hm7 hg7
                  have hkl : kb < w5.heap.size := H5.out.2.2.1.lt
                  have hli7 : LI own id gb vm rb ub pt2 S n needs f kb own4 (kn ++ [u]) w1 w7 :=
                    ⟨⟨_, hgw4, usN_snoc S n kn u HIN.out U3 HU3.out⟩, H5.out.2.2.2.1.trans hx4 H5.out.2.1.size, H5.out.2.1.drew.trans2 hkp4 H5.out.2.2.2.1,
                     (H5.out.2.2.1.of_block (w := w5) ((hg7.block kb (Nat.lt_of_lt_of_le hkl hg6.size) (fun e => by injection e with e; have := HMO.out.1; rw [← e, H5.out.2.2.2.2.1] at this; cases this)).trans (hg6.block kb hkl (fun e => by have := HMO.out.2.2.2 kb e.symm; rw [H5.out.2.2.2.2.1] at this; cases this)))),
                     by rw [hx4.old kb hkl]; exact H5.out.2.2.2.2.1, H5.out.2.2.2.2.2⟩
                  have HL7 := Lib.hid hli7
                  clear hli7 hx4 hgw4 hkp4 hkl hrun hm7 hg7 ho6 hg6 hfr6 hlt6 hne6 c2w6 hs6 hlk1 hlk2 hlk3 hrow c2w5 c2w5b
                  go_wp2
                  go_roundg (m - (k + 1))
                  case rel => exact ⟨k + 1, kn ++ [u], own4, rfl, by omega, by go_num, HKN, HL7⟩
                  case measure => have := hj.out; omega
            · obtain rfl : k = m := by omega
              obtain ⟨U3, hgw3, hU3⟩ := hli.out.gw
              have hUU : ∀ x, U3 x = usersOf (S.rules ++ [newR n needs f]) x := fun x => (hU3 x).trans (users_new S n needs f kn (fun y => by rw [hkn.out y, ← HNL.out, List.take_length]) x)
              have CT := Lib.hid (touch_any n wr hgw3 hUU (by show (S.rules ++ [newR n needs f]).length ≤ 10000; rw [List.length_append, List.length_singleton]; exact HSM.out) hc)
              have HUU := Lib.hid hUU
              clear hgw3 hU3 hUU
              go_wp2_with fail
              refine CT.out.mono ?_
              rintro e w5 ⟨rfl, hgw5, hkp5⟩
              have HF : Hid (GPost own id gb (touchX { S with rules := S.rules ++ [newR n needs f] } n) (.int .i64 ((0 : Nat) : Int)) w1 (.returned (.int .i64 ((0 : Nat) : Int))) w5) := Lib.hid ⟨rfl, own3, hli.out.ext, ⟨_, _, _, _, _, hgw5, fun x => (HUU.out x).trans (markS_users _ (S.rules ++ [newR n needs f]) x).symm⟩, hli.out.kp.trans2 hkp5 hli.out.ext⟩
              clear hgw5 hkp5 CT
              go_wp2
              rw [HXX.out]
              go_ret
              exact HF.out
end Go.Proofs.Ytbikldmhfaecpaa
