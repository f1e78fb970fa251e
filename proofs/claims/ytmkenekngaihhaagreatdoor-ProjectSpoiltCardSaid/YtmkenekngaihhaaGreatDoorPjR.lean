/-
  Layer 49 (project): a project while it is read: its rows are of the call's own.
-/
import Derived.Test.YtmkenekngaihhaaGreatDoorPjO
import Derived.Test.YtmkenekngaihhaaGreatDoorStepApp
namespace Go.Proofs.YtmkenekngaihhaaGreatDoor
open Go.RowKit
set_option linter.unusedVariables false
set_option linter.unusedSimpArgs false
attribute [local go_sem] B_data B_size

theorem Tryz.infoPair : (Tryz.prog.info? 40).map (fun i => (i.zero, i.size, i.bytes)) = some (some (.agg #[.string ⟨#[]⟩, .string ⟨#[]⟩]), 2, 32) := by kernel_rfl
theorem Tryz.infoTg : (Tryz.prog.info? 38).map (fun i => (i.zero, i.size, i.bytes)) = some (some (.agg #[.string ⟨#[]⟩, .string ⟨#[]⟩, .int .i64 0, .int .i64 0]), 4, 48) := by kernel_rfl
theorem Tryz.infoStr : (Tryz.prog.info? 9).map (fun i => (i.zero, i.size, i.bytes)) = some (some (.string ⟨#[]⟩), 1, 16) := by kernel_rfl
/-- the block of a row is no block of cells of another type -/
theorem own_ne {w : World} {base e sz n b : Nat} {v : Value} {xs : List Value} {C : Array Value} {t : TypeId} (h : w.ownsRow base e sz v n xs) (hb : w.heap[b]? = some (.cells C t (0, 0))) (hte : t ≠ e) : v.ownBlock ≠ some b := by
  rcases h.2 with ⟨rfl, _⟩ | ⟨g, cap, cur, rfl, _, hg, _⟩
  · intro e; cases e
  · intro hh
    have hh : some g = some b := hh
    injection hh with hh
    subst hh
    rw [hb] at hg
    injection hg with hg
    injection hg with _ hg _
    exact hte hg
theorem own_ne2 {w : World} {b1 e1 s1 n1 b2 e2 s2 n2 : Nat} {v1 v2 : Value} {x1 x2 : List Value} (h1 : w.ownsRow b1 e1 s1 v1 n1 x1) (h2 : w.ownsRow b2 e2 s2 v2 n2 x2) (hne : e1 ≠ e2) : v1.ownBlock = none ∨ v1.ownBlock ≠ v2.ownBlock := by
  rcases h1.2 with ⟨rfl, _⟩ | ⟨g, cap, cur, rfl, _, hg, _⟩
  · exact .inl rfl
  · right
    intro hh
    have := own_ne h2 hg (fun e => hne e)
    exact this hh.symm
/-- the three rows of a project -/
structure PV (base : Nat) (p : Pj) (vA vF vT : Value) (W : World) : Prop where
  ov : W.ownsRow base 40 2 vA p.vs.length (p.vs.flatMap prF)
  of : W.ownsRow base 9 1 vF p.fs.length (strs p.fs)
  ot : W.ownsRow base 38 4 vT p.ts.length (p.ts.flatMap tgF)
  le : base ≤ W.heap.size
/-- blocks below base, but q, are kept -/
structure Kq (base q : Nat) (W W' : World) : Prop where
  os : W'.os = W.os
  tape : W'.tape = W.tape
  output : W'.output = W.output
  size : W.heap.size ≤ W'.heap.size
  block : ∀ k, k < base → k ≠ q → W'.heap[k]? = W.heap[k]?
theorem Kq.refl (base q : Nat) (W : World) : Kq base q W W := ⟨rfl, rfl, rfl, Nat.le_refl _, fun _ _ _ => rfl⟩
theorem Kq.trans {base q : Nat} {a b c : World} (h : Kq base q a b) (k : Kq base q b c) : Kq base q a c :=
  ⟨k.os.trans h.os, k.tape.trans h.tape, k.output.trans h.output, Nat.le_trans h.size k.size, fun i h1 h2 => (k.block i h1 h2).trans (h.block i h1 h2)⟩
theorem Kq.below {base q : Nat} {a b c : World} (h : Kq base q a b) (hb : Below b.heap.size b c) (hle : base ≤ b.heap.size) : Kq base q a c :=
  h.trans ⟨hb.os, hb.tape, hb.output, hb.size, fun i h1 _ => hb.block i (by omega)⟩
theorem Kq.of_below {base q : Nat} {a b : World} (hb : Below base a b) : Kq base q a b := ⟨hb.os, hb.tape, hb.output, hb.size, fun i h1 _ => hb.block i h1⟩
theorem Kq.set {base q i : Nat} {a b : World} {u : Value} (h : Kq base q a b) : Kq base q a (b.setCell ⟨q, i, none⟩ u) :=
  h.trans ⟨rfl, rfl, rfl, by simp [World.setCell], fun k _ hk => by simp [World.setCell, Array.getElem?_modify, Ne.symm hk]⟩
theorem Kq.drewN {base q : Nat} {a b : World} (h : Kq base q a b) (n : Nat) : Kq base q a (b.drewN n) := ⟨h.os, h.tape, h.output, h.size, h.block⟩
theorem PV.below {base : Nat} {p : Pj} {vA vF vT : Value} {W W' : World} (h : PV base p vA vF vT W) (hb : Below W.heap.size W W') : PV base p vA vF vT W' :=
  ⟨h.ov.kept (grown_of_below hb none) (by cases hv : vA.ownBlock <;> simp), h.of.kept (grown_of_below hb none) (by cases hv : vF.ownBlock <;> simp), h.ot.kept (grown_of_below hb none) (by cases hv : vT.ownBlock <;> simp), Nat.le_trans h.le hb.size⟩
theorem PV.setq {base q i : Nat} {p : Pj} {vA vF vT : Value} {W : World} {C : Array Value} {t : TypeId} {u : Value} (h : PV base p vA vF vT W) (hq : W.heap[q]? = some (.cells C t (0, 0))) (h1 : t ≠ 40) (h2 : t ≠ 9) (h3 : t ≠ 38) : PV base p vA vF vT (W.setCell ⟨q, i, none⟩ u) := by
  have hg : W.grownBy (W.setCell ⟨q, i, none⟩ u) (some q) := ⟨rfl, rfl, rfl, by simp [World.setCell], fun k _ hk => by
    have : ¬ q = k := fun e => hk (by rw [e])
    simp [World.setCell, Array.getElem?_modify, this]⟩
  exact ⟨h.ov.kept hg (.inr (own_ne h.ov hq h1)), h.of.kept hg (.inr (own_ne h.of hq h2)), h.ot.kept hg (.inr (own_ne h.ot hq h3)), by simpa [World.setCell] using h.le⟩
/-- one variable, flag, target more -/
theorem PV.appV {base : Nat} {p : Pj} {vA vF vT vA' : Value} {W1 W2 : World} {v : List UInt8 × List UInt8} (h : PV base p vA vF vT W1) (ho : W2.ownsRow base 40 2 vA' (p.vs.length + 1) (p.vs.flatMap prF ++ prF v)) (hg : W1.grownBy W2 vA.ownBlock) :
    PV base { p with vs := p.vs ++ [v] } vA' vF vT W2 :=
  ⟨by simpa [List.flatMap_append] using ho, h.of.kept hg (own_ne2 h.of h.ov (by decide)), h.ot.kept hg (own_ne2 h.ot h.ov (by decide)), Nat.le_trans h.le hg.size⟩
theorem PV.appF {base : Nat} {p : Pj} {vA vF vT vF' : Value} {W1 W2 : World} {v : List UInt8} (h : PV base p vA vF vT W1) (ho : W2.ownsRow base 9 1 vF' (p.fs.length + 1) (strs p.fs ++ [.string (B v)])) (hg : W1.grownBy W2 vF.ownBlock) :
    PV base { p with fs := p.fs ++ [v] } vA vF' vT W2 :=
  ⟨h.ov.kept hg (own_ne2 h.ov h.of (by decide)), by rw [strs_app1] at ho; simpa using ho, h.ot.kept hg (own_ne2 h.ot h.of (by decide)), Nat.le_trans h.le hg.size⟩
theorem PV.appT {base : Nat} {p : Pj} {vA vF vT vT' : Value} {W1 W2 : World} {v : Tg} (h : PV base p vA vF vT W1) (ho : W2.ownsRow base 38 4 vT' (p.ts.length + 1) (p.ts.flatMap tgF ++ tgF v)) (hg : W1.grownBy W2 vT.ownBlock) :
    PV base { p with ts := p.ts ++ [v] } vA vF vT' W2 :=
  ⟨h.ov.kept hg (own_ne2 h.ov h.ot (by decide)), h.of.kept hg (own_ne2 h.of h.ot (by decide)), by simpa [List.flatMap_append] using ho, Nat.le_trans h.le hg.size⟩
/-- the project's block -/
def PB (q : Nat) (p : Pj) (vA vF vT : Value) (W : World) : Prop := W.heap[q]? = some (.cells #[.string (B p.ti), .string (B p.la), .string (B p.ma), .string (B p.so), .string (B p.st), vA, vF, vT] 26 (0, 0))
theorem PB.c5 {q : Nat} {p : Pj} {vA vF vT : Value} {W : World} (h : PB q p vA vF vT W) : W.cell? ⟨q, 5, none⟩ = some vA := by unfold PB at h; simp [World.cell?, h]
theorem PB.c6 {q : Nat} {p : Pj} {vA vF vT : Value} {W : World} (h : PB q p vA vF vT W) : W.cell? ⟨q, 6, none⟩ = some vF := by unfold PB at h; simp [World.cell?, h]
theorem PB.c7 {q : Nat} {p : Pj} {vA vF vT : Value} {W : World} (h : PB q p vA vF vT W) : W.cell? ⟨q, 7, none⟩ = some vT := by unfold PB at h; simp [World.cell?, h]
theorem PB.ff {q i : Nat} {p : Pj} {vA vF vT : Value} {W : World} (h : PB q p vA vF vT W) : W.frozen? ⟨q, i, none⟩ = false := by unfold PB at h; simp [World.frozen?, h]
theorem PB.set5 {q : Nat} {p : Pj} {vA vF vT u : Value} {W : World} (h : PB q p vA vF vT W) (l : List (List UInt8 × List UInt8)) : PB q { p with vs := l } u vF vT (W.setCell ⟨q, 5, none⟩ u) := by unfold PB at *; simp [World.setCell, Array.getElem?_modify, h]
theorem PB.set6 {q : Nat} {p : Pj} {vA vF vT u : Value} {W : World} (h : PB q p vA vF vT W) (l : List (List UInt8)) : PB q { p with fs := l } vA u vT (W.setCell ⟨q, 6, none⟩ u) := by unfold PB at *; simp [World.setCell, Array.getElem?_modify, h]
theorem PB.set7 {q : Nat} {p : Pj} {vA vF vT u : Value} {W : World} (h : PB q p vA vF vT W) (l : List Tg) : PB q { p with ts := l } vA vF u (W.setCell ⟨q, 7, none⟩ u) := by unfold PB at *; simp [World.setCell, Array.getElem?_modify, h]
theorem PB.below {q M : Nat} {p : Pj} {vA vF vT : Value} {W W' : World} (h : PB q p vA vF vT W) (hb : Below M W W') (hM : q < M) : PB q p vA vF vT W' := (hb.block q hM).trans h
theorem PB.lt {q : Nat} {p : Pj} {vA vF vT : Value} {W : World} (h : PB q p vA vF vT W) : q < W.heap.size := (Array.getElem?_eq_some_iff.1 h).1
theorem PB.grown {q : Nat} {p : Pj} {vA vF vT : Value} {W W' : World} {row : Option Nat} (h : PB q p vA vF vT W) (hg : W.grownBy W' row) (hne : row ≠ some q) : PB q p vA vF vT W' := (hg.block q h.lt (fun e => hne e.symm)).trans h
/-- a word ahead of a space -/
theorem pre_word {k w r : List UInt8} (hk : 32 ∉ k) (hw : 32 ∉ w) : (k ++ [32]).isPrefixOf (w ++ 32 :: r) = true ↔ w = k := by
  rw [List.isPrefixOf_iff_prefix]
  constructor
  · rintro ⟨t, ht⟩
    rw [List.append_assoc] at ht
    induction k generalizing w with
    | nil =>
      cases w with
      | nil => rfl
      | cons a w =>
        injection ht with h1 _
        exact absurd (h1 ▸ List.mem_cons_self ..) hw
    | cons a k ih =>
      cases w with
      | nil =>
        injection ht with h1 _
        exact absurd (h1 ▸ List.mem_cons_self ..) hk
      | cons b w =>
        injection ht with h1 h2
        subst h1
        rw [ih (fun h => hk (List.mem_cons_of_mem _ h)) (fun h => hw (List.mem_cons_of_mem _ h)) h2]
  · rintro rfl
    exact ⟨r, by simp⟩
theorem more_eq (p : Pj) (w r : List UInt8) (st : Nat) (hw : 32 ∉ w) : moreP p (w ++ 32 :: r) st =
    if w = [118, 97, 114] ∧ st = 0 then (varP [] r).map fun v => ({ p with vs := p.vs ++ [v] }, 0)
    else if w = [102, 108, 97, 103] ∧ st ≤ 1 then (if r ≠ [] ∧ 32 ∉ r then some ({ p with fs := p.fs ++ [r] }, 1) else none)
    else if w = [116, 97, 114, 103, 101, 116] then (targetP r).map fun t => ({ p with ts := p.ts ++ [t] }, 2) else none := by
  unfold moreP
  have e1 : ([118, 97, 114, 32] : List UInt8).isPrefixOf (w ++ 32 :: r) = true ↔ w = [118, 97, 114] := pre_word (k := [118, 97, 114]) (by decide) hw
  have e2 : ([102, 108, 97, 103, 32] : List UInt8).isPrefixOf (w ++ 32 :: r) = true ↔ w = [102, 108, 97, 103] := pre_word (k := [102, 108, 97, 103]) (by decide) hw
  have e3 : ([116, 97, 114, 103, 101, 116, 32] : List UInt8).isPrefixOf (w ++ 32 :: r) = true ↔ w = [116, 97, 114, 103, 101, 116] := pre_word (k := [116, 97, 114, 103, 101, 116]) (by decide) hw
  by_cases h1 : w = [118, 97, 114] ∧ st = 0
  · rw [if_pos ⟨e1.2 h1.1, h1.2⟩, if_pos h1, h1.1]; rfl
  rw [if_neg (fun h => h1 ⟨e1.1 h.1, h.2⟩), if_neg h1]
  by_cases h2 : w = [102, 108, 97, 103] ∧ st ≤ 1
  · rw [if_pos ⟨e2.2 h2.1, h2.2⟩, if_pos h2, h2.1]; rfl
  rw [if_neg (fun h => h2 ⟨e2.1 h.1, h.2⟩), if_neg h2]
  by_cases h3 : w = [116, 97, 114, 103, 101, 116]
  · rw [if_pos (e3.2 h3), if_pos h3, h3]; rfl
  rw [if_neg (fun h => h3 (e3.1 h)), if_neg h3]
theorem more_nosp {p : Pj} {l : List UInt8} {st : Nat} (h : 32 ∉ l) : moreP p l st = none := by
  have hp : ∀ k : List UInt8, 32 ∈ k → ¬ k.isPrefixOf l = true := by
    intro k hk hp
    rw [List.isPrefixOf_iff_prefix] at hp
    obtain ⟨t, rfl⟩ := hp
    exact h (List.mem_append_left _ hk)
  unfold moreP
  rw [if_neg (fun hh => hp _ (by decide) hh.1), if_neg (fun hh => hp _ (by decide) hh.1), if_neg (hp _ (by decide))]
/-- a text at its first space -/
theorem cut_sp (l : List UInt8) : (32 ∉ l ∧ Lib.cut l [32] = (l, [], false)) ∨ ∃ w r, 32 ∉ w ∧ l = w ++ 32 :: r ∧ Lib.cut l [32] = (w, r, true) := by
  have key : ∀ l : List UInt8, (32 ∉ l ∧ Lib.index l [32] = -1) ∨ ∃ w r, 32 ∉ w ∧ l = w ++ 32 :: r ∧ Lib.index l [32] = (w.length : Nat) := by
    intro l
    induction l with
    | nil => exact .inl ⟨by simp, rfl⟩
    | cons c t ih =>
      by_cases hc : c = 32
      · subst hc
        exact .inr ⟨[], t, by simp, rfl, by simp [Lib.index, List.isPrefixOf]⟩
      · have hp : List.isPrefixOf [32] (c :: t) = false := by simp [List.isPrefixOf]; exact fun h => hc h.symm
        rcases ih with ⟨h1, h2⟩ | ⟨w, r, h1, h2, h3⟩
        · refine .inl ⟨?_, ?_⟩
          · intro h
            rcases List.mem_cons.1 h with h | h
            · exact hc h.symm
            · exact h1 h
          · rw [Lib.index, hp, h2]; rfl
        · refine .inr ⟨c :: w, r, ?_, by rw [h2]; rfl, ?_⟩
          · intro h
            rcases List.mem_cons.1 h with h | h
            · exact hc h.symm
            · exact h1 h
          · rw [Lib.index, hp, h3]
            have : (((w.length : Nat) : Int) == -1) = false := by rw [beq_eq_false_iff_ne]; omega
            rw [this]; simp
  rcases key l with ⟨h1, h2⟩ | ⟨w, r, h1, h2, h3⟩
  · refine .inl ⟨h1, ?_⟩
    unfold Lib.cut; rw [h2]; rfl
  · refine .inr ⟨w, r, h1, h2, ?_⟩
    unfold Lib.cut
    rw [h3, if_pos (by omega), h2]
    have e : ((w.length : Nat) : Int).toNat = w.length := by omega
    rw [e]
    simp
theorem cutSp_any (s : List UInt8) (w : World) (hs : s.length ≤ 1000000000) (hG : Fil.Glob w) :
    Calls Tryz.prog 63 #[.string (B s), .string ⟨#[32]⟩] w fun e w' => e = .returned (.tuple #[.string (B (Lib.cut s [32]).1), .string (B (Lib.cut s [32]).2.1), .bool (Lib.cut s [32]).2.2]) ∧ ∃ n, w' = w.drewN n := by
  obtain ⟨m, hm⟩ := hG
  refine (Tryz.strings_Cut (B s) ⟨#[32]⟩ m w (by rw [B_size]; omega) hm).mono fun e w' ⟨h1, h2⟩ => ⟨?_, h2⟩
  rw [h1, data_B]
  rfl
end Go.Proofs.YtmkenekngaihhaaGreatDoor
