/-
  Layer 33 (markup): the reader of the program: element: what is known while its kids are read.
-/
import Derived.Test.YtejjidbodfoiiaaGreatDoorMkRabc
namespace Go.Proofs.YtejjidbodfoiiaaGreatDoor
open Go.RowKit
set_option linter.unusedVariables false
set_option linter.unusedSimpArgs false
attribute [local go_sem] B_data B_size
attribute [local go_sem ↓] Go.wp_at_zero Go.wp_at_succ

/-- the contract of node at a fuel -/
def NodeC (g : Nat) : Prop := ∀ (rb : Nat) (s : ByteArray) (k : Nat) (kid : Bool) (w : World), Rx w rb s k → k < s.size → s.size ≤ 1000000000 → 2 * (s.size - k) + 1 ≤ g →
  Calls Tryz.prog 70 #[.pointer (some ⟨rb, 0, none⟩), .bool kid] w (NPost rb s (pN g kid (s.toList.drop k)) w)
/-- attributes ahead of what is read -/
def exA {α : Type} (a : List α) : Except Int (List α × List UInt8) → Except Int (List α × List UInt8)
  | .error e => .error e
  | .ok (b, l) => .ok (a ++ b, l)
theorem exA_nil {α : Type} (r : Except Int (List α × List UInt8)) : exA [] r = r := by
  cases r with
  | error e => rfl
  | ok x => rfl
theorem drop_head (s : ByteArray) (k : Nat) (h : k < s.size) : (s.toList.drop k).head? = some s[k] := by rw [drop_byte s k h]; rfl
theorem pAttr_err {l : List UInt8} {x : Int} (h : pAttr l = .error x) : x ≠ 0 := by
  unfold pAttr at h
  cases h1 : pName l with
  | error e => rw [h1] at h; injection h with h; rw [← h]; exact pName_err h1
  | ok y =>
    rw [h1] at h
    simp only at h
    cases h2 : pExp [61, 34] y.2 with
    | error e => rw [h2] at h; injection h with h; rw [← h]; exact pExp_err h2
    | ok r1 =>
      rw [h2] at h
      simp only at h
      cases h3 : pVal r1 with
      | error e => rw [h3] at h; injection h with h; rw [← h]; exact pVal_err h3
      | ok z => rw [h3] at h; cases h
theorem Tryz.infoPair : (Tryz.prog.info? 71).map (fun i => (i.zero, i.size, i.bytes)) = some (some (.agg #[.string ⟨#[]⟩, .string ⟨#[]⟩]), 2, 32) := by kernel_rfl
theorem Tryz.infoNode : (Tryz.prog.info? 65).map (fun i => (i.zero, i.size, i.bytes)) = some (some (.agg #[.string ⟨#[]⟩, .string ⟨#[]⟩, .slice none 0 0, .slice none 0 0]), 4, 80) := by kernel_rfl
theorem EA.alloc {w : World} {rb : Nat} {s : ByteArray} {nm : List UInt8} {base pb res ob mb k : Nat} {ats : List (List UInt8 × List UInt8)} {A : Option Addr} {ca : Nat} {W : World} (h : EA w rb s nm base pb res ob mb k ats A ca W) (o : Obj) : EA w rb s nm base pb res ob mb k ats A ca (W.alloc o) := h.below (below_alloc W o)
theorem RdS.of_own {w : World} {base e sz n : Nat} {A : Option Addr} {c : Nat} {xs : List Value} (h : w.ownsRow base e sz (.slice A n c) n xs) : RdS w (fun b => base ≤ b ∧ b < w.heap.size) sz A n xs := by
  refine ⟨h.1, fun hn => ?_⟩
  rcases h.2 with ⟨e1, e2⟩ | ⟨g, cap, cur, e1, hb, hg, _⟩
  · omega
  · injection e1 with e1 _ _
    exact ⟨⟨g, 0, none⟩, e1, h.lt g (by rw [e1]; rfl), fun j u hj => h.cells (by rw [e1]; rfl) j u hj⟩
theorem size_set (w : World) (p : Addr) (u : Value) : (w.setCell p u).heap.size = w.heap.size := by simp
/-- one attribute more -/
theorem EA.app {w : World} {rb : Nat} {s : ByteArray} {nm : List UInt8} {base pb res ob mb k : Nat} {ats : List (List UInt8 × List UInt8)} {A : Option Addr} {ca : Nat} {W0 W1 W2 : World} {p : List UInt8 × List UInt8} {A' : Option Addr} {ca' : Nat}
    (h : EA w rb s nm base pb res ob mb k ats A ca W0) (hu : W0.grownBy W1 (some mb)) (hm : SMap W1 mb (seenM (ats.map (·.1)) ++ [(p.1, .bool true)]))
    (ho : W2.ownsRow base 71 2 (.slice A' (ats.length + 1) ca') (ats.length + 1) (ats.flatMap prF ++ prF p)) (hb : Below base W1 W2) (hg2 : W1.grownBy W2 (Value.slice A ats.length ca).ownBlock) :
    EA w rb s nm base pb res ob mb k (ats ++ [p]) A' ca' (W2.setCell ⟨ob, 2, none⟩ (.slice A' (ats.length + 1) ca')) := by
  obtain ⟨r, pp, rs, bx, own, g, lb⟩ := h.upd hu
  have B := fun q (hq : q < base) => hb.block q hq
  have S := fun q (hq : ob ≠ q) => (blk_set (w := W2) (c := ob) (k := q) (i := 2) (u := .slice A' (ats.length + 1) ca') hq)
  have o1 := h.o1
  have o2 := h.o2
  have o3 := h.o3
  have o4 := h.o4
  have o5 := h.o5
  have n1 := h.n1
  refine ⟨(S rb (by omega)).trans ((B rb (by omega)).trans r), (S pb (by omega)).trans ((B pb o2.2).trans pp), (S res (by omega)).trans ((B res o3.2).trans rs), ?_, ?_, ?_, ?_, o1, o2, o3, o4, o5, n1, by rw [size_set]; exact Nat.le_trans lb hg2.size⟩
  · have hbx : Bx W2 ob _ := (B ob o4.2).trans bx
    unfold Bx at *
    simp [World.setCell, Array.getElem?_modify, hbx]
  · have ho' := ho.kept (grown_set W2 ob 2 (.slice A' (ats.length + 1) ca')) (.inr fun e => by have := (ho.lt ob e).1; omega)
    rw [List.length_append, List.flatMap_append, List.flatMap_singleton]
    exact ho'
  · have hm2 : SMap (W2.setCell ⟨ob, 2, none⟩ (.slice A' (ats.length + 1) ca')) mb (seenM (ats.map (·.1)) ++ [(p.1, .bool true)]) := hm.of_block ((S mb (by omega)).trans (B mb o5.2))
    unfold seenM at hm2 ⊢
    rw [List.map_append, List.map_append]
    exact hm2
  · exact ⟨hg2.os.trans g.os, hg2.tape.trans g.tape, hg2.output.trans g.output, by rw [size_set]; exact Nat.le_trans g.size hg2.size, fun i hi hne => (S i (by omega)).trans ((B i (by omega)).trans (g.block i hi hne))⟩
theorem exA_snoc {ats : List (List UInt8 × List UInt8)} {p : List UInt8 × List UInt8} {r : Except Int (List (List UInt8 × List UInt8) × List UInt8)} :
    exA ats (match r with
      | .error e => .error e
      | .ok (as', r') => .ok (p :: as', r')) = exA (ats ++ [p]) r := by
  cases r with
  | error e => rfl
  | ok x => simp [exA]
/-- the kids so far -/
structure EK (w : World) (rb : Nat) (s : ByteArray) (nm : List UInt8) (base0 base pb res ob k : Nat) (ats : List (List UInt8 × List UInt8)) (A : Option Addr) (ca : Nat) (ks : List Nd) (cs : List NC) (K : Option Addr) (ck : Nat) (W : World) : Prop where
  r : Rx W rb s k
  pp : Px W pb rb
  rs : Bx W res nc0
  bx : Bx W ob ⟨nm, [], A, ats.length, ca, K, ks.length, ck⟩
  aa : RdS W (fun b => base0 ≤ b ∧ b < base) 2 A ats.length (ats.flatMap prF)
  own : W.ownsRow base 65 4 (.slice K ks.length ck) ks.length (cs.flatMap NC.cells)
  kk : KsAt W (fun b => base ≤ b ∧ b < W.heap.size ∧ some b ≠ (Value.slice K ks.length ck).ownBlock) ks cs
  g : w.grownBy W (some rb)
  o1 : rb < w.heap.size
  o2 : w.heap.size ≤ pb ∧ pb < base0
  o3 : w.heap.size ≤ res ∧ res < base0
  o4 : w.heap.size ≤ ob ∧ ob < base0
  n1 : pb ≠ ob ∧ res ≠ ob ∧ pb ≠ res
  lb : base0 ≤ base ∧ base ≤ W.heap.size
theorem EA.kids {w : World} {rb : Nat} {s : ByteArray} {nm : List UInt8} {base pb res ob mb k : Nat} {ats : List (List UInt8 × List UInt8)} {A : Option Addr} {ca : Nat} {W : World} (h : EA w rb s nm base pb res ob mb k ats A ca W) : EK w rb s nm base W.heap.size pb res ob k ats A ca [] [] none 0 W :=
  ⟨h.r, h.pp, h.rs, h.bx, RdS.of_own h.own, ⟨rfl, .inl ⟨rfl, rfl⟩⟩, rfl, h.g, h.o1, h.o2, h.o3, h.o4, ⟨h.n1.1, h.n1.2.1, h.n1.2.2.2.2.2⟩, h.lb, Nat.le_refl _⟩
theorem KsAt.keep {w w' : World} {S S' : Nat → Prop} {ks : List Nd} {cs : List NC} (h : KsAt w S ks cs) (hS : ∀ b, S b → S' b) (hk : ∀ b, S b → w'.heap[b]? = w.heap[b]?) : KsAt w' S' ks cs :=
  KsAt.of_all ks (fun n _ c hn => NdAt.keep hS hk n c hn) cs h
theorem EK.grow {w : World} {rb : Nat} {s : ByteArray} {nm : List UInt8} {base0 base pb res ob k k' : Nat} {ats : List (List UInt8 × List UInt8)} {A : Option Addr} {ca : Nat} {ks : List Nd} {cs : List NC} {K : Option Addr} {ck : Nat} {W W' : World}
    (h : EK w rb s nm base0 base pb res ob k ats A ca ks cs K ck W) (hg : W.grownBy W' (some rb)) (hr : Rx W' rb s k') : EK w rb s nm base0 base pb res ob k' ats A ca ks cs K ck W' := by
  have ne : ∀ b, w.heap.size ≤ b → some b ≠ some rb := fun b hb e => by have := h.o1; injection e with e; omega
  have o1 := h.o1
  have o2 := h.o2
  have lb := h.lb
  exact ⟨hr, (hg.block pb h.pp.lt (ne _ h.o2.1)).trans h.pp, (hg.block res h.rs.lt (ne _ h.o3.1)).trans h.rs, (hg.block ob h.bx.lt (ne _ h.o4.1)).trans h.bx,
    h.aa.keep (fun b hb => hg.block b (by omega) (ne _ (by omega))), own_grown h.own hg (by omega),
    h.kk.keep (fun b hb => ⟨hb.1, Nat.lt_of_lt_of_le hb.2.1 hg.size, hb.2.2⟩) (fun b hb => hg.block b hb.2.1 (ne _ (by omega))), grown_trans h.g hg, o1, o2, h.o3, h.o4, h.n1, lb.1, Nat.le_trans lb.2 hg.size⟩
theorem EK.below {w : World} {rb : Nat} {s : ByteArray} {nm : List UInt8} {base0 base pb res ob k : Nat} {ats : List (List UInt8 × List UInt8)} {A : Option Addr} {ca : Nat} {ks : List Nd} {cs : List NC} {K : Option Addr} {ck : Nat} {W W' : World}
    (h : EK w rb s nm base0 base pb res ob k ats A ca ks cs K ck W) (hb : Below W.heap.size W W') : EK w rb s nm base0 base pb res ob k ats A ca ks cs K ck W' :=
  h.grow (grown_of_below hb _) (h.r.below hb h.r.lt)
theorem EK.drewN {w : World} {rb : Nat} {s : ByteArray} {nm : List UInt8} {base0 base pb res ob k : Nat} {ats : List (List UInt8 × List UInt8)} {A : Option Addr} {ca : Nat} {ks : List Nd} {cs : List NC} {K : Option Addr} {ck : Nat} {W : World}
    (h : EK w rb s nm base0 base pb res ob k ats A ca ks cs K ck W) (n : Nat) : EK w rb s nm base0 base pb res ob k ats A ca ks cs K ck (W.drewN n) :=
  h.grow (grown_drewN (grown_refl _ _) n) h.r
theorem EK.alloc {w : World} {rb : Nat} {s : ByteArray} {nm : List UInt8} {base0 base pb res ob k : Nat} {ats : List (List UInt8 × List UInt8)} {A : Option Addr} {ca : Nat} {ks : List Nd} {cs : List NC} {K : Option Addr} {ck : Nat} {W : World}
    (h : EK w rb s nm base0 base pb res ob k ats A ca ks cs K ck W) (o : Obj) : EK w rb s nm base0 base pb res ob k ats A ca ks cs K ck (W.alloc o) := h.below (below_alloc W o)
/-- one kid more -/
theorem EK.app {w : World} {rb : Nat} {s : ByteArray} {nm : List UInt8} {base0 base pb res ob k : Nat} {ats : List (List UInt8 × List UInt8)} {A : Option Addr} {ca : Nat} {ks : List Nd} {cs : List NC} {K : Option Addr} {ck : Nat} {W1 W2 : World} {n : Nd} {c : NC} {K' : Option Addr} {ck' : Nat}
    (h : EK w rb s nm base0 base pb res ob k ats A ca ks cs K ck W1) (hn : NdAt W1 (fun b => base ≤ b ∧ b < W1.heap.size ∧ some b ≠ (Value.slice K ks.length ck).ownBlock) n c)
    (ho : W2.ownsRow base 65 4 (.slice K' (ks.length + 1) ck') (ks.length + 1) (cs.flatMap NC.cells ++ c.cells)) (hb : Below base W1 W2) (hg2 : W1.grownBy W2 (Value.slice K ks.length ck).ownBlock)
    (hat : (Value.slice K' (ks.length + 1) ck').ownBlock = (Value.slice K ks.length ck).ownBlock ∨ (Value.slice K' (ks.length + 1) ck').ownBlock = some (W1.heap.size + 1)) :
    EK w rb s nm base0 base pb res ob k ats A ca (ks ++ [n]) (cs ++ [c]) K' ck' (W2.setCell ⟨ob, 3, none⟩ (.slice K' (ks.length + 1) ck')) := by
  have B := fun q (hq : q < base) => hb.block q hq
  have S := fun q (hq : ob ≠ q) => (blk_set (w := W2) (c := ob) (k := q) (i := 3) (u := .slice K' (ks.length + 1) ck') hq)
  have o1 := h.o1
  have o2 := h.o2
  have o3 := h.o3
  have o4 := h.o4
  have n1 := h.n1
  have lb := h.lb
  have hsz := hg2.size
  have eS : ∀ b, (base ≤ b ∧ b < W1.heap.size ∧ some b ≠ (Value.slice K ks.length ck).ownBlock) → (base ≤ b ∧ b < (W2.setCell ⟨ob, 3, none⟩ (.slice K' (ks.length + 1) ck')).heap.size ∧ some b ≠ (Value.slice K' (ks ++ [n]).length ck').ownBlock) := by
    intro b ⟨h1, h2, h3⟩
    refine ⟨h1, by rw [size_set]; omega, ?_⟩
    rw [List.length_append]
    rcases hat with e | e
    · exact fun x => h3 (x.trans e)
    · intro x
      have x := x.trans e
      injection x with x
      omega
  have eK : ∀ b, (base ≤ b ∧ b < W1.heap.size ∧ some b ≠ (Value.slice K ks.length ck).ownBlock) → (W2.setCell ⟨ob, 3, none⟩ (.slice K' (ks.length + 1) ck')).heap[b]? = W1.heap[b]? := fun b ⟨h1, h2, h3⟩ => (S b (by omega)).trans (hg2.block b h2 h3)
  refine ⟨(S rb (by omega)).trans ((B rb (by omega)).trans h.r), (S pb (by omega)).trans ((B pb (by omega)).trans h.pp), (S res (by omega)).trans ((B res (by omega)).trans h.rs), ?_, ?_, ?_, (h.kk.keep eS eK).snoc (NdAt.keep eS eK n c hn), ?_, o1, o2, o3, o4, n1, lb.1, by rw [size_set]; omega⟩
  · have hbx : Bx W2 ob _ := (B ob (by omega)).trans h.bx
    unfold Bx at *
    simp [World.setCell, Array.getElem?_modify, hbx]
  · exact h.aa.keep (fun b hb' => (S b (by omega)).trans (B b hb'.2))
  · have ho' := ho.kept (grown_set W2 ob 3 (.slice K' (ks.length + 1) ck')) (.inr fun e => by have := (ho.lt ob e).1; omega)
    rw [List.length_append, List.flatMap_append, List.flatMap_singleton]
    exact ho'
  · exact ⟨hg2.os.trans h.g.os, hg2.tape.trans h.g.tape, hg2.output.trans h.g.output, by rw [size_set]; exact Nat.le_trans h.g.size hg2.size, fun i hi hne => (S i (by omega)).trans ((B i (by omega)).trans (h.g.block i hi hne))⟩
/-- the element that has been read -/
theorem EK.node {w : World} {rb : Nat} {s : ByteArray} {nm : List UInt8} {base0 base pb res ob k : Nat} {ats : List (List UInt8 × List UInt8)} {A : Option Addr} {ca : Nat} {ks : List Nd} {cs : List NC} {K : Option Addr} {ck : Nat} {W W' : World}
    (h : EK w rb s nm base0 base pb res ob k ats A ca ks cs K ck W) (hk : ∀ b, base0 ≤ b → b < W.heap.size → W'.heap[b]? = W.heap[b]?) (hs : W.heap.size ≤ W'.heap.size) :
    NdAt W' (fun b => w.heap.size ≤ b ∧ b < W'.heap.size) (.mk nm [] ats ks) ⟨nm, [], A, ats.length, ca, K, ks.length, ck⟩ := by
  have o2 := h.o2
  have lb := h.lb
  have hkk := h.kk.len
  exact ⟨rfl, rfl, (h.aa.keep (fun b hb => hk b hb.1 (by omega))).mono (fun b hb => ⟨by omega, by omega⟩), cs,
    ((RdS.of_own h.own).keep (fun b hb => hk b (by omega) hb.2)).mono (fun b hb => ⟨by omega, by omega⟩),
    h.kk.keep (fun b hb => ⟨by omega, by omega⟩) (fun b hb => hk b (by omega) hb.2.1)⟩
def KbPost (b : Bool) (w : World) (e : Ending) (w' : World) : Prop := e = .returned (.bool b) ∧ ∃ n, w' = w.drewN n
set_option maxHeartbeats 2000000 in
/-- is there another kid? -/
theorem kids_any (pb rb : Nat) (s : ByteArray) (k : Nat) (w : World) (hp : Px w pb rb) (h : Rx w rb s k) (hk : k ≤ s.size) (hs : s.size ≤ 1000000000) :
    Calls Tryz.prog 133 #[.pointer (some ⟨pb, 0, none⟩)] w (KbPost (!decide ([60, 47] <+: s.toList.drop k)) w) := by
  have b0 := h.c0
  have b1 := h.c1
  have bp := hp.cell
  have i1 : (0 : Int) ≤ (k : Int) := by omega
  have i2 : (k : Int) ≤ (s.size : Int) := by omega
  have ex : s.extract k s.size = B (s.toList.drop k) := B_drop s k
  have hdl := drop_len s k
  have HR : Hid ((!decide ([60, 47] <+: s.toList.drop k)) = (!decide ([60, 47] <+: s.toList.drop k))) := rfl
  have C := Lib.hid (fun V => prefix_any (s.toList.drop k) [60, 47] V (by omega) (by simp))
  generalize s.toList.drop k = l at *
  go_enter Tryz.func133, Tryz.ntmps133
  go_wp2
  go_quiet ((go_at_call 44; exact Calls.quiet_of_same ((C.out _).mono fun _ _ ⟨a, b⟩ => ⟨a, b.symm⟩)))
  go_wp2
  go_ret
  exact ⟨rfl, _, rfl⟩
end Go.Proofs.YtejjidbodfoiiaaGreatDoor
