/-
  Layer 33 (markup): the reader of the chapter: what is known while a node is read.
-/
import Derived.Test.YtlhkpkjcecjomaaMkSt
namespace Go.Proofs.Ytlhkpkjcecjomaa
open Go.RowKit
set_option linter.unusedVariables false
set_option linter.unusedSimpArgs false
attribute [local go_sem] B_data B_size
attribute [local go_sem ↓] Go.wp_at_zero Go.wp_at_succ

/-- the contract of the chapter's node at a fuel -/
def NdY (g : Nat) : Prop := ∀ (rb : Nat) (s : ByteArray) (k : Nat) (kid : Bool) (w : World), Ry w rb s k 0 → k ≤ s.size → s.size ≤ 1000000000 → 2 * (s.size - k) + 1 ≤ g →
  Calls Try.prog 40 #[.pointer (some ⟨rb, 0, none⟩), .bool kid] w (NzPost rb s (if s.toList.drop k = [] then .error 4 else pN g kid (s.toList.drop k)) w)
/-- the element while it is read: the result, the node in its block, with what it has so far -/
structure EZ (w : World) (rb : Nat) (s : ByteArray) (nm : List UInt8) (base ob k : Nat) (x : Int) (ats : List (List UInt8 × List UInt8)) (A : Option Addr) (ca : Nat) (W : World) : Prop where
  r : Ry W rb s k x
  z : Bx W w.heap.size nc0
  b : Bx W ob ⟨nm, [], A, ats.length, ca, none, 0, 0⟩
  own : W.ownsRow base 46 2 (.slice A ats.length ca) ats.length (ats.flatMap prF)
  g : w.grownBy W (some rb)
  o : rb < w.heap.size ∧ w.heap.size < ob ∧ ob < base ∧ base ≤ W.heap.size
theorem EZ.grow {w : World} {rb : Nat} {s : ByteArray} {nm : List UInt8} {base ob k k' : Nat} {x x' : Int} {ats : List (List UInt8 × List UInt8)} {A : Option Addr} {ca : Nat} {W W' : World} (h : EZ w rb s nm base ob k x ats A ca W) (hg : W.grownBy W' (some rb)) (hr : Ry W' rb s k' x') : EZ w rb s nm base ob k' x' ats A ca W' := by
  have o := h.o
  have hs := hg.size
  exact ⟨hr, h.z.grown hg (by omega), h.b.grown hg (by omega), own_grown h.own hg (by omega), grown_trans h.g hg, by omega⟩
theorem EZ.drewN {w : World} {rb : Nat} {s : ByteArray} {nm : List UInt8} {base ob k : Nat} {x : Int} {ats : List (List UInt8 × List UInt8)} {A : Option Addr} {ca : Nat} {W : World} (h : EZ w rb s nm base ob k x ats A ca W) (n : Nat) : EZ w rb s nm base ob k x ats A ca (W.drewN n) :=
  h.grow (grown_drewN (grown_refl _ _) n) (h.r.drewN n)
theorem EZ.rds {w : World} {rb : Nat} {s : ByteArray} {nm : List UInt8} {base ob k : Nat} {x : Int} {ats : List (List UInt8 × List UInt8)} {A : Option Addr} {ca : Nat} {W : World} (h : EZ w rb s nm base ob k x ats A ca W) : RdS W (fun b => b < W.heap.size ∧ b ≠ rb) 2 A ats.length (ats.flatMap prF) :=
  (RdS.of_own h.own).mono fun b hb => ⟨hb.2, by have := h.o; omega⟩
/-- one attribute more -/
theorem EZ.app {w : World} {rb : Nat} {s : ByteArray} {nm : List UInt8} {base ob k : Nat} {x : Int} {ats : List (List UInt8 × List UInt8)} {A : Option Addr} {ca : Nat} {W1 W2 : World} {p : List UInt8 × List UInt8} {A' : Option Addr} {ca' : Nat} (h : EZ w rb s nm base ob k x ats A ca W1)
    (ho : W2.ownsRow base 46 2 (.slice A' (ats.length + 1) ca') (ats.length + 1) (ats.flatMap prF ++ prF p)) (hb : Below base W1 W2) :
    EZ w rb s nm base ob k x (ats ++ [p]) A' ca' (W2.setCell ⟨ob, 2, none⟩ (.slice A' (ats.length + 1) ca')) := by
  have o := h.o
  have hsz := hb.size
  have B := fun q (hq : q < base) => hb.block q hq
  have S := fun q (hq : ob ≠ q) => (blk_set (w := W2) (c := ob) (k := q) (i := 2) (u := .slice A' (ats.length + 1) ca') hq)
  refine ⟨(S rb (by omega)).trans ((B rb (by omega)).trans h.r), (S _ (by omega)).trans ((B _ (by omega)).trans h.z), ?_, ?_, ?_, by rw [size_set]; omega⟩
  · have hbx : Bx W2 ob _ := (B ob (by omega)).trans h.b
    unfold Bx at *
    simp [World.setCell, Array.getElem?_modify, hbx]
  · have ho' := ho.kept (grown_set W2 ob 2 (.slice A' (ats.length + 1) ca')) (.inr fun e => by have := (ho.lt ob e).1; omega)
    rw [List.length_append, List.flatMap_append, List.flatMap_singleton]
    exact ho'
  · exact ⟨hb.os.trans h.g.os, hb.tape.trans h.g.tape, hb.output.trans h.g.output, by rw [size_set]; have := h.g.size; omega, fun i hi hne => (S i (by omega)).trans ((B i (by omega)).trans (h.g.block i hi hne))⟩
/-- the kids so far -/
structure KZ (w : World) (rb : Nat) (s : ByteArray) (nm : List UInt8) (base0 base ob k : Nat) (x : Int) (ats : List (List UInt8 × List UInt8)) (A : Option Addr) (ca : Nat) (ks : List Nd) (cs : List NC) (K : Option Addr) (ck : Nat) (W : World) : Prop where
  r : Ry W rb s k x
  z : Bx W w.heap.size nc0
  b : Bx W ob ⟨nm, [], A, ats.length, ca, K, ks.length, ck⟩
  aa : RdS W (fun b => base0 ≤ b ∧ b < base) 2 A ats.length (ats.flatMap prF)
  own : W.ownsRow base 25 4 (.slice K ks.length ck) ks.length (cs.flatMap NC.cells)
  kk : KsAt W (fun b => base ≤ b ∧ b < W.heap.size ∧ some b ≠ (Value.slice K ks.length ck).ownBlock) ks cs
  g : w.grownBy W (some rb)
  o : rb < w.heap.size ∧ w.heap.size < ob ∧ ob < base0 ∧ base0 ≤ base ∧ base ≤ W.heap.size
theorem EZ.kids {w : World} {rb : Nat} {s : ByteArray} {nm : List UInt8} {base ob k : Nat} {x : Int} {ats : List (List UInt8 × List UInt8)} {A : Option Addr} {ca : Nat} {W : World} (h : EZ w rb s nm base ob k x ats A ca W) : KZ w rb s nm base W.heap.size ob k x ats A ca [] [] none 0 W := by
  have o := h.o
  exact ⟨h.r, h.z, h.b, RdS.of_own h.own, ⟨rfl, .inl ⟨rfl, rfl⟩⟩, rfl, h.g, by omega⟩
theorem KZ.grow {w : World} {rb : Nat} {s : ByteArray} {nm : List UInt8} {base0 base ob k k' : Nat} {x x' : Int} {ats : List (List UInt8 × List UInt8)} {A : Option Addr} {ca : Nat} {ks : List Nd} {cs : List NC} {K : Option Addr} {ck : Nat} {W W' : World}
    (h : KZ w rb s nm base0 base ob k x ats A ca ks cs K ck W) (hg : W.grownBy W' (some rb)) (hr : Ry W' rb s k' x') : KZ w rb s nm base0 base ob k' x' ats A ca ks cs K ck W' := by
  have o := h.o
  have hs := hg.size
  have ne : ∀ b, w.heap.size ≤ b → some b ≠ some rb := fun b hb e => by injection e with e; omega
  exact ⟨hr, h.z.grown hg (by omega), h.b.grown hg (by omega), h.aa.keep (fun b hb => hg.block b (by omega) (ne _ (by omega))), own_grown h.own hg (by omega),
    h.kk.keep (fun b hb => ⟨hb.1, Nat.lt_of_lt_of_le hb.2.1 hg.size, hb.2.2⟩) (fun b hb => hg.block b hb.2.1 (ne _ (by omega))), grown_trans h.g hg, by omega⟩
theorem KZ.drewN {w : World} {rb : Nat} {s : ByteArray} {nm : List UInt8} {base0 base ob k : Nat} {x : Int} {ats : List (List UInt8 × List UInt8)} {A : Option Addr} {ca : Nat} {ks : List Nd} {cs : List NC} {K : Option Addr} {ck : Nat} {W : World}
    (h : KZ w rb s nm base0 base ob k x ats A ca ks cs K ck W) (n : Nat) : KZ w rb s nm base0 base ob k x ats A ca ks cs K ck (W.drewN n) :=
  h.grow (grown_drewN (grown_refl _ _) n) (h.r.drewN n)
/-- one kid more -/
theorem KZ.app {w : World} {rb : Nat} {s : ByteArray} {nm : List UInt8} {base0 base ob k : Nat} {x : Int} {ats : List (List UInt8 × List UInt8)} {A : Option Addr} {ca : Nat} {ks : List Nd} {cs : List NC} {K : Option Addr} {ck : Nat} {W1 W2 : World} {n : Nd} {c : NC} {K' : Option Addr} {ck' : Nat}
    (h : KZ w rb s nm base0 base ob k x ats A ca ks cs K ck W1) (hn : NdAt W1 (fun b => base ≤ b ∧ b < W1.heap.size ∧ some b ≠ (Value.slice K ks.length ck).ownBlock) n c)
    (ho : W2.ownsRow base 25 4 (.slice K' (ks.length + 1) ck') (ks.length + 1) (cs.flatMap NC.cells ++ c.cells)) (hb : Below base W1 W2) (hg2 : W1.grownBy W2 (Value.slice K ks.length ck).ownBlock)
    (hat : (Value.slice K' (ks.length + 1) ck').ownBlock = (Value.slice K ks.length ck).ownBlock ∨ ∀ b, (Value.slice K' (ks.length + 1) ck').ownBlock = some b → W1.heap.size ≤ b) :
    KZ w rb s nm base0 base ob k x ats A ca (ks ++ [n]) (cs ++ [c]) K' ck' (W2.setCell ⟨ob, 3, none⟩ (.slice K' (ks.length + 1) ck')) := by
  have o := h.o
  have hsz := hg2.size
  have B := fun q (hq : q < base) => hb.block q hq
  have S := fun q (hq : ob ≠ q) => (blk_set (w := W2) (c := ob) (k := q) (i := 3) (u := .slice K' (ks.length + 1) ck') hq)
  have eS : ∀ b, (base ≤ b ∧ b < W1.heap.size ∧ some b ≠ (Value.slice K ks.length ck).ownBlock) → (base ≤ b ∧ b < (W2.setCell ⟨ob, 3, none⟩ (.slice K' (ks.length + 1) ck')).heap.size ∧ some b ≠ (Value.slice K' (ks ++ [n]).length ck').ownBlock) := by
    intro b ⟨h1, h2, h3⟩
    refine ⟨h1, by rw [size_set]; omega, ?_⟩
    rw [List.length_append]
    rcases hat with e | e
    · exact fun x => h3 (x.trans e)
    · intro x
      have := e b x.symm
      omega
  have eK : ∀ b, (base ≤ b ∧ b < W1.heap.size ∧ some b ≠ (Value.slice K ks.length ck).ownBlock) → (W2.setCell ⟨ob, 3, none⟩ (.slice K' (ks.length + 1) ck')).heap[b]? = W1.heap[b]? := fun b ⟨h1, h2, h3⟩ => (S b (by omega)).trans (hg2.block b h2 h3)
  refine ⟨(S rb (by omega)).trans ((B rb (by omega)).trans h.r), (S _ (by omega)).trans ((B _ (by omega)).trans h.z), ?_, ?_, ?_, (h.kk.keep eS eK).snoc (NdAt.keep eS eK n c hn), ?_, by rw [size_set]; omega⟩
  · have hbx : Bx W2 ob _ := (B ob (by omega)).trans h.b
    unfold Bx at *
    simp [World.setCell, Array.getElem?_modify, hbx]
  · exact h.aa.keep (fun b hb' => (S b (by omega)).trans (B b hb'.2))
  · have ho' := ho.kept (grown_set W2 ob 3 (.slice K' (ks.length + 1) ck')) (.inr fun e => by have := (ho.lt ob e).1; omega)
    rw [List.length_append, List.flatMap_append, List.flatMap_singleton]
    exact ho'
  · exact ⟨hg2.os.trans h.g.os, hg2.tape.trans h.g.tape, hg2.output.trans h.g.output, by rw [size_set]; exact Nat.le_trans h.g.size hg2.size, fun i hi hne => (S i (by omega)).trans ((B i (by omega)).trans (h.g.block i hi hne))⟩
/-- the element that has been read -/
theorem KZ.node {w : World} {rb : Nat} {s : ByteArray} {nm : List UInt8} {base0 base ob k : Nat} {x : Int} {ats : List (List UInt8 × List UInt8)} {A : Option Addr} {ca : Nat} {ks : List Nd} {cs : List NC} {K : Option Addr} {ck : Nat} {W W' : World}
    (h : KZ w rb s nm base0 base ob k x ats A ca ks cs K ck W) (hk : ∀ b, base0 ≤ b → b < W.heap.size → W'.heap[b]? = W.heap[b]?) (hs : W.heap.size ≤ W'.heap.size) :
    NdAt W' (fun b => w.heap.size ≤ b ∧ b < W'.heap.size) (.mk nm [] ats ks) ⟨nm, [], A, ats.length, ca, K, ks.length, ck⟩ := by
  have o := h.o
  have hkk := h.kk.len
  exact ⟨rfl, rfl, (h.aa.keep (fun b hb => hk b hb.1 (by omega))).mono (fun b hb => ⟨by omega, by omega⟩), cs,
    ((RdS.of_own h.own).keep (fun b hb => hk b (by omega) hb.2)).mono (fun b hb => ⟨by omega, by omega⟩),
    h.kk.keep (fun b hb => ⟨by omega, by omega⟩) (fun b hb => hk b (by omega) hb.2.1)⟩
/-- what stands behind the attributes -/
def pRest (f : Nat) (nm : List UInt8) (ats : List (List UInt8 × List UInt8)) (r2 : List UInt8) : Except Int (Nd × List UInt8) :=
  if emptyB nm = true then (match pExp [47, 62] r2 with
    | .error e => .error e
    | .ok r3 => .ok (.mk nm [] ats [], r3))
  else match pExp [62] r2 with
    | .error e => .error e
    | .ok r3 => match pKs f r3 with
      | .error e => .error e
      | .ok (ks, r4) => match pExp ([60, 47] ++ nm ++ [62]) r4 with
        | .error e => .error e
        | .ok r5 => .ok (.mk nm [] ats ks, r5)
def bindR {α β : Type} (r : Except Int (α × List UInt8)) (F : α → List UInt8 → Except Int β) : Except Int β := match r with
  | .error e => .error e
  | .ok (a, l) => F a l
end Go.Proofs.Ytlhkpkjcecjomaa
