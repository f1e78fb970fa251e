/-
  Layer 33 (markup): the reader of the program: what is known while an element is read.
-/
import Derived.Test.YtejjidbodfoiiaaGreatDoorMkRb
import Derived.Test.YtejjidbodfoiiaaGreatDoorSeen
import Derived.Test.YtejjidbodfoiiaaGreatDoorMkV
namespace Go.Proofs.YtejjidbodfoiiaaGreatDoor
open Go.RowKit
set_option linter.unusedVariables false
set_option linter.unusedSimpArgs false
attribute [local go_sem] B_data B_size

theorem wpList_updG {P : Program} {w : World} {ops : Array Oper} {rest : List Oper} {o : Oper} {a : Act} {Q : Exit → Act → World → Prop} (hgd : o.guard = none) (T K E : TypeId) (m k v : Operand) (ho : o.op = .mapUpdate T m k v)
    (hT : P.underlying T = some (.map K E)) (hK : P.underlying K = some .string) (b : Nat) (kvs : List (List UInt8 × Value)) (hs : SMap w b kvs) (hm : a.eval m = .map (some b)) (kl : List UInt8) (hk : a.eval k = .string (B kl)) (val : Value) (hv : a.eval v = val) (hn : lookL kl kvs = none)
    (h : ∀ w', SMap w' b (kvs ++ [(kl, val)]) → w.grownBy w' (some b) → wpList P ops Q rest (a.put o.dst undef) w') :
    wpList P ops Q (o :: rest) a w := by
  refine wpList_plain hgd fun K' hK' => ?_
  obtain ⟨w', hrun, r1, r2⟩ := SMap.put hT hK hs kl val hn
  unfold Oper.wp
  simp [execOp, ho, hm, hk, hv, hrun, Result.andThen]
  exact hK' _ _ (h w' r1 r2)
/-- the pointer to the reader in a block of its own -/
def Px (w : World) (pb rb : Nat) : Prop := w.heap[pb]? = some (.cells #[.pointer (some ⟨rb, 0, none⟩)] 113 (0, 0))
theorem Px.cell {w : World} {pb rb : Nat} (h : Px w pb rb) : w.cell? ⟨pb, 0, none⟩ = some (.pointer (some ⟨rb, 0, none⟩)) := by unfold Px at h; simp [World.cell?, h]
theorem Px.lt {w : World} {pb rb : Nat} (h : Px w pb rb) : pb < w.heap.size := (Array.getElem?_eq_some_iff.1 h).1
theorem own_grown {w w' : World} {base e sz n row : Nat} {v : Value} {xs : List Value} (h : w.ownsRow base e sz v n xs) (hg : w.grownBy w' (some row)) (hr : row < base) : w'.ownsRow base e sz v n xs :=
  h.kept hg (.inr fun e => by have := (h.lt row e).1; omega)
/-- the attributes so far -/
structure EA (w : World) (rb : Nat) (s : ByteArray) (nm : List UInt8) (base pb res ob mb k : Nat) (ats : List (List UInt8 × List UInt8)) (A : Option Addr) (ca : Nat) (W : World) : Prop where
  r : Rx W rb s k
  pp : Px W pb rb
  rs : Bx W res nc0
  bx : Bx W ob ⟨nm, [], A, ats.length, ca, none, 0, 0⟩
  own : W.ownsRow base 71 2 (.slice A ats.length ca) ats.length (ats.flatMap prF)
  mp : SMap W mb (seenM (ats.map (·.1)))
  g : w.grownBy W (some rb)
  o1 : rb < w.heap.size
  o2 : w.heap.size ≤ pb ∧ pb < base
  o3 : w.heap.size ≤ res ∧ res < base
  o4 : w.heap.size ≤ ob ∧ ob < base
  o5 : w.heap.size ≤ mb ∧ mb < base
  n1 : pb ≠ ob ∧ res ≠ ob ∧ mb ≠ ob ∧ pb ≠ mb ∧ res ≠ mb ∧ pb ≠ res
  lb : base ≤ W.heap.size
theorem EA.grow {w : World} {rb : Nat} {s : ByteArray} {nm : List UInt8} {base pb res ob mb k k' : Nat} {ats : List (List UInt8 × List UInt8)} {A : Option Addr} {ca : Nat} {W W' : World} (h : EA w rb s nm base pb res ob mb k ats A ca W) (hg : W.grownBy W' (some rb)) (hr : Rx W' rb s k') : EA w rb s nm base pb res ob mb k' ats A ca W' := by
  have ne : ∀ b, w.heap.size ≤ b → some b ≠ some rb := fun b hb e => by have := h.o1; injection e with e; omega
  exact ⟨hr, (hg.block pb h.pp.lt (ne _ h.o2.1)).trans h.pp, (hg.block res h.rs.lt (ne _ h.o3.1)).trans h.rs, (hg.block ob h.bx.lt (ne _ h.o4.1)).trans h.bx,
    own_grown h.own hg (by have := h.o1; have := h.o2; omega), h.mp.of_block (hg.block mb h.mp.lt (ne _ h.o5.1)), grown_trans h.g hg, h.o1, h.o2, h.o3, h.o4, h.o5, h.n1, Nat.le_trans h.lb hg.size⟩
theorem EA.below {w : World} {rb : Nat} {s : ByteArray} {nm : List UInt8} {base pb res ob mb k : Nat} {ats : List (List UInt8 × List UInt8)} {A : Option Addr} {ca : Nat} {W W' : World} (h : EA w rb s nm base pb res ob mb k ats A ca W) (hb : Below W.heap.size W W') : EA w rb s nm base pb res ob mb k ats A ca W' :=
  h.grow (grown_of_below hb _) (h.r.below hb h.r.lt)
theorem EA.drewN {w : World} {rb : Nat} {s : ByteArray} {nm : List UInt8} {base pb res ob mb k : Nat} {ats : List (List UInt8 × List UInt8)} {A : Option Addr} {ca : Nat} {W : World} (h : EA w rb s nm base pb res ob mb k ats A ca W) (n : Nat) : EA w rb s nm base pb res ob mb k ats A ca (W.drewN n) :=
  h.grow (grown_drewN (grown_refl _ _) n) h.r
theorem EA.setR {w : World} {rb : Nat} {s : ByteArray} {nm : List UInt8} {base pb res ob mb k m : Nat} {ats : List (List UInt8 × List UInt8)} {A : Option Addr} {ca : Nat} {W : World} (h : EA w rb s nm base pb res ob mb k ats A ca W) : EA w rb s nm base pb res ob mb m ats A ca (W.setCell ⟨rb, 1, none⟩ (.int .i64 (m : Int))) :=
  h.grow (grown_setC W rb 1 _) h.r.set
/-- the set of the names has one more -/
theorem EA.upd {w : World} {rb : Nat} {s : ByteArray} {nm : List UInt8} {base pb res ob mb k : Nat} {ats : List (List UInt8 × List UInt8)} {A : Option Addr} {ca : Nat} {W W' : World} (h : EA w rb s nm base pb res ob mb k ats A ca W) (hg : W.grownBy W' (some mb)) :
    Rx W' rb s k ∧ Px W' pb rb ∧ Bx W' res nc0 ∧ Bx W' ob ⟨nm, [], A, ats.length, ca, none, 0, 0⟩ ∧ W'.ownsRow base 71 2 (.slice A ats.length ca) ats.length (ats.flatMap prF) ∧ w.grownBy W' (some rb) ∧ base ≤ W'.heap.size := by
  have hm := h.o5
  have hr := h.o1
  refine ⟨h.r.grown hg (by omega), (hg.block pb h.pp.lt (fun e => h.n1.2.2.2.1 (Option.some.inj e))).trans h.pp, (hg.block res h.rs.lt (fun e => h.n1.2.2.2.2.1 (Option.some.inj e))).trans h.rs, (hg.block ob h.bx.lt (fun e => h.n1.2.2.1 (Option.some.inj e).symm)).trans h.bx, own_grown h.own hg hm.2, ?_, Nat.le_trans h.lb hg.size⟩
  exact ⟨hg.os.trans h.g.os, hg.tape.trans h.g.tape, hg.output.trans h.g.output, Nat.le_trans h.g.size hg.size, fun i hi hne => (hg.block i (Nat.lt_of_lt_of_le hi h.g.size) (fun e => by injection e with e; omega)).trans (h.g.block i hi hne)⟩
end Go.Proofs.YtejjidbodfoiiaaGreatDoor
