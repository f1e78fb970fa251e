/-
  Layer 49 (project): the errors of targets and of a project: the chapter's.
-/
import Derived.Test.YtmkenekngaihhaaDoorPjC
namespace Go.Proofs.YtmkenekngaihhaaDoor
open Go.RowKit
set_option linter.unusedVariables false
set_option linter.unusedSimpArgs false
attribute [local go_sem] B_data B_size

theorem targetsT_long {k : Pk} {l : List Tg} (h : 8 < l.length) : targetsT k l = 3 := by unfold targetsT; rw [if_pos h]
theorem targetsT_nil {k : Pk} : targetsT k [] = 8 := rfl
theorem targetsT_ok {k : Pk} {l : List Tg} (h : ¬ 8 < l.length) (h0 : l ≠ []) : targetsT k l = targetsE k [] l := by unfold targetsT; rw [if_neg h, if_neg h0]
theorem take_nms {ts : List Tg} {j : Nat} {p : Tg} (h : ts[j]? = some p) : (ts.take (j + 1)).map (·.nm) = (ts.take j).map (·.nm) ++ [p.nm] := by
  rw [take_one h, List.map_append]; rfl
/-- the project p lies in memory: its cells are c, its slices lie below M -/
structure PC where
  A : Option Addr
  na : Nat
  ca : Nat
  F : Option Addr
  nf : Nat
  cf : Nat
  T : Option Addr
  nt : Nat
  ct : Nat
structure PjAt (w : World) (M : Nat) (p : Pj) (c : PC) : Prop where
  vs : Rd w M 2 c.A c.na (p.vs.flatMap prF)
  fs : Rd w M 1 c.F c.nf (strs p.fs)
  ts : Rd w M 4 c.T c.nt (p.ts.flatMap tgF)
theorem PjAt.below {w w' : World} {M : Nat} {p : Pj} {c : PC} (h : PjAt w M p c) (hb : Below M w w') : PjAt w' M p c := ⟨h.vs.below hb, h.fs.below hb, h.ts.below hb⟩
theorem PjAt.more {w : World} {M M' : Nat} {p : Pj} {c : PC} (h : PjAt w M p c) (hM : M ≤ M') : PjAt w M' p c := ⟨h.vs.more hM, h.fs.more hM, h.ts.more hM⟩
theorem PjAt.step {w w' : World} {p : Pj} {c : PC} (h : PjAt w w.heap.size p c) (hb : Below w.heap.size w w') : PjAt w' w'.heap.size p c := (h.below hb).more hb.size
/-- strings and lists are short -/
structure PjSm (p : Pj) : Prop where
  ti : p.ti.length ≤ 1000000
  la : p.la.length ≤ 1000000
  ma : p.ma.length ≤ 1000000
  so : p.so.length ≤ 1000000
  st : p.st.length ≤ 1000000
  vs : ∀ v ∈ p.vs, v.1.length ≤ 1000000 ∧ v.2.length ≤ 1000000
  fs : ∀ v ∈ p.fs, v.length ≤ 1000000
  ts : ∀ v ∈ p.ts, v.nm.length ≤ 1000000 ∧ v.kd.length ≤ 1000000
  nv : p.vs.length ≤ 1000000
  nf : p.fs.length ≤ 1000000
  nt : p.ts.length ≤ 1000000
end Go.Proofs.YtmkenekngaihhaaDoor
