/-
  Layer 33 (markup): the reader of the chapter: attr.
  Layer 33 (markup): an append as one step of a region that draws.
  Layer 33 (markup): the reader of the chapter: what is known while a node is read.
  Layer 33 (markup): the reader of the chapter: node.
-/
import Derived.Test.YtejjidbodfoiiaaGreatDoorMkSd
import Derived.Deep.AppendLies
import Derived.Deep.RegionLaw
namespace Go.Proofs.YtejjidbodfoiiaaGreatDoor
open Go.RowKit
set_option linter.unusedVariables false
set_option linter.unusedSimpArgs false
attribute [local go_sem] B_data B_size
attribute [local go_sem ↓] Go.wp_at_zero Go.wp_at_succ

/-- an attribute that is not among those before -/
def pNew (S : List (List UInt8)) (r : Except Int ((List UInt8 × List UInt8) × List UInt8)) : Except Int ((List UInt8 × List UInt8) × List UInt8) := match r with
  | .error e => .error e
  | .ok (p, l) => if p.1 ∈ S then .error 7 else .ok (p, l)
def PzPost (rb : Nat) (s : ByteArray) (r : Except Int ((List UInt8 × List UInt8) × List UInt8)) (w : World) (e : Ending) (w' : World) : Prop := ∃ p : List UInt8 × List UInt8, e = .returned (.agg #[.string (B p.1), .string (B p.2)]) ∧ w.grownBy w' (some rb) ∧ ∃ (k : Nat) (x : Int), k ≤ s.size ∧ Ry w' rb s k x ∧ match r with
  | .error y => x = y
  | .ok (q, l) => x = 0 ∧ p = q ∧ s.toList.drop k = l
/-- what is known while an attribute is read: the result, the attribute in its block -/
structure UI (w : World) (rb : Nat) (s : ByteArray) (k : Nat) (x : Int) (pb : Nat) (a b : List UInt8) (W : World) : Prop where
  r : Ry W rb s k x
  z : P2 W w.heap.size [] []
  p : P2 W pb a b
  g : w.grownBy W (some rb)
  n : pb ≠ w.heap.size ∧ rb ≠ w.heap.size ∧ pb ≠ rb ∧ w.heap.size ≤ pb
theorem UI.grow {w W W' : World} {rb k k' pb : Nat} {s : ByteArray} {x x' : Int} {a b : List UInt8} (h : UI w rb s k x pb a b W) (hg : W.grownBy W' (some rb)) (hr : Ry W' rb s k' x') : UI w rb s k' x' pb a b W' :=
  ⟨hr, h.z.grown hg (fun e => h.n.2.1 e.symm), h.p.grown hg h.n.2.2.1, grown_trans h.g hg, h.n⟩
theorem UI.below {w W W' : World} {rb k pb : Nat} {s : ByteArray} {x : Int} {a b : List UInt8} (h : UI w rb s k x pb a b W) (hb : Below W.heap.size W W') : UI w rb s k x pb a b W' :=
  h.grow (grown_of_below hb _) (h.r.below hb h.r.lt)
theorem UI.drewN {w W : World} {rb k pb : Nat} {s : ByteArray} {x : Int} {a b : List UInt8} (h : UI w rb s k x pb a b W) (n : Nat) : UI w rb s k x pb a b (W.drewN n) :=
  h.grow (grown_drewN (grown_refl _ _) n) (h.r.drewN n)
theorem UI.setP {w W : World} {rb k pb : Nat} {s : ByteArray} {x : Int} {a b b' : List UInt8} (h : UI w rb s k x pb a b W) : UI w rb s k x pb a b' (W.setCell ⟨pb, 1, none⟩ (.string (B b'))) := by
  refine ⟨(blk_set h.n.2.2.1).trans h.r, (blk_set h.n.1).trans h.z, ?_, grown_setN h.g h.n.2.2.2, h.n⟩
  have hp := h.p
  unfold P2 at *
  simp [World.setCell, Array.getElem?_modify, hp]
/-- the error behind the attributes before -/
def DupE (x : Int) (u : List UInt8) (ats : List (List UInt8 × List UInt8)) (q : Nat) : Int := if x = 0 ∧ u ∈ (ats.take q).map (·.1) then 7 else x
/-- the value is clean, or there is an error -/
def VxQ (w : World) (rb : Nat) (s : ByteArray) (k m pb : Nat) (u tx : List UInt8) (r : Except Int ((List UInt8 × List UInt8) × List UInt8)) (W : World) : Prop :=
  ∃ x : Int, UI w rb s k x pb u [] W ∧ ((x ≠ 0 ∧ r = .error x) ∨ (x = 0 ∧ r = match unesc tx with | none => .error 5 | some y => .ok ((u, y), s.toList.drop (m + 1))))
set_option maxHeartbeats 16000000 in
set_option maxRecDepth 100000 in
theorem rattr_any (rb : Nat) (s : ByteArray) (k : Nat) (A : Option Addr) (n c : Nat) (ats : List (List UInt8 × List UInt8)) (w : World) (h : Ry w rb s k 0) (hk : k < s.size) (h32 : s[k] = 32) (hs : s.size ≤ 1000000000)
    (hA : RdS w (fun b => b < w.heap.size ∧ b ≠ rb) 2 A n (ats.flatMap prF)) (hn : n ≤ 1000000000) :
    Calls Tryz.prog 116 #[.pointer (some ⟨rb, 0, none⟩), .slice A n c] w (PzPost rb s (pNew (ats.map (·.1)) (pAttr (s.toList.drop (k + 1)))) w) := by
  have hlt := h.lt
  have HA := Lib.hid hA
  have hne : rb ≠ w.heap.size := by omega
  have hZ : P2 (w.alloc (.cells #[.string ⟨#[]⟩, .string ⟨#[]⟩] 71)) w.heap.size [] [] := heap_alloc_new w _
  have hR := h.alloc (.cells #[.string ⟨#[]⟩, .string ⟨#[]⟩] 71)
  have hg0 := grown_alloc (grown_refl w (some rb)) (.cells #[.string ⟨#[]⟩, .string ⟨#[]⟩] 71)
  have CW := Lib.hid (want_any rb s k [32] _ hR (Nat.le_of_lt hk) hs (by simp))
  have hpe : pExp [32] (s.toList.drop k) = .ok (s.toList.drop (k + 1)) := by
    rw [drop_byte s k hk, h32]; exact pExp_ok [32] (s.toList.drop (k + 1))
  rw [hpe] at CW
  have HPA : Hid (pAttr (s.toList.drop (k + 1)) = match pName (s.toList.drop (k + 1)) with
    | .error e => .error e
    | .ok (k, r) => match pExp [61, 34] r with
      | .error e => .error e
      | .ok r1 => match pVal r1 with
        | .error e => .error e
        | .ok (u, r2) => .ok ((k, u), r2)) := rfl
  clear hpe h32 hA hR h
  go_enter Tryz.func116, Tryz.ntmps116
  go_wp2_with fail
  refine CW.out.mono ?_
  rintro e w1 ⟨rfl, hg1, k1, x, hk1, hR1, rfl, hd1⟩
  have hz1 := hZ.grown hg1 (fun e => hne e.symm)
  have hg2 := grown_trans hg0 hg1
  have CN := Lib.hid (rname_any rb s k1 _ hR1 hk1 hs)
  rw [hd1] at CN
  clear CW hZ hg0 hg1 hd1
  go_wp2_with fail
  refine CN.out.mono ?_
  rintro e w2 ⟨u, rfl, hul, hg3, k2, x2, hk2, hR2, hm⟩
  have HM := Lib.hid hm
  have hbW := below_alloc w2 (.cells #[.string (B u), .string ⟨#[]⟩] 71)
  have hU : UI w rb s k2 x2 w2.heap.size u [] (w2.alloc (.cells #[.string (B u), .string ⟨#[]⟩] 71)) := by
    have hs1 := hz1.lt
    have hs2 := hg3.size
    exact ⟨hR2.alloc _, (hz1.grown hg3 (fun e => hne e.symm)).below hbW (by omega), heap_alloc_new w2 _, grown_alloc (grown_trans hg2 hg3) _, by omega, hne, by omega, by omega⟩
  clear CN hm hbW hg3 hR2 hz1 hg2 hR1
  go_wp2_with fail
  generalize w2.alloc (.cells #[.string (B u), .string ⟨#[]⟩] 71) = W at *
  generalize w2.heap.size = pb at *
  cases hn : pName (s.toList.drop (k + 1)) with
  | error y =>
    have hy := pName_err hn
    have hm := HM.out
    rw [hn] at hm
    subst hm
    have HX : Hid (pAttr (s.toList.drop (k + 1)) = .error x2) := by rw [HPA.out, hn]; rfl
    have CW := Lib.hid (want_err rb s k2 x2 [61, 34] W hU.r hy (by simp))
    have z : (x2 == 0) = false := by simpa using hy
    clear hn HPA HM
    go_wp2_with fail
    refine CW.out.mono ?_
    rintro e w3 ⟨rfl, hg3, hR3⟩
    have hU3 := hU.grow hg3 hR3
    have CU := Lib.hid (until_any rb s k2 x2 34 w3 hR3 hk2 hs)
    clear CW hg3 hR3 hU
    go_wp2_with fail
    refine CU.out.mono ?_
    rintro e w4 ⟨rfl, rfl⟩
    by_cases hd : (s.toList.drop k2).dropWhile (fun b => b != 34) = []
    · have hi : idxK (fun b => b != 34) k2 (s.toList.drop k2) = -1 := by unfold idxK; rw [if_pos hd]
      rw [hi]
      have CF := Lib.hid (fail_any rb s k2 x2 4 w3 hU3.r)
      rw [ferr_ne 4 hy] at CF
      clear hi hd CU
      go_wp2_with fail
      refine CF.out.mono ?_
      rintro e w5 ⟨rfl, hg5, hR5⟩
      have hU5 := hU3.grow hg5 hR5
      clear CF hg5 hR5 hU3
      have hx := hy
      clear hy
      have c2 := hU5.r.c2
      have z1 : (x2 != 0) = true := by simpa using hx
      have z2 : (x2 == 0) = false := by simpa using hx
      have p0 := hU5.p.c0
      have p1 := hU5.p.c1
      have q0 := hU5.z.c0
      have q1 := hU5.z.c1
      have qf0 := hU5.z.f0 (i := 0)
      have qf1 := hU5.z.f0 (i := 1)
      have hne1 := hU5.n.1
      have hR5 : Ry _ rb s k2 x2 := (blk_set (w := _) (c := w.heap.size) (i := 1) (u := .string (B [])) hne.symm).trans ((blk_set  (c := w.heap.size) (i := 0) (u := .string (B u)) hne.symm).trans hU5.r)
      have hg5 := grown_setN (i := 1) (u := .string (B [])) (grown_setN (i := 0) (u := .string (B u)) hU5.g (Nat.le_refl w.heap.size)) (Nat.le_refl w.heap.size)
      clear hx hU5
      go_wp2
      refine bodyPost_ret (v := .agg #[.string (B u), .string (B [])]) (by simp [results, Tryz.results116, go_sem, q0, q1]) rfl ?_
      unfold PzPost pNew
      rw [HX.out]
      exact ⟨(u, []), rfl, hg5, k2, x2, hk2, hR5, rfl⟩
    · have hi : idxK (fun b => b != 34) k2 (s.toList.drop k2) = ((k2 + ((s.toList.drop k2).takeWhile (fun b => b != 34)).length : Nat) : Int) := by unfold idxK; rw [if_neg hd]
      rw [hi]
      generalize k2 + ((s.toList.drop k2).takeWhile (fun b => b != 34)).length = m at *
      have d1 : decide ((m : Int) < 0) = false := by simp
      clear hi hd CU
      have hx := hy
      clear hy
      have c2 := hU3.r.c2
      have z1 : (x2 != 0) = true := by simpa using hx
      have z2 : (x2 == 0) = false := by simpa using hx
      have p0 := hU3.p.c0
      have p1 := hU3.p.c1
      have q0 := hU3.z.c0
      have q1 := hU3.z.c1
      have qf0 := hU3.z.f0 (i := 0)
      have qf1 := hU3.z.f0 (i := 1)
      have hne1 := hU3.n.1
      have hR5 : Ry _ rb s k2 x2 := (blk_set (w := _) (c := w.heap.size) (i := 1) (u := .string (B [])) hne.symm).trans ((blk_set  (c := w.heap.size) (i := 0) (u := .string (B u)) hne.symm).trans hU3.r)
      have hg5 := grown_setN (i := 1) (u := .string (B [])) (grown_setN (i := 0) (u := .string (B u)) hU3.g (Nat.le_refl w.heap.size)) (Nat.le_refl w.heap.size)
      clear hx hU3
      go_wp2
      refine bodyPost_ret (v := .agg #[.string (B u), .string (B [])]) (by simp [results, Tryz.results116, go_sem, q0, q1]) rfl ?_
      unfold PzPost pNew
      rw [HX.out]
      exact ⟨(u, []), rfl, hg5, k2, x2, hk2, hR5, rfl⟩
  | ok y =>
    obtain ⟨nm, l1⟩ := y
    have hm := HM.out
    rw [hn] at hm
    obtain ⟨hx2, hunm, hd2⟩ := hm
    subst hx2
    subst hunm
    have HP2 : Hid (pAttr (s.toList.drop (k + 1)) = match pExp [61, 34] (s.toList.drop k2) with
      | .error e => .error e
      | .ok r1 => match pVal r1 with
        | .error e => .error e
        | .ok (y, r2) => .ok ((u, y), r2)) := by rw [HPA.out, hn, hd2]; rfl
    have CW := Lib.hid (want_any rb s k2 [61, 34] W hU.r hk2 hs (by simp))
    clear hn HPA HM hd2
    go_wp2_with fail
    refine CW.out.mono ?_
    rintro e w3 ⟨rfl, hg3, k3, x3, hk3, hR3, hm3⟩
    have hU3 := hU.grow hg3 hR3
    have CU := Lib.hid (until_any rb s k3 x3 34 w3 hR3 hk3 hs)
    have HM3 := Lib.hid hm3
    clear CW hg3 hR3 hU hm3
    go_wp2_with fail
    refine CU.out.mono ?_
    rintro e w4 ⟨rfl, rfl⟩
    have HVAL : Hid (pVal (s.toList.drop k3) = if (s.toList.drop k3).dropWhile notQ = [] then .error 4 else match pText ((s.toList.drop k3).takeWhile notQ) with | .error e => .error e | .ok y => .ok (y, ((s.toList.drop k3).dropWhile notQ).drop 1)) := rfl
    by_cases hd : (s.toList.drop k3).dropWhile notQ = []
    · have hi : idxK (fun b => b != 34) k3 (s.toList.drop k3) = -1 := by unfold idxK; exact if_pos hd
      rw [hi]
      have CF := Lib.hid (fail_any rb s k3 x3 4 w3 hU3.r)
      have HX : Hid (ferr x3 4 ≠ 0 ∧ pAttr (s.toList.drop (k + 1)) = .error (ferr x3 4)) := by
        have hm := HM3.out
        cases he : pExp [61, 34] (s.toList.drop k2) with
        | error y =>
          rw [he] at hm
          have hy := pExp_err he
          subst hm
          rw [ferr_ne 4 hy]
          exact ⟨hy, by rw [HP2.out, he]⟩
        | ok r1 =>
          rw [he] at hm
          obtain ⟨h0, hdr⟩ := hm
          rw [h0, ferr_zero]
          exact ⟨by omega, by rw [HP2.out, he, ← hdr]; simp only; rw [HVAL.out, if_pos hd]⟩
      clear hi hd CU HVAL HP2 HM3
      go_wp2_with fail
      refine CF.out.mono ?_
      rintro e w5 ⟨rfl, hg5, hR5⟩
      have hU5 := hU3.grow hg5 hR5
      clear CF hg5 hR5 hU3
      generalize ferr x3 4 = xe at *
      have hxx := HX.out.2
      have hx := HX.out.1
      clear HX
      have HX := Lib.hid hxx
      clear hxx
      have c2 := hU5.r.c2
      have z1 : (xe != 0) = true := by simpa using hx
      have z2 : (xe == 0) = false := by simpa using hx
      have p0 := hU5.p.c0
      have p1 := hU5.p.c1
      have q0 := hU5.z.c0
      have q1 := hU5.z.c1
      have qf0 := hU5.z.f0 (i := 0)
      have qf1 := hU5.z.f0 (i := 1)
      have hne1 := hU5.n.1
      have hR5 : Ry _ rb s k3 xe := (blk_set (w := _) (c := w.heap.size) (i := 1) (u := .string (B [])) hne.symm).trans ((blk_set  (c := w.heap.size) (i := 0) (u := .string (B u)) hne.symm).trans hU5.r)
      have hg5 := grown_setN (i := 1) (u := .string (B [])) (grown_setN (i := 0) (u := .string (B u)) hU5.g (Nat.le_refl w.heap.size)) (Nat.le_refl w.heap.size)
      clear hx hU5
      go_wp2
      refine bodyPost_ret (v := .agg #[.string (B u), .string (B [])]) (by simp [results, Tryz.results116, go_sem, q0, q1]) rfl ?_
      unfold PzPost pNew
      rw [HX.out]
      exact ⟨(u, []), rfl, hg5, k3, xe, hk3, hR5, rfl⟩
    · have hi : idxK (fun b => b != 34) k3 (s.toList.drop k3) = ((k3 + ((s.toList.drop k3).takeWhile notQ).length : Nat) : Int) := by unfold idxK; exact if_neg hd
      rw [hi]
      obtain ⟨m, hm⟩ : ∃ m, m = k3 + ((s.toList.drop k3).takeWhile notQ).length := ⟨_, rfl⟩
      have htw := tw_take notQ (s.toList.drop k3)
      have hms : m < s.size := by
        have h1 := congrArg List.length htw.2
        have h2 : 0 < ((s.toList.drop k3).dropWhile notQ).length := List.length_pos_iff.2 hd
        rw [List.length_drop, drop_len] at h1
        omega
      have HX : Hid ((x3 ≠ 0 ∧ pAttr (s.toList.drop (k + 1)) = .error x3) ∨ (x3 = 0 ∧ ∃ m' : Nat, ((m : Nat) : Int) = (m' : Int) ∧ k3 ≤ m' ∧ m' < s.size ∧ pAttr (s.toList.drop (k + 1)) = match pText ((s.toList.take m').drop k3) with | .error e => .error e | .ok y => .ok ((u, y), s.toList.drop (m' + 1)))) := by
        have hm3 := HM3.out
        cases he : pExp [61, 34] (s.toList.drop k2) with
        | error y =>
          rw [he] at hm3
          have hy := pExp_err he
          subst hm3
          exact .inl ⟨hy, by rw [HP2.out, he]⟩
        | ok r1 =>
          rw [he] at hm3
          obtain ⟨h0, hdr⟩ := hm3
          refine .inr ⟨h0, m, rfl, by omega, hms, ?_⟩
          rw [HP2.out, he, ← hdr]
          simp only
          rw [HVAL.out, if_neg hd]
          have e1 : (s.toList.take m).drop k3 = (s.toList.drop k3).takeWhile notQ := by rw [List.drop_take, hm, Nat.add_sub_cancel_left, htw.1]
          have e2 : s.toList.drop (m + 1) = ((s.toList.drop k3).dropWhile notQ).drop 1 := by rw [← htw.2, List.drop_drop, List.drop_drop, hm, Nat.add_assoc]
          rw [e1, e2]
          cases pText ((s.toList.drop k3).takeWhile notQ) <;> rfl
      rw [← hm]
      have d1 : decide ((m : Int) < 0) = false := by simp
      clear hi hd CU HVAL HP2 HM3 htw hm
      have HCS := HX
      clear HX
      have c2 := hU3.r.c2
      by_cases hxn : ¬ x3 = 0
      · have hx := hxn
        clear hxn
        have HX : Hid (pAttr (s.toList.drop (k + 1)) = .error x3) := by
          rcases HCS.out with ⟨_, h⟩ | ⟨h, _⟩
          · exact h
          · exact absurd h hx
        clear HCS
        have z1 : (x3 != 0) = true := by simpa using hx
        have z2 : (x3 == 0) = false := by simpa using hx
        have p0 := hU3.p.c0
        have p1 := hU3.p.c1
        have q0 := hU3.z.c0
        have q1 := hU3.z.c1
        have qf0 := hU3.z.f0 (i := 0)
        have qf1 := hU3.z.f0 (i := 1)
        have hne1 := hU3.n.1
        have hR5 : Ry _ rb s k3 x3 := (blk_set (w := _) (c := w.heap.size) (i := 1) (u := .string (B [])) hne.symm).trans ((blk_set  (c := w.heap.size) (i := 0) (u := .string (B u)) hne.symm).trans hU3.r)
        have hg5 := grown_setN (i := 1) (u := .string (B [])) (grown_setN (i := 0) (u := .string (B u)) hU3.g (Nat.le_refl w.heap.size)) (Nat.le_refl w.heap.size)
        clear hx hU3
        go_wp2
        refine bodyPost_ret (v := .agg #[.string (B u), .string (B [])]) (by simp [results, Tryz.results116, go_sem, q0, q1]) rfl ?_
        unfold PzPost pNew
        rw [HX.out]
        exact ⟨(u, []), rfl, hg5, k3, x3, hk3, hR5, rfl⟩
      · have hx := Classical.not_not.1 hxn
        clear hxn
        subst hx
        obtain ⟨hm2, hm3, hm4⟩ : k3 ≤ m ∧ m < s.size ∧ pAttr (s.toList.drop (k + 1)) = match pText ((s.toList.take m).drop k3) with | .error e => .error e | .ok y => .ok ((u, y), s.toList.drop (m + 1)) := by
          rcases HCS.out with ⟨h, _⟩ | ⟨_, m', he, h2, h3, h4⟩
          · exact absurd rfl h
          · obtain rfl : m = m' := by omega
            exact ⟨h2, h3, h4⟩
        have HX := Lib.hid hm4
        clear HCS hm4
        have ex : s.extract k3 m = B ((s.toList.take m).drop k3) := B_extract s k3 m
        have i1 : (0 : Int) ≤ (k3 : Int) := by omega
        have i2 : (k3 : Int) ≤ (m : Int) := by omega
        have i3 : (m : Int) ≤ (s.size : Int) := by omega
        have hxl : ((s.toList.take m).drop k3).length ≤ 1000000000 := by rw [List.length_drop, List.length_take, len_toList]; omega
        generalize (s.toList.take m).drop k3 = tx at *
        have CV := Lib.hid (fun V => rvalid_any (B tx) V (by rw [B_size]; omega))
        rw [B_data] at CV
        have hU := hU3.drewN 1
        clear hU3
        go_wp2
        go_region_held3 (fun w' => w'.cell? ⟨rb, 0, none⟩ = some (.string s) ∧ w'.cell? ⟨rb, 1, none⟩ = some (.int .i64 (k3 : Int)))
          (first | exact ⟨hU.r.c0, hU.r.c1⟩)
          (first
            | (go_at_call 138; refine (CV.out _).mono ?_; rintro e w' ⟨rfl, hb⟩; have hU' := hU.below hb; clear hU hb; have hU := hU'; clear hU'))
        go_upto_if 38 with fail
        go_cut [] (fun wx => VxQ w rb s k3 m pb u tx (pAttr (s.toList.drop (k + 1))) wx)
        case first =>
          cases hv : validB tx
          · have HY : Hid (pAttr (s.toList.drop (k + 1)) = .error 17) := by rw [HX.out, pText, if_pos hv]; rfl
            have CF := Lib.hid (fail_any rb s k3 0 17 _ hU.r)
            clear HX hv
            go_wp2_with fail
            refine CF.out.mono ?_
            rw [ferr_zero]
            rintro e w6 ⟨rfl, hg6, hR6⟩
            have hU6 := hU.grow hg6 hR6
            clear CF hg6 hR6 hU
            go_wp2
            go_meet
            exact ⟨17, hU6, .inl ⟨by omega, HY.out⟩⟩
          · have HY : Hid (pAttr (s.toList.drop (k + 1)) = match unesc tx with | none => .error 5 | some y => .ok ((u, y), s.toList.drop (m + 1))) := by
              rw [HX.out, pText, if_neg (by simp [hv])]
              cases unesc tx <;> rfl
            clear HX hv
            go_wp2
            go_meet
            exact ⟨0, hU, .inr ⟨rfl, HY.out⟩⟩
        case rest =>
          obtain ⟨x2, hU2, hx2⟩ := hcut
          have HX2 := Lib.hid hx2
          clear hx2 HX hU
          have CR := Lib.hid (raw_any rb s k3 x2 tx _ (hU2.r.drewN 1) hxl)
          have hU := hU2.drewN 1
          clear hU2
          go_wp2
          go_region_held3 (fun w' => w'.cell? ⟨rb, 0, none⟩ = some (.string s) ∧ w'.cell? ⟨rb, 1, none⟩ = some (.int .i64 (k3 : Int)))
            (first | exact ⟨hU.r.c0, hU.r.c1⟩ | exact ⟨(cell_block (blk_set hU.n.2.2.1)).trans hU.r.c0, (cell_block (blk_set hU.n.2.2.1)).trans hU.r.c1⟩)
            (first
              | (go_at_call 139; refine CR.out.mono ?_; rintro e w7 ⟨yv, x3, rfl, hg, hR, h1, h2⟩; have HU1 := Lib.hid h1; have HU2 := Lib.hid h2; clear h1 h2; have hU' := hU.grow hg hR; clear hU hg hR; have hU := hU'; clear hU'; have p1 := hU.p.c1; have pf1 := hU.p.f0 (i := 1)))
          have hV := hU.setP (b' := yv)
          have hfin : Hid ((x3 ≠ 0 ∧ pAttr (s.toList.drop (k + 1)) = .error x3) ∨ (x3 = 0 ∧ pAttr (s.toList.drop (k + 1)) = .ok ((u, yv), s.toList.drop (m + 1)))) := by
            rcases HX2.out with ⟨h0, he⟩ | ⟨h0, he⟩
            · rw [HU1.out h0]; exact .inl ⟨h0, he⟩
            · have hu := HU2.out h0
              cases hun : unesc tx with
              | none =>
                rw [hun] at hu he
                have hu : x3 = 5 := hu
                exact .inl ⟨by omega, by rw [he, hu]⟩
              | some v =>
                rw [hun] at hu he
                obtain ⟨h5, rfl⟩ := hu
                exact .inr ⟨h5, he⟩
          have HL := Lib.hid ((HA.out.rd (M := w.heap.size) (fun _ h => h.1)).count prF 2 prF_len (by omega))
          clear HX2 HU1 HU2 CR hU p1 pf1 CV
          go_wp2
          generalize w7.setCell ⟨pb, 1, none⟩ (.string (B yv)) = W8 at *
          go_loopw [7] (fun i wr => ∃ (q : Nat) (x5 : Int), q ≤ n ∧ i = .int .i64 (q : Int) ∧ UI w rb s k3 x5 pb u yv wr ∧ Hid (x5 = DupE x3 u ats q)) (fun i _ => n - (intOf i).toNat)
          case atStart => exact ⟨0, x3, Nat.zero_le _, rfl, hV, by simp [DupE, Hid]⟩
          case round =>
            obtain ⟨q, x5, hq, rfl, hU, hdup⟩ := hrel
            by_cases hqn : q < n
            · obtain ⟨p, hp⟩ := get_of (l := ats) (k := q) (by rw [HL.out]; exact hqn)
              have hAr := HA.out.keep (fun b hb => hU.g.block b hb.1 (fun e => hb.2 (Option.some.inj e)))
              obtain ⟨b, o, hbo, hbm, hcell⟩ := (hAr.rd (M := w.heap.size) (fun _ h => h.1)).elem prF 2 prF_len (by omega) hp
              have HTK := Lib.hid (take_keys hp)
              obtain ⟨pk, pv⟩ := p
              have q0 : wr.cell? ⟨b, o + q * 2, none⟩ = some (.string (B pk)) := hcell 0 _ rfl
              have q1 := hU.p.c0
              have i4 : (0 : Int) ≤ (q : Int) := by omega
              have i5 : (q : Int) < (n : Int) := by omega
              have d5 : decide (q < n) = true := by simpa using hqn
              clear hcell hAr hp
              subst hbo
              by_cases hk : pk = u
              · have HD : Hid (ferr x5 7 = DupE x3 u ats (q + 1)) := by
                  rw [hdup.out]
                  unfold DupE Hid
                  rw [HTK.out]
                  by_cases hx3 : x3 = 0
                  · have hR : (if x3 = 0 ∧ u ∈ (ats.take q).map (·.1) ++ [pk] then (7 : Int) else x3) = 7 := if_pos ⟨hx3, List.mem_append_right _ (by rw [hk]; exact List.mem_singleton.2 rfl)⟩
                    refine Eq.trans ?_ hR.symm
                    by_cases hin : x3 = 0 ∧ u ∈ (ats.take q).map (·.1)
                    · rw [if_pos hin]; exact ferr_ne 7 (by omega)
                    · rw [if_neg hin, hx3]; exact ferr_zero 7
                  · rw [if_neg (fun h => hx3 h.1), if_neg (fun h => hx3 h.1)]
                    exact ferr_ne 7 hx3
                have ek : (pk == u) = true := by simp [hk]
                have CF := Lib.hid (fun m => fail_any rb s k3 x5 7 (wr.drewN m) (hU.r.drewN m))
                clear hk HTK hdup
                go_wp2
                go_quiet (fail)
                go_wp2_with fail
                refine (CF.out _).mono ?_
                rintro e w9 ⟨rfl, hg9, hR9⟩
                have hU9 := (hU.drewN _).grow hg9 hR9
                clear CF hg9 hR9 q0 q1
                go_wp2
                go_roundw
                case rel => exact ⟨q + 1, _, by omega, by go_num, hU9, HD⟩
                case measure => simp [intOf]; omega
              · have HD : Hid (x5 = DupE x3 u ats (q + 1)) := by
                  rw [hdup.out]
                  unfold DupE Hid
                  rw [HTK.out]
                  have : (u ∈ (ats.take q).map (·.1) ++ [pk]) ↔ u ∈ (ats.take q).map (·.1) := by
                    rw [List.mem_append]
                    constructor
                    · rintro (h | h)
                      · exact h
                      · simp at h; exact absurd h.symm hk
                    · exact .inl
                  simp only [this]
                have ek : (pk == u) = false := by simpa using hk
                have hU9 := fun m => hU.drewN m
                have HU9 := Lib.hid hU9
                clear hk HTK hdup hU9
                go_wp2
                go_quiet (fail)
                go_wp2
                go_roundw
                case rel => exact ⟨q + 1, _, by omega, by go_num, HU9.out _, HD⟩
                case measure => simp [intOf]; omega
            · obtain rfl : q = n := by omega
              have d5 : decide (q < q) = false := by simp
              have hR7 := hU.r.setK (m := m + 1)
              have g7 := grown_trans hU.g (grown_setC wr rb 1 (.int .i64 ((m + 1 : Nat) : Int)))
              have hZ7 : P2 _ w.heap.size [] [] := (blk_set (w := wr) (c := rb) (i := 1) (u := .int .i64 ((m + 1 : Nat) : Int)) hne).trans hU.z
              have hP7 : P2 _ pb u yv := (blk_set (w := wr) (c := rb) (i := 1) (u := .int .i64 ((m + 1 : Nat) : Int)) hU.n.2.2.1.symm).trans hU.p
              have eI : ((m + 1 : Nat) : Int) = (m : Int) + 1 := by omega
              rw [eI] at hR7 g7 hZ7 hP7
              have cf := hU.r.ff (i := 1)
              have c1 := hU.r.c1
              have p0 := hP7.c0
              have p1 := hP7.c1
              have z0 := hZ7.c0
              have z1 := hZ7.c1
              have zf0 := hZ7.f0 (i := 0)
              have zf1 := hZ7.f0 (i := 1)
              have hn1 := hU.n.1
              have hn2 := hU.n.2.2.1
              have hne2 : w.heap.size ≠ rb := hne.symm
              have HDUP : Hid (x5 = DupE x3 u ats ats.length) := by rw [hdup.out, HL.out]; rfl
              clear hU hdup eI
              go_wp2
              refine bodyPost_ret (v := .agg #[.string (B u), .string (B yv)]) (by simp [results, Tryz.results116, go_sem, z0, z1]) rfl ?_
              refine ⟨(u, yv), rfl, grown_setN (grown_setN g7 (Nat.le_refl _)) (Nat.le_refl _), m + 1, x5, by omega, (blk_set hne2).trans ((blk_set hne2).trans hR7), ?_⟩
              have hd := HDUP.out
              unfold DupE at hd
              rw [List.take_length] at hd
              unfold pNew
              rcases hfin.out with ⟨h0, he⟩ | ⟨h0, he⟩
              · rw [he]
                rw [if_neg (fun h => h0 h.1)] at hd
                exact hd
              · rw [he]
                simp only
                by_cases hin : u ∈ ats.map (·.1)
                · rw [if_pos hin]
                  rw [if_pos ⟨h0, hin⟩] at hd
                  exact hd
                · rw [if_neg hin]
                  rw [if_neg (fun h => hin h.2)] at hd
                  exact ⟨hd.trans h0, rfl, rfl⟩
end Go.Proofs.YtejjidbodfoiiaaGreatDoor
namespace Go.Proofs.YtejjidbodfoiiaaGreatDoor
open Go.RowKit
set_option linter.unusedVariables false
set_option linter.unusedSimpArgs false

/-- One element, of the cells us, appended to a row of the call's own, as one step of a region that draws. -/
theorem step_app {P : Program} {ops : Array Oper} {o : Oper} {a : Act} {K : Act → World → Prop} {Q : Exit → Act → World → Prop} {E : Prop} (hgd : o.guard = none) (s x : Operand) (t : TypeId)
    (ho : o.op = .call { callee := .builtin .append, args := #[s, x], argTypes := #[t, t] })
    (e : TypeId) (z : Value) (sz bytes : Nat) (ht : P.underlying t = some (.slice e)) (hinf : (P.info? e).map (fun i => (i.zero, i.size, i.bytes)) = some (some z, sz, bytes))
    (hzs : z.cells.size = sz) (hsz : 0 < sz) (wr : World) (us : List Value) (hl : us.length = sz) (hu : ∀ u ∈ us, u.oneCell' = true)
    (base : Nat) (v : Value) (n : Nat) (xs : List Value) (hown : wr.ownsRow base e sz v n xs) (hs : a.eval s = v) (hx : a.eval x = .slice (some ⟨wr.heap.size, 0, none⟩) 1 1)
    (hn : n + 1 ≤ 1099511627776) (hbytes : bytes ≤ 128) (hbase : base ≤ wr.heap.size)
    (h : ∀ g cap w', w'.ownsRow base e sz (.slice (some ⟨g, 0, none⟩) (n + 1) cap) (n + 1) (xs ++ us) → wr.grownBy w' v.ownBlock → Below base wr w' → K (a.put o.dst (.slice (some ⟨g, 0, none⟩) (n + 1) cap)) w') :
    if Region.wanted o (yielded ops a.tmps) = true then Oper.wp P o a (wr.alloc (.cells us.toArray e)) K Q else E := by
  obtain ⟨i0, hi, hz0, hz1, hz2⟩ := info_parts hinf
  refine step_append_lies _ hgd s x t ho base e i0 z sz bytes ht hi hz0 hz1 hz2 hzs hsz v n xs hs (hown.alloc _) ⟨wr.heap.size, 0, none⟩ 1 1 us hx (by rw [hl, Nat.one_mul]) ?_ hu (by omega) (by simp only [maxLen]; omega) ?_ (by simp; omega) _ rfl ?_
  · intro j u hj
    have hlt : j < us.length := (List.getElem?_eq_some_iff.1 hj).1
    rw [addr_lit, cell_of_row (wr.alloc (.cells us.toArray e)) wr.heap.size _ us.toArray e (0, 0) (heap_alloc_new wr _)]
    simpa using hj
  · have : (n + 1) * bytes ≤ 1099511627776 * 128 := Nat.mul_le_mul hn hbytes
    omega
  · intro g cap w' h1 h2 _ _
    have hg : wr.grownBy w' v.ownBlock := grown_trans (World.grownBy_alloc wr _ _) h2
    exact h g cap w' h1 hg (below_of_grown hg hbase fun k hk => (hown.lt k hk).1)
/-- step_app, with where the row lies -/
theorem step_app2 {P : Program} {ops : Array Oper} {o : Oper} {a : Act} {K : Act → World → Prop} {Q : Exit → Act → World → Prop} {E : Prop} (hgd : o.guard = none) (s x : Operand) (t : TypeId)
    (ho : o.op = .call { callee := .builtin .append, args := #[s, x], argTypes := #[t, t] })
    (e : TypeId) (z : Value) (sz bytes : Nat) (ht : P.underlying t = some (.slice e)) (hinf : (P.info? e).map (fun i => (i.zero, i.size, i.bytes)) = some (some z, sz, bytes))
    (hzs : z.cells.size = sz) (hsz : 0 < sz) (wr : World) (us : List Value) (hl : us.length = sz) (hu : ∀ u ∈ us, u.oneCell' = true)
    (base : Nat) (v : Value) (n : Nat) (xs : List Value) (hown : wr.ownsRow base e sz v n xs) (hs : a.eval s = v) (hx : a.eval x = .slice (some ⟨wr.heap.size, 0, none⟩) 1 1)
    (hn : n + 1 ≤ 1099511627776) (hbytes : bytes ≤ 128) (hbase : base ≤ wr.heap.size)
    (h : ∀ g cap w', w'.ownsRow base e sz (.slice (some ⟨g, 0, none⟩) (n + 1) cap) (n + 1) (xs ++ us) → wr.grownBy w' v.ownBlock → Below base wr w' → (v.ownBlock = some g ∨ g = wr.heap.size + 1) → K (a.put o.dst (.slice (some ⟨g, 0, none⟩) (n + 1) cap)) w') :
    if Region.wanted o (yielded ops a.tmps) = true then Oper.wp P o a (wr.alloc (.cells us.toArray e)) K Q else E := by
  obtain ⟨i0, hi, hz0, hz1, hz2⟩ := info_parts hinf
  refine step_append_lies _ hgd s x t ho base e i0 z sz bytes ht hi hz0 hz1 hz2 hzs hsz v n xs hs (hown.alloc _) ⟨wr.heap.size, 0, none⟩ 1 1 us hx (by rw [hl, Nat.one_mul]) ?_ hu (by omega) (by simp only [maxLen]; omega) ?_ (by simp; omega) _ rfl ?_
  · intro j u hj
    have hlt : j < us.length := (List.getElem?_eq_some_iff.1 hj).1
    rw [addr_lit, cell_of_row (wr.alloc (.cells us.toArray e)) wr.heap.size _ us.toArray e (0, 0) (heap_alloc_new wr _)]
    simpa using hj
  · have : (n + 1) * bytes ≤ 1099511627776 * 128 := Nat.mul_le_mul hn hbytes
    omega
  · intro g cap w' h1 h2 h3 _
    have hg : wr.grownBy w' v.ownBlock := grown_trans (World.grownBy_alloc wr _ _) h2
    exact h g cap w' h1 hg (below_of_grown hg hbase fun k hk => (hown.lt k hk).1) (by simpa using h3)
end Go.Proofs.YtejjidbodfoiiaaGreatDoor
namespace Go.Proofs.YtejjidbodfoiiaaGreatDoor
open Go.RowKit
set_option linter.unusedVariables false
set_option linter.unusedSimpArgs false
attribute [local go_sem] B_data B_size
attribute [local go_sem ↓] Go.wp_at_zero Go.wp_at_succ

/-- the contract of the chapter's node at a fuel -/
def NdY (g : Nat) : Prop := ∀ (rb : Nat) (s : ByteArray) (k : Nat) (kid : Bool) (w : World), Ry w rb s k 0 → k ≤ s.size → s.size ≤ 1000000000 → 2 * (s.size - k) + 1 ≤ g →
  Calls Tryz.prog 84 #[.pointer (some ⟨rb, 0, none⟩), .bool kid] w (NzPost rb s (if s.toList.drop k = [] then .error 4 else pN g kid (s.toList.drop k)) w)
/-- the element while it is read: the result, the node in its block, with what it has so far -/
structure EZ (w : World) (rb : Nat) (s : ByteArray) (nm : List UInt8) (base ob k : Nat) (x : Int) (ats : List (List UInt8 × List UInt8)) (A : Option Addr) (ca : Nat) (W : World) : Prop where
  r : Ry W rb s k x
  z : Bx W w.heap.size nc0
  b : Bx W ob ⟨nm, [], A, ats.length, ca, none, 0, 0⟩
  own : W.ownsRow base 71 2 (.slice A ats.length ca) ats.length (ats.flatMap prF)
  g : w.grownBy W (some rb)
  o : rb < w.heap.size ∧ w.heap.size < ob ∧ ob < base ∧ base ≤ W.heap.size
theorem EZ.grow {w : World} {rb : Nat} {s : ByteArray} {nm : List UInt8} {base ob k k' : Nat} {x x' : Int} {ats : List (List UInt8 × List UInt8)} {A : Option Addr} {ca : Nat} {W W' : World} (h : EZ w rb s nm base ob k x ats A ca W) (hg : W.grownBy W' (some rb)) (hr : Ry W' rb s k' x') : EZ w rb s nm base ob k' x' ats A ca W' := by
  have o := h.o
  have hs := hg.size
  exact ⟨hr, h.z.grown hg (by omega), h.b.grown hg (by omega), own_grown h.own hg (by omega), grown_trans h.g hg, by omega⟩
theorem EZ.drewN {w : World} {rb : Nat} {s : ByteArray} {nm : List UInt8} {base ob k : Nat} {x : Int} {ats : List (List UInt8 × List UInt8)} {A : Option Addr} {ca : Nat} {W : World} (h : EZ w rb s nm base ob k x ats A ca W) (n : Nat) : EZ w rb s nm base ob k x ats A ca (W.drewN n) :=
  h.grow (grown_drewN (grown_refl _ _) n) (h.r.drewN n)
theorem EZ.rds {w : World} {rb : Nat} {s : ByteArray} {nm : List UInt8} {base ob k : Nat} {x : Int} {ats : List (List UInt8 × List UInt8)} {A : Option Addr} {ca : Nat} {W : World} (h : EZ w rb s nm base ob k x ats A ca W) : RdS W (fun b => b < W.heap.size ∧ b ≠ rb) 2 A ats.length (ats.flatMap prF) :=
  (RdS.of_own h.own).mono fun b hb => ⟨hb.2, by have := h.o; omega⟩
/-- one attribute more -/
theorem EZ.app {w : World} {rb : Nat} {s : ByteArray} {nm : List UInt8} {base ob k : Nat} {x : Int} {ats : List (List UInt8 × List UInt8)} {A : Option Addr} {ca : Nat} {W1 W2 : World} {p : List UInt8 × List UInt8} {A' : Option Addr} {ca' : Nat} (h : EZ w rb s nm base ob k x ats A ca W1)
    (ho : W2.ownsRow base 71 2 (.slice A' (ats.length + 1) ca') (ats.length + 1) (ats.flatMap prF ++ prF p)) (hb : Below base W1 W2) :
    EZ w rb s nm base ob k x (ats ++ [p]) A' ca' (W2.setCell ⟨ob, 2, none⟩ (.slice A' (ats.length + 1) ca')) := by
  have o := h.o
  have hsz := hb.size
  have B := fun q (hq : q < base) => hb.block q hq
  have S := fun q (hq : ob ≠ q) => (blk_set (w := W2) (c := ob) (k := q) (i := 2) (u := .slice A' (ats.length + 1) ca') hq)
  refine ⟨(S rb (by omega)).trans ((B rb (by omega)).trans h.r), (S _ (by omega)).trans ((B _ (by omega)).trans h.z), ?_, ?_, ?_, by rw [size_set]; omega⟩
  · have hbx : Bx W2 ob _ := (B ob (by omega)).trans h.b
    unfold Bx at *
    simp [World.setCell, Array.getElem?_modify, hbx]
  · have ho' := ho.kept (grown_set W2 ob 2 (.slice A' (ats.length + 1) ca')) (.inr fun e => by have := (ho.lt ob e).1; omega)
    rw [List.length_append, List.flatMap_append, List.flatMap_singleton]
    exact ho'
  · exact ⟨hb.os.trans h.g.os, hb.tape.trans h.g.tape, hb.output.trans h.g.output, by rw [size_set]; have := h.g.size; omega, fun i hi hne => (S i (by omega)).trans ((B i (by omega)).trans (h.g.block i hi hne))⟩
/-- the kids so far -/
structure KZ (w : World) (rb : Nat) (s : ByteArray) (nm : List UInt8) (base0 base ob k : Nat) (x : Int) (ats : List (List UInt8 × List UInt8)) (A : Option Addr) (ca : Nat) (ks : List Nd) (cs : List NC) (K : Option Addr) (ck : Nat) (W : World) : Prop where
  r : Ry W rb s k x
  z : Bx W w.heap.size nc0
  b : Bx W ob ⟨nm, [], A, ats.length, ca, K, ks.length, ck⟩
  aa : RdS W (fun b => base0 ≤ b ∧ b < base) 2 A ats.length (ats.flatMap prF)
  own : W.ownsRow base 65 4 (.slice K ks.length ck) ks.length (cs.flatMap NC.cells)
  kk : KsAt W (fun b => base ≤ b ∧ b < W.heap.size ∧ some b ≠ (Value.slice K ks.length ck).ownBlock) ks cs
  g : w.grownBy W (some rb)
  o : rb < w.heap.size ∧ w.heap.size < ob ∧ ob < base0 ∧ base0 ≤ base ∧ base ≤ W.heap.size
theorem EZ.kids {w : World} {rb : Nat} {s : ByteArray} {nm : List UInt8} {base ob k : Nat} {x : Int} {ats : List (List UInt8 × List UInt8)} {A : Option Addr} {ca : Nat} {W : World} (h : EZ w rb s nm base ob k x ats A ca W) : KZ w rb s nm base W.heap.size ob k x ats A ca [] [] none 0 W := by
  have o := h.o
  exact ⟨h.r, h.z, h.b, RdS.of_own h.own, ⟨rfl, .inl ⟨rfl, rfl⟩⟩, rfl, h.g, by omega⟩
theorem KZ.grow {w : World} {rb : Nat} {s : ByteArray} {nm : List UInt8} {base0 base ob k k' : Nat} {x x' : Int} {ats : List (List UInt8 × List UInt8)} {A : Option Addr} {ca : Nat} {ks : List Nd} {cs : List NC} {K : Option Addr} {ck : Nat} {W W' : World}
    (h : KZ w rb s nm base0 base ob k x ats A ca ks cs K ck W) (hg : W.grownBy W' (some rb)) (hr : Ry W' rb s k' x') : KZ w rb s nm base0 base ob k' x' ats A ca ks cs K ck W' := by
  have o := h.o
  have hs := hg.size
  have ne : ∀ b, w.heap.size ≤ b → some b ≠ some rb := fun b hb e => by injection e with e; omega
  exact ⟨hr, h.z.grown hg (by omega), h.b.grown hg (by omega), h.aa.keep (fun b hb => hg.block b (by omega) (ne _ (by omega))), own_grown h.own hg (by omega),
    h.kk.keep (fun b hb => ⟨hb.1, Nat.lt_of_lt_of_le hb.2.1 hg.size, hb.2.2⟩) (fun b hb => hg.block b hb.2.1 (ne _ (by omega))), grown_trans h.g hg, by omega⟩
theorem KZ.drewN {w : World} {rb : Nat} {s : ByteArray} {nm : List UInt8} {base0 base ob k : Nat} {x : Int} {ats : List (List UInt8 × List UInt8)} {A : Option Addr} {ca : Nat} {ks : List Nd} {cs : List NC} {K : Option Addr} {ck : Nat} {W : World}
    (h : KZ w rb s nm base0 base ob k x ats A ca ks cs K ck W) (n : Nat) : KZ w rb s nm base0 base ob k x ats A ca ks cs K ck (W.drewN n) :=
  h.grow (grown_drewN (grown_refl _ _) n) (h.r.drewN n)
/-- one kid more -/
theorem KZ.app {w : World} {rb : Nat} {s : ByteArray} {nm : List UInt8} {base0 base ob k : Nat} {x : Int} {ats : List (List UInt8 × List UInt8)} {A : Option Addr} {ca : Nat} {ks : List Nd} {cs : List NC} {K : Option Addr} {ck : Nat} {W1 W2 : World} {n : Nd} {c : NC} {K' : Option Addr} {ck' : Nat}
    (h : KZ w rb s nm base0 base ob k x ats A ca ks cs K ck W1) (hn : NdAt W1 (fun b => base ≤ b ∧ b < W1.heap.size ∧ some b ≠ (Value.slice K ks.length ck).ownBlock) n c)
    (ho : W2.ownsRow base 65 4 (.slice K' (ks.length + 1) ck') (ks.length + 1) (cs.flatMap NC.cells ++ c.cells)) (hb : Below base W1 W2) (hg2 : W1.grownBy W2 (Value.slice K ks.length ck).ownBlock)
    (hat : (Value.slice K' (ks.length + 1) ck').ownBlock = (Value.slice K ks.length ck).ownBlock ∨ ∀ b, (Value.slice K' (ks.length + 1) ck').ownBlock = some b → W1.heap.size ≤ b) :
    KZ w rb s nm base0 base ob k x ats A ca (ks ++ [n]) (cs ++ [c]) K' ck' (W2.setCell ⟨ob, 3, none⟩ (.slice K' (ks.length + 1) ck')) := by
  have o := h.o
  have hsz := hg2.size
  have B := fun q (hq : q < base) => hb.block q hq
  have S := fun q (hq : ob ≠ q) => (blk_set (w := W2) (c := ob) (k := q) (i := 3) (u := .slice K' (ks.length + 1) ck') hq)
  have eS : ∀ b, (base ≤ b ∧ b < W1.heap.size ∧ some b ≠ (Value.slice K ks.length ck).ownBlock) → (base ≤ b ∧ b < (W2.setCell ⟨ob, 3, none⟩ (.slice K' (ks.length + 1) ck')).heap.size ∧ some b ≠ (Value.slice K' (ks ++ [n]).length ck').ownBlock) := by
    intro b ⟨h1, h2, h3⟩
    refine ⟨h1, by rw [size_set]; omega, ?_⟩
    rw [List.length_append]
    rcases hat with e | e
    · exact fun x => h3 (x.trans e)
    · intro x
      have := e b x.symm
      omega
  have eK : ∀ b, (base ≤ b ∧ b < W1.heap.size ∧ some b ≠ (Value.slice K ks.length ck).ownBlock) → (W2.setCell ⟨ob, 3, none⟩ (.slice K' (ks.length + 1) ck')).heap[b]? = W1.heap[b]? := fun b ⟨h1, h2, h3⟩ => (S b (by omega)).trans (hg2.block b h2 h3)
  refine ⟨(S rb (by omega)).trans ((B rb (by omega)).trans h.r), (S _ (by omega)).trans ((B _ (by omega)).trans h.z), ?_, ?_, ?_, (h.kk.keep eS eK).snoc (NdAt.keep eS eK n c hn), ?_, by rw [size_set]; omega⟩
  · have hbx : Bx W2 ob _ := (B ob (by omega)).trans h.b
    unfold Bx at *
    simp [World.setCell, Array.getElem?_modify, hbx]
  · exact h.aa.keep (fun b hb' => (S b (by omega)).trans (B b hb'.2))
  · have ho' := ho.kept (grown_set W2 ob 3 (.slice K' (ks.length + 1) ck')) (.inr fun e => by have := (ho.lt ob e).1; omega)
    rw [List.length_append, List.flatMap_append, List.flatMap_singleton]
    exact ho'
  · exact ⟨hg2.os.trans h.g.os, hg2.tape.trans h.g.tape, hg2.output.trans h.g.output, by rw [size_set]; exact Nat.le_trans h.g.size hg2.size, fun i hi hne => (S i (by omega)).trans ((B i (by omega)).trans (h.g.block i hi hne))⟩
/-- the element that has been read -/
theorem KZ.node {w : World} {rb : Nat} {s : ByteArray} {nm : List UInt8} {base0 base ob k : Nat} {x : Int} {ats : List (List UInt8 × List UInt8)} {A : Option Addr} {ca : Nat} {ks : List Nd} {cs : List NC} {K : Option Addr} {ck : Nat} {W W' : World}
    (h : KZ w rb s nm base0 base ob k x ats A ca ks cs K ck W) (hk : ∀ b, base0 ≤ b → b < W.heap.size → W'.heap[b]? = W.heap[b]?) (hs : W.heap.size ≤ W'.heap.size) :
    NdAt W' (fun b => w.heap.size ≤ b ∧ b < W'.heap.size) (.mk nm [] ats ks) ⟨nm, [], A, ats.length, ca, K, ks.length, ck⟩ := by
  have o := h.o
  have hkk := h.kk.len
  exact ⟨rfl, rfl, (h.aa.keep (fun b hb => hk b hb.1 (by omega))).mono (fun b hb => ⟨by omega, by omega⟩), cs,
    ((RdS.of_own h.own).keep (fun b hb => hk b (by omega) hb.2)).mono (fun b hb => ⟨by omega, by omega⟩),
    h.kk.keep (fun b hb => ⟨by omega, by omega⟩) (fun b hb => hk b (by omega) hb.2.1)⟩
/-- what stands behind the attributes -/
def pRest (f : Nat) (nm : List UInt8) (ats : List (List UInt8 × List UInt8)) (r2 : List UInt8) : Except Int (Nd × List UInt8) :=
  if emptyB nm = true then (match pExp [47, 62] r2 with
    | .error e => .error e
    | .ok r3 => .ok (.mk nm [] ats [], r3))
  else match pExp [62] r2 with
    | .error e => .error e
    | .ok r3 => match pKs f r3 with
      | .error e => .error e
      | .ok (ks, r4) => match pExp ([60, 47] ++ nm ++ [62]) r4 with
        | .error e => .error e
        | .ok r5 => .ok (.mk nm [] ats ks, r5)
def bindR {α β : Type} (r : Except Int (α × List UInt8)) (F : α → List UInt8 → Except Int β) : Except Int β := match r with
  | .error e => .error e
  | .ok (a, l) => F a l
end Go.Proofs.YtejjidbodfoiiaaGreatDoor
namespace Go.Proofs.YtejjidbodfoiiaaGreatDoor
open Go.RowKit
set_option linter.unusedVariables false
set_option linter.unusedSimpArgs false
attribute [local go_sem] B_data B_size
attribute [local go_sem ↓] Go.wp_at_zero Go.wp_at_succ

theorem pN_rest (f : Nat) (kid : Bool) (l : List UInt8) (h : l.head? = some 60) : pN (f + 1) kid l = match pName (l.drop 1) with
    | .error e => .error e
    | .ok (nm, r1) => bindR (pAttrs (r1.length + 1) [] r1) (pRest f nm) := by
  rw [pN, if_pos h]
  cases pName (l.drop 1) with
  | error e => rfl
  | ok y =>
    obtain ⟨nm, r1⟩ := y
    simp only
    cases pAttrs (r1.length + 1) [] r1 <;> rfl
/-- what stands behind the kids -/
def pTail (nm : List UInt8) (ats : List (List UInt8 × List UInt8)) (ks : List Nd) (r4 : List UInt8) : Except Int (Nd × List UInt8) := match pExp ([60, 47] ++ nm ++ [62]) r4 with
  | .error e => .error e
  | .ok r5 => .ok (.mk nm [] ats ks, r5)
theorem pRest_kids {f : Nat} {nm : List UInt8} {ats : List (List UInt8 × List UInt8)} {r2 r3 : List UInt8} (he : emptyB nm = false) (h : pExp [62] r2 = .ok r3) : pRest f nm ats r2 = bindR (pKs f r3) (pTail nm ats) := by
  rw [pRest, if_neg (by simp [he]), h]
  simp only
  cases pKs f r3 <;> rfl
set_option maxHeartbeats 1000000 in
/-- behind an error nothing is read, however long the text is -/
theorem want_errL (rb : Nat) (s : ByteArray) (k : Nat) (x : Int) (t : List UInt8) (w : World) (h : Ry w rb s k x) (hx : x ≠ 0) :
    Calls Tryz.prog 114 #[.pointer (some ⟨rb, 0, none⟩), .string (B t)] w (ErPost rb s k x w) := by
  have c2 := h.c2
  have z : (x == 0) = false := by simpa using hx
  clear hx
  go_enter Tryz.func114, Tryz.ntmps114
  go_wp2
  go_loopw [4] (fun i wr => i = .int .i64 0 ∧ wr = w) (fun _ _ => 0)
  case atStart => exact ⟨rfl, rfl⟩
  case round =>
    obtain ⟨rfl, rfl⟩ := hrel
    by_cases hl : 0 < t.length
    · have d0 : decide ((0 : Int) < (t.length : Int)) = true := by simp only [decide_eq_true_eq]; omega
      have d9 : decide (0 < t.length) = true := by simpa using hl
      go_wp2
      go_end0
      exact ⟨rfl, grown_refl _ _, h⟩
    · have d0 : decide ((0 : Int) < (t.length : Int)) = false := by simp only [decide_eq_false_iff_not]; omega
      have d9 : decide (0 < t.length) = false := by simpa using hl
      go_wp2
      go_end0
      exact ⟨rfl, grown_refl _ _, h⟩
def WgPost (rb : Nat) (s : ByteArray) (k : Nat) (x : Int) (t : List UInt8) (w : World) (e : Ending) (w' : World) : Prop := e = .returned (.tuple #[]) ∧ w.grownBy w' (some rb) ∧ ∃ (k' : Nat) (x' : Int), k' ≤ s.size ∧ Ry w' rb s k' x' ∧ (x ≠ 0 → x' = x) ∧ (x = 0 → match pExp t (s.toList.drop k) with
  | .error y => x' = y
  | .ok l => x' = 0 ∧ s.toList.drop k' = l)
/-- want, whatever error there is -/
theorem want_gen (rb : Nat) (s : ByteArray) (k : Nat) (x : Int) (t : List UInt8) (w : World) (h : Ry w rb s k x) (hk : k ≤ s.size) (hs : s.size ≤ 1000000000) (ht : x = 0 → t.length ≤ 1000000000) :
    Calls Tryz.prog 114 #[.pointer (some ⟨rb, 0, none⟩), .string (B t)] w (WgPost rb s k x t w) := by
  by_cases hx : x = 0
  · subst hx
    refine (want_any rb s k t w h hk hs (ht rfl)).mono ?_
    rintro e w' ⟨he, hg, k', x', hk', hR, hm⟩
    exact ⟨he, hg, k', x', hk', hR, fun h => absurd rfl h, fun _ => hm⟩
  · refine (want_errL rb s k x t w h hx).mono ?_
    rintro e w' ⟨he, hg, hR⟩
    exact ⟨he, hg, k, x, hk, hR, fun _ => rfl, fun h => absurd h hx⟩
/-- the rounds that the chapter's reader has left, at most -/
def lefty (s : ByteArray) (w : World) (rb : Nat) : Nat := match w.cell? ⟨rb, 2, none⟩ with
  | some (.int _ n) => if n = 0 then s.size - rat w rb + 1 else 0
  | _ => 0
theorem lefty_at {s : ByteArray} {w : World} {rb k : Nat} {x : Int} (h : Ry w rb s k x) : lefty s w rb = if x = 0 then s.size - k + 1 else 0 := by
  unfold lefty
  rw [h.c2, ratY h]
theorem lefty_lt {s : ByteArray} {w w' : World} {rb k k' : Nat} {x' : Int} (h : Ry w rb s k 0) (h' : Ry w' rb s k' x') (hk : k < s.size) (hm : x' = 0 → k < k') : lefty s w' rb < lefty s w rb := by
  rw [lefty_at h, lefty_at h', if_pos rfl]
  by_cases hx : x' = 0
  · have := hm hx
    rw [if_pos hx]; omega
  · rw [if_neg hx]; omega
/-- what is left to be shown at the end of a node -/
def FinN (s : ByteArray) (R : Except Int (Nd × List UInt8)) (x : Int) (k : Nat) (n : Nd) : Prop := (x ≠ 0 ∧ R = .error x) ∨ (x = 0 ∧ R = .ok (n, s.toList.drop k))
theorem FinN.post {s : ByteArray} {R : Except Int (Nd × List UInt8)} {x : Int} {k : Nat} {n : Nd} {rb : Nat} {w w' : World} {c : NC} (h : FinN s R x k n) (hg : w.grownBy w' (some rb)) (hk : k ≤ s.size) (hR : Ry w' rb s k x) (hn : NdAt w' (fun b => w.heap.size ≤ b ∧ b < w'.heap.size) n c) :
    NzPost rb s R w (.returned (.agg #[.string (B c.nm), .string (B c.tx), .slice c.A c.na c.ca, .slice c.K c.nk c.ck])) w' := by
  refine ⟨c, rfl, hg, k, x, hk, hR, ?_⟩
  rcases h with ⟨_, h⟩ | ⟨h0, h⟩
  · rw [h]
  · rw [h]; exact ⟨h0, hn, rfl⟩
/-- the attributes so far, and what that says of the whole -/
def StA (s : ByteArray) (f : Nat) (u : List UInt8) (R : Except Int (Nd × List UInt8)) (j : Nat) (x : Int) (ats : List (List UInt8 × List UInt8)) : Prop :=
  (x ≠ 0 ∧ R = .error x) ∨ (x = 0 ∧ ats.length ≤ j ∧ ∃ g, s.size - j < g ∧ R = bindR (exA ats (pAttrs g (ats.map (·.1)) (s.toList.drop j))) (pRest f u))
/-- one attribute more -/
theorem StA.step {s : ByteArray} {f : Nat} {u : List UInt8} {R : Except Int (Nd × List UInt8)} {j k' : Nat} {ats : List (List UInt8 × List UInt8)} {p : List UInt8 × List UInt8} {x' : Int} (h : StA s f u R j 0 ats) (hj : j < s.size) (h32 : s[j] = 32) (hk' : k' ≤ s.size)
    (hm : match pNew (ats.map (·.1)) (pAttr (s.toList.drop (j + 1))) with
      | .error y => x' = y
      | .ok (q, l) => x' = 0 ∧ p = q ∧ s.toList.drop k' = l) : StA s f u R k' x' (ats ++ [p]) ∧ (x' = 0 → j < k') := by
  rcases h with ⟨h, _⟩ | ⟨_, hal, g, hg, hR⟩
  · exact absurd rfl h
  obtain ⟨g, rfl⟩ : ∃ g', g = g' + 1 := ⟨g - 1, by omega⟩
  have hh : (s.toList.drop j).head? = some 32 := by rw [drop_head s j hj, h32]
  rw [pAttrs, if_pos hh, List.drop_drop] at hR
  cases ha : pAttr (s.toList.drop (j + 1)) with
  | error y =>
    rw [ha] at hm hR
    simp only [pNew] at hm
    subst hm
    have := pAttr_err ha
    exact ⟨.inl ⟨this, hR⟩, fun h => absurd h this⟩
  | ok z =>
    obtain ⟨q, l⟩ := z
    rw [ha] at hm hR
    simp only [pNew] at hm
    simp only at hR
    by_cases hq : q.1 ∈ ats.map (·.1)
    · rw [if_pos hq] at hm hR
      have hm : x' = 7 := hm
      subst hm
      exact ⟨.inl ⟨by omega, hR⟩, fun h => absurd h (by omega)⟩
    · rw [if_neg hq] at hm hR
      obtain ⟨h0, rfl, hd⟩ : x' = 0 ∧ p = q ∧ s.toList.drop k' = l := hm
      have hlen : l.length + 1 ≤ s.size - (j + 1) := by
        obtain ⟨_, _, e⟩ := pAttr_some ha
        have e := congrArg List.length e
        rw [drop_len, List.length_append] at e
        simp only [mkA, List.length_append, List.length_cons, List.length_nil] at e
        omega
      have hkk : j < k' := by
        rw [← hd, drop_len] at hlen
        omega
      refine ⟨.inr ⟨h0, by rw [List.length_append]; show ats.length + 1 ≤ k'; omega, g, by omega, ?_⟩, fun _ => hkk⟩
      rw [hR, List.map_append, hd]
      congr 1
      exact exA_snoc
theorem StA.stop {s : ByteArray} {f : Nat} {u : List UInt8} {R : Except Int (Nd × List UInt8)} {j : Nat} {x : Int} {ats : List (List UInt8 × List UInt8)} (h : StA s f u R j x ats) (hb : x = 0 → ¬ [32] <+: s.toList.drop j) : (x ≠ 0 ∧ R = .error x) ∨ (x = 0 ∧ R = pRest f u ats (s.toList.drop j)) := by
  rcases h with h | ⟨h0, _, g, hg, hR⟩
  · exact .inl h
  · refine .inr ⟨h0, ?_⟩
    obtain ⟨g, rfl⟩ : ∃ g', g = g' + 1 := ⟨g - 1, by omega⟩
    have hh : ¬ (s.toList.drop j).head? = some 32 := by
      intro h
      refine hb h0 ?_
      cases hd : s.toList.drop j with
      | nil => rw [hd] at h; cases h
      | cons a r =>
        rw [hd] at h
        have : a = 32 := Option.some.inj h
        subst this
        exact ⟨r, rfl⟩
    rw [hR, pAttrs, if_neg hh]
    simp [exA, bindR]
/-- the kids so far, and what that says of the whole -/
def StK (s : ByteArray) (f : Nat) (u : List UInt8) (ats : List (List UInt8 × List UInt8)) (R : Except Int (Nd × List UInt8)) (j : Nat) (x : Int) (ks : List Nd) : Prop :=
  (x ≠ 0 ∧ R = .error x) ∨ (x = 0 ∧ ks.length ≤ j ∧ ∃ g, 2 * (s.size - j) + 2 ≤ g ∧ g ≤ f ∧ R = bindR (exA ks (pKs g (s.toList.drop j))) (pTail u ats))
end Go.Proofs.YtejjidbodfoiiaaGreatDoor
