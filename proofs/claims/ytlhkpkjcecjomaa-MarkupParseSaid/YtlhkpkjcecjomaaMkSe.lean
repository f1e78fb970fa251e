/-
  Layer 33 (markup): the reader of the chapter: attr.
-/
import Derived.Test.YtlhkpkjcecjomaaMkSd
namespace Go.Proofs.Ytlhkpkjcecjomaa
open Go.RowKit
set_option linter.unusedVariables false
set_option linter.unusedSimpArgs false
attribute [local go_sem] B_data B_size
attribute [local go_sem ↓] Go.wp_at_zero Go.wp_at_succ

/-- an attribute that is not among those before -/
def pNew (S : List (List UInt8)) (r : Except Int ((List UInt8 × List UInt8) × List UInt8)) : Except Int ((List UInt8 × List UInt8) × List UInt8) := match r with
  | .error e => .error e
  | .ok (p, l) => if p.1 ∈ S then .error 7 else .ok (p, l)
def PzPost (rb : Nat) (s : ByteArray) (r : Except Int ((List UInt8 × List UInt8) × List UInt8)) (w : World) (e : Ending) (w' : World) : Prop := ∃ p : List UInt8 × List UInt8, e = .returned (.agg #[.string (B p.1), .string (B p.2)]) ∧ w.grownBy w' (some rb) ∧ ∃ (k : Nat) (x : Int), k ≤ s.size ∧ Ry w' rb s k x ∧ match r with
  | .error y => x = y
  | .ok (q, l) => x = 0 ∧ p = q ∧ s.toList.drop k = l
/-- what is known while an attribute is read: the result, the attribute in its block -/
structure UI (w : World) (rb : Nat) (s : ByteArray) (k : Nat) (x : Int) (pb : Nat) (a b : List UInt8) (W : World) : Prop where
  r : Ry W rb s k x
  z : P2 W w.heap.size [] []
  p : P2 W pb a b
  g : w.grownBy W (some rb)
  n : pb ≠ w.heap.size ∧ rb ≠ w.heap.size ∧ pb ≠ rb ∧ w.heap.size ≤ pb
theorem UI.grow {w W W' : World} {rb k k' pb : Nat} {s : ByteArray} {x x' : Int} {a b : List UInt8} (h : UI w rb s k x pb a b W) (hg : W.grownBy W' (some rb)) (hr : Ry W' rb s k' x') : UI w rb s k' x' pb a b W' :=
  ⟨hr, h.z.grown hg (fun e => h.n.2.1 e.symm), h.p.grown hg h.n.2.2.1, grown_trans h.g hg, h.n⟩
theorem UI.below {w W W' : World} {rb k pb : Nat} {s : ByteArray} {x : Int} {a b : List UInt8} (h : UI w rb s k x pb a b W) (hb : Below W.heap.size W W') : UI w rb s k x pb a b W' :=
  h.grow (grown_of_below hb _) (h.r.below hb h.r.lt)
theorem UI.drewN {w W : World} {rb k pb : Nat} {s : ByteArray} {x : Int} {a b : List UInt8} (h : UI w rb s k x pb a b W) (n : Nat) : UI w rb s k x pb a b (W.drewN n) :=
  h.grow (grown_drewN (grown_refl _ _) n) (h.r.drewN n)
theorem UI.setP {w W : World} {rb k pb : Nat} {s : ByteArray} {x : Int} {a b b' : List UInt8} (h : UI w rb s k x pb a b W) : UI w rb s k x pb a b' (W.setCell ⟨pb, 1, none⟩ (.string (B b'))) := by
  refine ⟨(blk_set h.n.2.2.1).trans h.r, (blk_set h.n.1).trans h.z, ?_, grown_setN h.g h.n.2.2.2, h.n⟩
  have hp := h.p
  unfold P2 at *
  simp [World.setCell, Array.getElem?_modify, hp]
/-- the value stands before the byte t, or there is an error -/
def VxP (w : World) (rb : Nat) (s : ByteArray) (pb : Nat) (u : List UInt8) (r : Except Int ((List UInt8 × List UInt8) × List UInt8)) (v : Value) (W : World) : Prop :=
  ∃ (t : Int) (k : Nat) (x : Int), v = .int .i64 t ∧ k ≤ s.size ∧ UI w rb s k x pb u [] W ∧ ((x ≠ 0 ∧ r = .error x) ∨ (x = 0 ∧ ∃ m : Nat, t = (m : Int) ∧ k ≤ m ∧ m < s.size ∧ r = match pText ((s.toList.take m).drop k) with | .error e => .error e | .ok y => .ok ((u, y), s.toList.drop (m + 1))))
/-- the error behind the attributes before -/
def DupE (x : Int) (u : List UInt8) (ats : List (List UInt8 × List UInt8)) (q : Nat) : Int := if x = 0 ∧ u ∈ (ats.take q).map (·.1) then 7 else x
/-- the value is clean, or there is an error -/
def VxQ (w : World) (rb : Nat) (s : ByteArray) (k m pb : Nat) (u tx : List UInt8) (r : Except Int ((List UInt8 × List UInt8) × List UInt8)) (W : World) : Prop :=
  ∃ x : Int, UI w rb s k x pb u [] W ∧ ((x ≠ 0 ∧ r = .error x) ∨ (x = 0 ∧ r = match unesc tx with | none => .error 5 | some y => .ok ((u, y), s.toList.drop (m + 1))))
set_option maxHeartbeats 16000000 in
set_option maxRecDepth 100000 in
theorem rattr_any (rb : Nat) (s : ByteArray) (k : Nat) (A : Option Addr) (n c : Nat) (ats : List (List UInt8 × List UInt8)) (w : World) (h : Ry w rb s k 0) (hk : k < s.size) (h32 : s[k] = 32) (hs : s.size ≤ 1000000000)
    (hA : RdS w (fun b => b < w.heap.size ∧ b ≠ rb) 2 A n (ats.flatMap prF)) (hn : n ≤ 1000000000) :
    Calls Try.prog 58 #[.pointer (some ⟨rb, 0, none⟩), .slice A n c] w (PzPost rb s (pNew (ats.map (·.1)) (pAttr (s.toList.drop (k + 1)))) w) := by
  have hlt := h.lt
  have HA := Lib.hid hA
  have hne : rb ≠ w.heap.size := by omega
  have hZ : P2 (w.alloc (.cells #[.string ⟨#[]⟩, .string ⟨#[]⟩] 46)) w.heap.size [] [] := heap_alloc_new w _
  have hR := h.alloc (.cells #[.string ⟨#[]⟩, .string ⟨#[]⟩] 46)
  have hg0 := grown_alloc (grown_refl w (some rb)) (.cells #[.string ⟨#[]⟩, .string ⟨#[]⟩] 46)
  have CW := Lib.hid (want_any rb s k [32] _ hR (Nat.le_of_lt hk) hs (by simp))
  have hpe : pExp [32] (s.toList.drop k) = .ok (s.toList.drop (k + 1)) := by
    rw [drop_byte s k hk, h32]; exact pExp_ok [32] (s.toList.drop (k + 1))
  rw [hpe] at CW
  have HPA : Hid (pAttr (s.toList.drop (k + 1)) = match pName (s.toList.drop (k + 1)) with
    | .error e => .error e
    | .ok (k, r) => match pExp [61, 34] r with
      | .error e => .error e
      | .ok r1 => match pVal r1 with
        | .error e => .error e
        | .ok (u, r2) => .ok ((k, u), r2)) := rfl
  clear hpe h32 hA hR h
  go_enter Try.func58, Try.ntmps58
  go_wp2_with fail
  refine CW.out.mono ?_
  rintro e w1 ⟨rfl, hg1, k1, x, hk1, hR1, rfl, hd1⟩
  have hz1 := hZ.grown hg1 (fun e => hne e.symm)
  have hg2 := grown_trans hg0 hg1
  have CN := Lib.hid (rname_any rb s k1 _ hR1 hk1 hs)
  rw [hd1] at CN
  clear CW hZ hg0 hg1 hd1
  go_wp2_with fail
  refine CN.out.mono ?_
  rintro e w2 ⟨u, rfl, hul, hg3, k2, x2, hk2, hR2, hm⟩
  have HM := Lib.hid hm
  have hbW := below_alloc w2 (.cells #[.string (B u), .string ⟨#[]⟩] 46)
  have hU : UI w rb s k2 x2 w2.heap.size u [] (w2.alloc (.cells #[.string (B u), .string ⟨#[]⟩] 46)) := by
    have hs1 := hz1.lt
    have hs2 := hg3.size
    exact ⟨hR2.alloc _, (hz1.grown hg3 (fun e => hne e.symm)).below hbW (by omega), heap_alloc_new w2 _, grown_alloc (grown_trans hg2 hg3) _, by omega, hne, by omega, by omega⟩
  clear CN hm hbW hg3 hR2 hz1 hg2 hR1
  go_wp2_with fail
  generalize w2.alloc (.cells #[.string (B u), .string ⟨#[]⟩] 46) = W at *
  generalize w2.heap.size = pb at *
  cases hn : pName (s.toList.drop (k + 1)) with
  | error y =>
    have hy := pName_err hn
    have hm := HM.out
    rw [hn] at hm
    subst hm
    have HX : Hid (pAttr (s.toList.drop (k + 1)) = .error x2) := by rw [HPA.out, hn]; rfl
    have CW := Lib.hid (want_err rb s k2 x2 [61, 34] W hU.r hy (by simp))
    have z : (x2 == 0) = false := by simpa using hy
    clear hn HPA HM
    go_wp2_with fail
    refine CW.out.mono ?_
    rintro e w3 ⟨rfl, hg3, hR3⟩
    have hU3 := hU.grow hg3 hR3
    have CU := Lib.hid (until_any rb s k2 x2 34 w3 hR3 hk2 hs)
    clear CW hg3 hR3 hU
    go_wp2_with fail
    refine CU.out.mono ?_
    rintro e w4 ⟨rfl, rfl⟩
    by_cases hd : (s.toList.drop k2).dropWhile (fun b => b != 34) = []
    · have hi : idxK (fun b => b != 34) k2 (s.toList.drop k2) = -1 := by unfold idxK; rw [if_pos hd]
      rw [hi]
      have CF := Lib.hid (fail_any rb s k2 x2 4 w3 hU3.r)
      rw [ferr_ne 4 hy] at CF
      clear hi hd CU
      go_wp2_with fail
      refine CF.out.mono ?_
      rintro e w5 ⟨rfl, hg5, hR5⟩
      have hU5 := hU3.grow hg5 hR5
      clear CF hg5 hR5 hU3
      have hx := hy
      clear hy
      have c2 := hU5.r.c2
      have z1 : (x2 != 0) = true := by simpa using hx
      have z2 : (x2 == 0) = false := by simpa using hx
      have p0 := hU5.p.c0
      have p1 := hU5.p.c1
      have q0 := hU5.z.c0
      have q1 := hU5.z.c1
      have qf0 := hU5.z.f0 (i := 0)
      have qf1 := hU5.z.f0 (i := 1)
      have hne1 := hU5.n.1
      have hR5 : Ry _ rb s k2 x2 := (blk_set (w := _) (c := w.heap.size) (i := 1) (u := .string (B [])) hne.symm).trans ((blk_set  (c := w.heap.size) (i := 0) (u := .string (B u)) hne.symm).trans hU5.r)
      have hg5 := grown_setN (i := 1) (u := .string (B [])) (grown_setN (i := 0) (u := .string (B u)) hU5.g (Nat.le_refl w.heap.size)) (Nat.le_refl w.heap.size)
      clear hx hU5
      go_wp2
      refine bodyPost_ret (v := .agg #[.string (B u), .string (B [])]) (by simp [results, Try.results58, go_sem, q0, q1]) rfl ?_
      unfold PzPost pNew
      rw [HX.out]
      exact ⟨(u, []), rfl, hg5, k2, x2, hk2, hR5, rfl⟩
    · have hi : idxK (fun b => b != 34) k2 (s.toList.drop k2) = ((k2 + ((s.toList.drop k2).takeWhile (fun b => b != 34)).length : Nat) : Int) := by unfold idxK; rw [if_neg hd]
      rw [hi]
      generalize k2 + ((s.toList.drop k2).takeWhile (fun b => b != 34)).length = m at *
      have d1 : decide ((m : Int) < 0) = false := by simp
      clear hi hd CU
      have hx := hy
      clear hy
      have c2 := hU3.r.c2
      have z1 : (x2 != 0) = true := by simpa using hx
      have z2 : (x2 == 0) = false := by simpa using hx
      have p0 := hU3.p.c0
      have p1 := hU3.p.c1
      have q0 := hU3.z.c0
      have q1 := hU3.z.c1
      have qf0 := hU3.z.f0 (i := 0)
      have qf1 := hU3.z.f0 (i := 1)
      have hne1 := hU3.n.1
      have hR5 : Ry _ rb s k2 x2 := (blk_set (w := _) (c := w.heap.size) (i := 1) (u := .string (B [])) hne.symm).trans ((blk_set  (c := w.heap.size) (i := 0) (u := .string (B u)) hne.symm).trans hU3.r)
      have hg5 := grown_setN (i := 1) (u := .string (B [])) (grown_setN (i := 0) (u := .string (B u)) hU3.g (Nat.le_refl w.heap.size)) (Nat.le_refl w.heap.size)
      clear hx hU3
      go_wp2
      refine bodyPost_ret (v := .agg #[.string (B u), .string (B [])]) (by simp [results, Try.results58, go_sem, q0, q1]) rfl ?_
      unfold PzPost pNew
      rw [HX.out]
      exact ⟨(u, []), rfl, hg5, k2, x2, hk2, hR5, rfl⟩
  | ok y =>
    obtain ⟨nm, l1⟩ := y
    have hm := HM.out
    rw [hn] at hm
    obtain ⟨hx2, hunm, hd2⟩ := hm
    subst hx2
    subst hunm
    have HP2 : Hid (pAttr (s.toList.drop (k + 1)) = match pExp [61, 34] (s.toList.drop k2) with
      | .error e => .error e
      | .ok r1 => match pVal r1 with
        | .error e => .error e
        | .ok (y, r2) => .ok ((u, y), r2)) := by rw [HPA.out, hn, hd2]; rfl
    have CW := Lib.hid (want_any rb s k2 [61, 34] W hU.r hk2 hs (by simp))
    clear hn HPA HM hd2
    go_wp2_with fail
    refine CW.out.mono ?_
    rintro e w3 ⟨rfl, hg3, k3, x3, hk3, hR3, hm3⟩
    have hU3 := hU.grow hg3 hR3
    have CU := Lib.hid (until_any rb s k3 x3 34 w3 hR3 hk3 hs)
    have HM3 := Lib.hid hm3
    clear CW hg3 hR3 hU hm3
    go_wp2_with fail
    refine CU.out.mono ?_
    rintro e w4 ⟨rfl, rfl⟩
    have HVAL : Hid (pVal (s.toList.drop k3) = if (s.toList.drop k3).dropWhile notQ = [] then .error 4 else match pText ((s.toList.drop k3).takeWhile notQ) with | .error e => .error e | .ok y => .ok (y, ((s.toList.drop k3).dropWhile notQ).drop 1)) := rfl
    by_cases hd : (s.toList.drop k3).dropWhile notQ = []
    · have hi : idxK (fun b => b != 34) k3 (s.toList.drop k3) = -1 := by unfold idxK; exact if_pos hd
      rw [hi]
      have CF := Lib.hid (fail_any rb s k3 x3 4 w3 hU3.r)
      have HX : Hid (ferr x3 4 ≠ 0 ∧ pAttr (s.toList.drop (k + 1)) = .error (ferr x3 4)) := by
        have hm := HM3.out
        cases he : pExp [61, 34] (s.toList.drop k2) with
        | error y =>
          rw [he] at hm
          have hy := pExp_err he
          subst hm
          rw [ferr_ne 4 hy]
          exact ⟨hy, by rw [HP2.out, he]⟩
        | ok r1 =>
          rw [he] at hm
          obtain ⟨h0, hdr⟩ := hm
          rw [h0, ferr_zero]
          exact ⟨by omega, by rw [HP2.out, he, ← hdr]; simp only; rw [HVAL.out, if_pos hd]⟩
      clear hi hd CU HVAL HP2 HM3
      go_wp2_with fail
      refine CF.out.mono ?_
      rintro e w5 ⟨rfl, hg5, hR5⟩
      have hU5 := hU3.grow hg5 hR5
      clear CF hg5 hR5 hU3
      generalize ferr x3 4 = xe at *
      have hxx := HX.out.2
      have hx := HX.out.1
      clear HX
      have HX := Lib.hid hxx
      clear hxx
      have c2 := hU5.r.c2
      have z1 : (xe != 0) = true := by simpa using hx
      have z2 : (xe == 0) = false := by simpa using hx
      have p0 := hU5.p.c0
      have p1 := hU5.p.c1
      have q0 := hU5.z.c0
      have q1 := hU5.z.c1
      have qf0 := hU5.z.f0 (i := 0)
      have qf1 := hU5.z.f0 (i := 1)
      have hne1 := hU5.n.1
      have hR5 : Ry _ rb s k3 xe := (blk_set (w := _) (c := w.heap.size) (i := 1) (u := .string (B [])) hne.symm).trans ((blk_set  (c := w.heap.size) (i := 0) (u := .string (B u)) hne.symm).trans hU5.r)
      have hg5 := grown_setN (i := 1) (u := .string (B [])) (grown_setN (i := 0) (u := .string (B u)) hU5.g (Nat.le_refl w.heap.size)) (Nat.le_refl w.heap.size)
      clear hx hU5
      go_wp2
      refine bodyPost_ret (v := .agg #[.string (B u), .string (B [])]) (by simp [results, Try.results58, go_sem, q0, q1]) rfl ?_
      unfold PzPost pNew
      rw [HX.out]
      exact ⟨(u, []), rfl, hg5, k3, xe, hk3, hR5, rfl⟩
    · have hi : idxK (fun b => b != 34) k3 (s.toList.drop k3) = ((k3 + ((s.toList.drop k3).takeWhile notQ).length : Nat) : Int) := by unfold idxK; exact if_neg hd
      rw [hi]
      obtain ⟨m, hm⟩ : ∃ m, m = k3 + ((s.toList.drop k3).takeWhile notQ).length := ⟨_, rfl⟩
      have htw := tw_take notQ (s.toList.drop k3)
      have hms : m < s.size := by
        have h1 := congrArg List.length htw.2
        have h2 : 0 < ((s.toList.drop k3).dropWhile notQ).length := List.length_pos_iff.2 hd
        rw [List.length_drop, drop_len] at h1
        omega
      have HX : Hid ((x3 ≠ 0 ∧ pAttr (s.toList.drop (k + 1)) = .error x3) ∨ (x3 = 0 ∧ ∃ m' : Nat, ((m : Nat) : Int) = (m' : Int) ∧ k3 ≤ m' ∧ m' < s.size ∧ pAttr (s.toList.drop (k + 1)) = match pText ((s.toList.take m').drop k3) with | .error e => .error e | .ok y => .ok ((u, y), s.toList.drop (m' + 1)))) := by
        have hm3 := HM3.out
        cases he : pExp [61, 34] (s.toList.drop k2) with
        | error y =>
          rw [he] at hm3
          have hy := pExp_err he
          subst hm3
          exact .inl ⟨hy, by rw [HP2.out, he]⟩
        | ok r1 =>
          rw [he] at hm3
          obtain ⟨h0, hdr⟩ := hm3
          refine .inr ⟨h0, m, rfl, by omega, hms, ?_⟩
          rw [HP2.out, he, ← hdr]
          simp only
          rw [HVAL.out, if_neg hd]
          have e1 : (s.toList.take m).drop k3 = (s.toList.drop k3).takeWhile notQ := by rw [List.drop_take, hm, Nat.add_sub_cancel_left, htw.1]
          have e2 : s.toList.drop (m + 1) = ((s.toList.drop k3).dropWhile notQ).drop 1 := by rw [← htw.2, List.drop_drop, List.drop_drop, hm, Nat.add_assoc]
          rw [e1, e2]
          cases pText ((s.toList.drop k3).takeWhile notQ) <;> rfl
      rw [← hm]
      have d1 : decide ((m : Int) < 0) = false := by simp
      clear hi hd CU HVAL HP2 HM3 htw hm
      have HCS := HX
      clear HX
      have c2 := hU3.r.c2
      by_cases hxn : ¬ x3 = 0
      · have hx := hxn
        clear hxn
        have HX : Hid (pAttr (s.toList.drop (k + 1)) = .error x3) := by
          rcases HCS.out with ⟨_, h⟩ | ⟨h, _⟩
          · exact h
          · exact absurd h hx
        clear HCS
        have z1 : (x3 != 0) = true := by simpa using hx
        have z2 : (x3 == 0) = false := by simpa using hx
        have p0 := hU3.p.c0
        have p1 := hU3.p.c1
        have q0 := hU3.z.c0
        have q1 := hU3.z.c1
        have qf0 := hU3.z.f0 (i := 0)
        have qf1 := hU3.z.f0 (i := 1)
        have hne1 := hU3.n.1
        have hR5 : Ry _ rb s k3 x3 := (blk_set (w := _) (c := w.heap.size) (i := 1) (u := .string (B [])) hne.symm).trans ((blk_set  (c := w.heap.size) (i := 0) (u := .string (B u)) hne.symm).trans hU3.r)
        have hg5 := grown_setN (i := 1) (u := .string (B [])) (grown_setN (i := 0) (u := .string (B u)) hU3.g (Nat.le_refl w.heap.size)) (Nat.le_refl w.heap.size)
        clear hx hU3
        go_wp2
        refine bodyPost_ret (v := .agg #[.string (B u), .string (B [])]) (by simp [results, Try.results58, go_sem, q0, q1]) rfl ?_
        unfold PzPost pNew
        rw [HX.out]
        exact ⟨(u, []), rfl, hg5, k3, x3, hk3, hR5, rfl⟩
      · have hx := Classical.not_not.1 hxn
        clear hxn
        subst hx
        obtain ⟨hm2, hm3, hm4⟩ : k3 ≤ m ∧ m < s.size ∧ pAttr (s.toList.drop (k + 1)) = match pText ((s.toList.take m).drop k3) with | .error e => .error e | .ok y => .ok ((u, y), s.toList.drop (m + 1)) := by
          rcases HCS.out with ⟨h, _⟩ | ⟨_, m', he, h2, h3, h4⟩
          · exact absurd rfl h
          · obtain rfl : m = m' := by omega
            exact ⟨h2, h3, h4⟩
        have HX := Lib.hid hm4
        clear HCS hm4
        have ex : s.extract k3 m = B ((s.toList.take m).drop k3) := B_extract s k3 m
        have i1 : (0 : Int) ≤ (k3 : Int) := by omega
        have i2 : (k3 : Int) ≤ (m : Int) := by omega
        have i3 : (m : Int) ≤ (s.size : Int) := by omega
        have hxl : ((s.toList.take m).drop k3).length ≤ 1000000000 := by rw [List.length_drop, List.length_take, len_toList]; omega
        generalize (s.toList.take m).drop k3 = tx at *
        have CV := Lib.hid (fun V => rvalid_any (B tx) V (by rw [B_size]; omega))
        rw [B_data] at CV
        have hU := hU3.drewN 1
        clear hU3
        go_wp2
        go_region_held3 (fun w' => w'.cell? ⟨rb, 0, none⟩ = some (.string s) ∧ w'.cell? ⟨rb, 1, none⟩ = some (.int .i64 (k3 : Int)))
          (first | exact ⟨hU.r.c0, hU.r.c1⟩)
          (first
            | (go_at_call 35; refine (CV.out _).mono ?_; rintro e w' ⟨rfl, hb⟩; have hU' := hU.below hb; clear hU hb; have hU := hU'; clear hU'))
        go_upto_if 38 with fail
        go_cut [] (fun wx => VxQ w rb s k3 m pb u tx (pAttr (s.toList.drop (k + 1))) wx)
        case first =>
          cases hv : validB tx
          · have HY : Hid (pAttr (s.toList.drop (k + 1)) = .error 17) := by rw [HX.out, pText, if_pos hv]; rfl
            have CF := Lib.hid (fail_any rb s k3 0 17 _ hU.r)
            clear HX hv
            go_wp2_with fail
            refine CF.out.mono ?_
            rw [ferr_zero]
            rintro e w6 ⟨rfl, hg6, hR6⟩
            have hU6 := hU.grow hg6 hR6
            clear CF hg6 hR6 hU
            go_wp2
            go_meet
            exact ⟨17, hU6, .inl ⟨by omega, HY.out⟩⟩
          · have HY : Hid (pAttr (s.toList.drop (k + 1)) = match unesc tx with | none => .error 5 | some y => .ok ((u, y), s.toList.drop (m + 1))) := by
              rw [HX.out, pText, if_neg (by simp [hv])]
              cases unesc tx <;> rfl
            clear HX hv
            go_wp2
            go_meet
            exact ⟨0, hU, .inr ⟨rfl, HY.out⟩⟩
        case rest =>
          obtain ⟨x2, hU2, hx2⟩ := hcut
          have HX2 := Lib.hid hx2
          clear hx2 HX hU
          have CR := Lib.hid (raw_any rb s k3 x2 tx _ (hU2.r.drewN 1) hxl)
          have hU := hU2.drewN 1
          clear hU2
          go_wp2
          go_region_held3 (fun w' => w'.cell? ⟨rb, 0, none⟩ = some (.string s) ∧ w'.cell? ⟨rb, 1, none⟩ = some (.int .i64 (k3 : Int)))
            (first | exact ⟨hU.r.c0, hU.r.c1⟩ | exact ⟨(cell_block (blk_set hU.n.2.2.1)).trans hU.r.c0, (cell_block (blk_set hU.n.2.2.1)).trans hU.r.c1⟩)
            (first
              | (go_at_call 71; refine CR.out.mono ?_; rintro e w7 ⟨yv, x3, rfl, hg, hR, h1, h2⟩; have HU1 := Lib.hid h1; have HU2 := Lib.hid h2; clear h1 h2; have hU' := hU.grow hg hR; clear hU hg hR; have hU := hU'; clear hU'; have p1 := hU.p.c1; have pf1 := hU.p.f0 (i := 1)))
          have hV := hU.setP (b' := yv)
          have hfin : Hid ((x3 ≠ 0 ∧ pAttr (s.toList.drop (k + 1)) = .error x3) ∨ (x3 = 0 ∧ pAttr (s.toList.drop (k + 1)) = .ok ((u, yv), s.toList.drop (m + 1)))) := by
            rcases HX2.out with ⟨h0, he⟩ | ⟨h0, he⟩
            · rw [HU1.out h0]; exact .inl ⟨h0, he⟩
            · have hu := HU2.out h0
              cases hun : unesc tx with
              | none =>
                rw [hun] at hu he
                have hu : x3 = 5 := hu
                exact .inl ⟨by omega, by rw [he, hu]⟩
              | some v =>
                rw [hun] at hu he
                obtain ⟨h5, rfl⟩ := hu
                exact .inr ⟨h5, he⟩
          have HL := Lib.hid ((HA.out.rd (M := w.heap.size) (fun _ h => h.1)).count prF 2 prF_len (by omega))
          clear HX2 HU1 HU2 CR hU p1 pf1 CV
          go_wp2
          generalize w7.setCell ⟨pb, 1, none⟩ (.string (B yv)) = W8 at *
          go_loopw [7] (fun i wr => ∃ (q : Nat) (x5 : Int), q ≤ n ∧ i = .int .i64 (q : Int) ∧ UI w rb s k3 x5 pb u yv wr ∧ Hid (x5 = DupE x3 u ats q)) (fun i _ => n - (intOf i).toNat)
          case atStart => exact ⟨0, x3, Nat.zero_le _, rfl, hV, by simp [DupE, Hid]⟩
          case round =>
            obtain ⟨q, x5, hq, rfl, hU, hdup⟩ := hrel
            by_cases hqn : q < n
            · obtain ⟨p, hp⟩ := get_of (l := ats) (k := q) (by rw [HL.out]; exact hqn)
              have hAr := HA.out.keep (fun b hb => hU.g.block b hb.1 (fun e => hb.2 (Option.some.inj e)))
              obtain ⟨b, o, hbo, hbm, hcell⟩ := (hAr.rd (M := w.heap.size) (fun _ h => h.1)).elem prF 2 prF_len (by omega) hp
              have HTK := Lib.hid (take_keys hp)
              obtain ⟨pk, pv⟩ := p
              have q0 : wr.cell? ⟨b, o + q * 2, none⟩ = some (.string (B pk)) := hcell 0 _ rfl
              have q1 := hU.p.c0
              have i4 : (0 : Int) ≤ (q : Int) := by omega
              have i5 : (q : Int) < (n : Int) := by omega
              have d5 : decide (q < n) = true := by simpa using hqn
              clear hcell hAr hp
              subst hbo
              by_cases hk : pk = u
              · have HD : Hid (ferr x5 7 = DupE x3 u ats (q + 1)) := by
                  rw [hdup.out]
                  unfold DupE Hid
                  rw [HTK.out]
                  by_cases hx3 : x3 = 0
                  · have hR : (if x3 = 0 ∧ u ∈ (ats.take q).map (·.1) ++ [pk] then (7 : Int) else x3) = 7 := if_pos ⟨hx3, List.mem_append_right _ (by rw [hk]; exact List.mem_singleton.2 rfl)⟩
                    refine Eq.trans ?_ hR.symm
                    by_cases hin : x3 = 0 ∧ u ∈ (ats.take q).map (·.1)
                    · rw [if_pos hin]; exact ferr_ne 7 (by omega)
                    · rw [if_neg hin, hx3]; exact ferr_zero 7
                  · rw [if_neg (fun h => hx3 h.1), if_neg (fun h => hx3 h.1)]
                    exact ferr_ne 7 hx3
                have ek : (pk == u) = true := by simp [hk]
                have CF := Lib.hid (fun m => fail_any rb s k3 x5 7 (wr.drewN m) (hU.r.drewN m))
                clear hk HTK hdup
                go_wp2
                go_quiet (fail)
                go_wp2_with fail
                refine (CF.out _).mono ?_
                rintro e w9 ⟨rfl, hg9, hR9⟩
                have hU9 := (hU.drewN _).grow hg9 hR9
                clear CF hg9 hR9 q0 q1
                go_wp2
                go_roundw
                case rel => exact ⟨q + 1, _, by omega, by go_num, hU9, HD⟩
                case measure => simp [intOf]; omega
              · have HD : Hid (x5 = DupE x3 u ats (q + 1)) := by
                  rw [hdup.out]
                  unfold DupE Hid
                  rw [HTK.out]
                  have : (u ∈ (ats.take q).map (·.1) ++ [pk]) ↔ u ∈ (ats.take q).map (·.1) := by
                    rw [List.mem_append]
                    constructor
                    · rintro (h | h)
                      · exact h
                      · simp at h; exact absurd h.symm hk
                    · exact .inl
                  simp only [this]
                have ek : (pk == u) = false := by simpa using hk
                have hU9 := fun m => hU.drewN m
                have HU9 := Lib.hid hU9
                clear hk HTK hdup hU9
                go_wp2
                go_quiet (fail)
                go_wp2
                go_roundw
                case rel => exact ⟨q + 1, _, by omega, by go_num, HU9.out _, HD⟩
                case measure => simp [intOf]; omega
            · obtain rfl : q = n := by omega
              have d5 : decide (q < q) = false := by simp
              have hR7 := hU.r.setK (m := m + 1)
              have g7 := grown_trans hU.g (grown_setC wr rb 1 (.int .i64 ((m + 1 : Nat) : Int)))
              have hZ7 : P2 _ w.heap.size [] [] := (blk_set (w := wr) (c := rb) (i := 1) (u := .int .i64 ((m + 1 : Nat) : Int)) hne).trans hU.z
              have hP7 : P2 _ pb u yv := (blk_set (w := wr) (c := rb) (i := 1) (u := .int .i64 ((m + 1 : Nat) : Int)) hU.n.2.2.1.symm).trans hU.p
              have eI : ((m + 1 : Nat) : Int) = (m : Int) + 1 := by omega
              rw [eI] at hR7 g7 hZ7 hP7
              have cf := hU.r.ff (i := 1)
              have c1 := hU.r.c1
              have p0 := hP7.c0
              have p1 := hP7.c1
              have z0 := hZ7.c0
              have z1 := hZ7.c1
              have zf0 := hZ7.f0 (i := 0)
              have zf1 := hZ7.f0 (i := 1)
              have hn1 := hU.n.1
              have hn2 := hU.n.2.2.1
              have hne2 : w.heap.size ≠ rb := hne.symm
              have HDUP : Hid (x5 = DupE x3 u ats ats.length) := by rw [hdup.out, HL.out]; rfl
              clear hU hdup eI
              go_wp2
              refine bodyPost_ret (v := .agg #[.string (B u), .string (B yv)]) (by simp [results, Try.results58, go_sem, z0, z1]) rfl ?_
              refine ⟨(u, yv), rfl, grown_setN (grown_setN g7 (Nat.le_refl _)) (Nat.le_refl _), m + 1, x5, by omega, (blk_set hne2).trans ((blk_set hne2).trans hR7), ?_⟩
              have hd := HDUP.out
              unfold DupE at hd
              rw [List.take_length] at hd
              unfold pNew
              rcases hfin.out with ⟨h0, he⟩ | ⟨h0, he⟩
              · rw [he]
                rw [if_neg (fun h => h0 h.1)] at hd
                exact hd
              · rw [he]
                simp only
                by_cases hin : u ∈ ats.map (·.1)
                · rw [if_pos hin]
                  rw [if_pos ⟨h0, hin⟩] at hd
                  exact hd
                · rw [if_neg hin]
                  rw [if_neg (fun h => hin h.2)] at hd
                  exact ⟨hd.trans h0, rfl, rfl⟩
end Go.Proofs.Ytlhkpkjcecjomaa
