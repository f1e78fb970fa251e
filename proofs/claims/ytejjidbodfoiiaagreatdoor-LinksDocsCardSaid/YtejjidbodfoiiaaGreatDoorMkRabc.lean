/-
  Layer 33 (markup): the reader of the program: attribute and data.
  Layer 33 (markup): the reader of the program: data.
  Layer 33 (markup): the reader of the program: what is known while an element is read.
-/
import Derived.Test.YtejjidbodfoiiaaGreatDoorMkYZ
import Derived.Test.YtejjidbodfoiiaaGreatDoorSeen
import Derived.Test.YtejjidbodfoiiaaGreatDoorMkV
namespace Go.Proofs.YtejjidbodfoiiaaGreatDoor
open Go.RowKit
set_option linter.unusedVariables false
set_option linter.unusedSimpArgs false
attribute [local go_sem] B_data B_size
attribute [local go_sem ↓] Go.wp_at_zero Go.wp_at_succ

theorem pName_err {l : List UInt8} {x : Int} (h : pName l = .error x) : x ≠ 0 := by
  unfold pName at h
  split at h
  · injection h with h; omega
  · split at h
    · injection h with h; omega
    · cases h
theorem pExp_err {t l : List UInt8} {x : Int} (h : pExp t l = .error x) : x ≠ 0 := by
  unfold pExp at h
  split at h
  · cases h
  · split at h <;> (injection h with h; omega)
theorem pText_err {l : List UInt8} {x : Int} (h : pText l = .error x) : x ≠ 0 := by
  unfold pText at h
  split at h
  · injection h with h; omega
  · cases hu : unesc l with
    | none => rw [hu] at h; injection h with h; omega
    | some u => rw [hu] at h; cases h
theorem pVal_err {l : List UInt8} {x : Int} (h : pVal l = .error x) : x ≠ 0 := by
  unfold pVal at h
  split at h
  · injection h with h; omega
  · cases hu : pText (l.takeWhile notQ) with
    | error e => rw [hu] at h; injection h with h; rw [← h]; exact pText_err hu
    | ok u => rw [hu] at h; cases h
theorem Rx.grown {w w' : World} {rb k row : Nat} {s : ByteArray} (h : Rx w rb s k) (hg : w.grownBy w' (some row)) (hne : rb ≠ row) : Rx w' rb s k := (hg.block rb h.lt (fun e => hne (Option.some.inj e))).trans h
theorem grown_alloc {a w : World} {row : Option Nat} (h : a.grownBy w row) (o : Obj) : a.grownBy (w.alloc o) row := grown_trans h (World.grownBy_alloc w o row)
theorem grown_belowW {a w w' : World} {row : Option Nat} (h : a.grownBy w row) (hb : Below w.heap.size w w') : a.grownBy w' row := grown_trans h (grown_of_below hb row)
theorem grown_setN {a w : World} {c i : Nat} {u : Value} {row : Option Nat} (h : a.grownBy w row) (hc : a.heap.size ≤ c) : a.grownBy (w.setCell ⟨c, i, none⟩ u) row :=
  ⟨h.os, h.tape, h.output, by simp; exact h.size, fun k hk hne => by
    have e : (w.setCell ⟨c, i, none⟩ u).heap[k]? = w.heap[k]? := by
      unfold World.setCell
      simp only
      rw [Array.getElem?_modify, if_neg (by omega)]
    exact e.trans (h.block k hk hne)⟩
theorem blk_set {w : World} {c k i : Nat} {u : Value} (h : c ≠ k) : (w.setCell ⟨c, i, none⟩ u).heap[k]? = w.heap[k]? := by
  unfold World.setCell
  simp only
  rw [Array.getElem?_modify, if_neg h]
/-- block b holds two texts -/
def P2 (w : World) (b : Nat) (x y : List UInt8) : Prop := w.heap[b]? = some (.cells #[.string (B x), .string (B y)] 71 (0, 0))
theorem P2.lt {w : World} {b : Nat} {x y : List UInt8} (h : P2 w b x y) : b < w.heap.size := (Array.getElem?_eq_some_iff.1 h).1
theorem P2.c0 {w : World} {b : Nat} {x y : List UInt8} (h : P2 w b x y) : w.cell? ⟨b, 0, none⟩ = some (.string (B x)) := by unfold P2 at h; simp [World.cell?, h]
theorem P2.c1 {w : World} {b : Nat} {x y : List UInt8} (h : P2 w b x y) : w.cell? ⟨b, 1, none⟩ = some (.string (B y)) := by unfold P2 at h; simp [World.cell?, h]
theorem P2.f0 {w : World} {b i : Nat} {x y : List UInt8} (h : P2 w b x y) : w.frozen? ⟨b, i, none⟩ = false := by unfold P2 at h; simp [World.frozen?, h]
theorem P2.grown {w w' : World} {b row : Nat} {x y : List UInt8} (h : P2 w b x y) (hg : w.grownBy w' (some row)) (hne : b ≠ row) : P2 w' b x y := (hg.block b h.lt (fun e => hne (Option.some.inj e))).trans h
theorem P2.below {w w' : World} {b M : Nat} {x y : List UInt8} (h : P2 w b x y) (hb : Below M w w') (hM : b < M) : P2 w' b x y := (hb.block b hM).trans h
def APost (rb : Nat) (s : ByteArray) (r : Except Int ((List UInt8 × List UInt8) × List UInt8)) (w : World) (e : Ending) (w' : World) : Prop := w.grownBy w' (some rb) ∧ match r with
  | .error x => e = .returned (.tuple #[.agg #[.string (B []), .string (B [])], .int .i64 x])
  | .ok (p, l) => e = .returned (.tuple #[.agg #[.string (B p.1), .string (B p.2)], .int .i64 0]) ∧ ∃ k, Rx w' rb s k ∧ s.toList.drop k = l ∧ k ≤ s.size
theorem take_noQ (l : List UInt8) : ∀ c ∈ l.takeWhile notQ, (c = 60 ∨ c = 62 ∨ c = 34) ↔ c ∈ [60, 62] := by
  intro c hc
  have := span_all notQ l c hc
  have h34 : c ≠ 34 := by simpa [notQ] using this
  simp [h34]
theorem take_noL (l : List UInt8) : ∀ c ∈ l.takeWhile notL, (c = 60 ∨ c = 62 ∨ c = 34) ↔ c ∈ [62, 34] := by
  intro c hc
  have := span_all notL l c hc
  have h34 : c ≠ 60 := by simpa [notL] using this
  simp [h34]
theorem tw_len (p : UInt8 → Bool) (l : List UInt8) : (l.takeWhile p).length ≤ l.length := by
  have := congrArg List.length (@List.takeWhile_append_dropWhile _ p l)
  rw [List.length_append] at this; omega
theorem tw_take (p : UInt8 → Bool) (l : List UInt8) : l.take (l.takeWhile p).length = l.takeWhile p ∧ l.drop (l.takeWhile p).length = l.dropWhile p := by
  have h := @List.takeWhile_append_dropWhile _ p l
  have e1 := List.take_left (l₁ := l.takeWhile p) (l₂ := l.dropWhile p)
  have e2 := List.drop_left (l₁ := l.takeWhile p) (l₂ := l.dropWhile p)
  rw [h] at e1 e2
  exact ⟨e1, e2⟩
/-- what is known while a value is read -/
structure AI (w : World) (rb : Nat) (s : ByteArray) (k : Nat) (W : World) : Prop where
  r : Rx W rb s k
  p : P2 W w.heap.size [] []
  g : w.grownBy W (some rb)
theorem AI.step {w W w' : World} {rb k : Nat} {s : ByteArray} (h : AI w rb s k W) (hb : Below W.heap.size W w') : AI w rb s k w' :=
  ⟨h.r.below hb h.r.lt, h.p.below hb h.p.lt, grown_belowW h.g hb⟩
set_option maxHeartbeats 8000000 in
set_option maxRecDepth 100000 in
theorem attribute_any (rb : Nat) (s : ByteArray) (k : Nat) (w : World) (h : Rx w rb s k) (hk : k ≤ s.size) (hs : s.size ≤ 1000000000) :
    Calls Tryz.prog 131 #[.pointer (some ⟨rb, 0, none⟩)] w (APost rb s (pAttr (s.toList.drop k)) w) := by
  have hW : P2 (w.alloc (.cells #[.string (B []), .string (B [])] 71)) w.heap.size [] [] := heap_alloc_new w _
  have hRW := h.alloc (.cells #[.string (B []), .string (B [])] 71)
  have hgW := grown_alloc (grown_refl w (some rb)) (.cells #[.string (B []), .string (B [])] 71)
  have hlt := h.lt
  have HA : Hid (pAttr (s.toList.drop k) = match pName (s.toList.drop k) with
    | .error e => .error e
    | .ok (k, r) => match pExp [61, 34] r with
      | .error e => .error e
      | .ok r1 => match pVal r1 with
        | .error e => .error e
        | .ok (u, r2) => .ok ((k, u), r2)) := rfl
  have C := Lib.hid (name_any rb s k _ hRW hk hs)
  clear hRW
  cases hn : pName (s.toList.drop k) with
  | error x =>
    have HX : Hid (pAttr (s.toList.drop k) = .error x) := by rw [HA.out, hn]; rfl
    have hx := pName_err hn
    have z1 : (x != 0) = true := by simpa using hx
    have z2 : (x == 0) = false := by simpa using hx
    rw [hn] at C
    clear hn HA hx
    go_enter Tryz.func131, Tryz.ntmps131
    go_wp2_with fail
    refine C.out.mono ?_
    rintro e w1 ⟨hg1, rfl⟩
    have hP1 := hW.grown hg1 (by omega)
    have p0 := hP1.c0
    have p1 := hP1.c1
    have pf0 := hP1.f0 (i := 0)
    have pf1 := hP1.f0 (i := 1)
    have hgA := grown_setN (i := 1) (u := .string ⟨#[]⟩) (grown_setN (i := 0) (u := .string ⟨#[]⟩) (grown_trans hgW hg1) (Nat.le_refl w.heap.size)) (Nat.le_refl w.heap.size)
    go_wp2
    refine bodyPost_ret (v := .tuple #[.agg #[.string ⟨#[]⟩, .string ⟨#[]⟩], .int .i64 x]) (by simp [results, Tryz.results131, go_sem, p0, p1]) rfl ?_
    unfold APost
    rw [HX.out]
    exact ⟨hgA, rfl⟩
  | ok y =>
    obtain ⟨nm, r⟩ := y
    rw [hn] at C
    have HA2 : Hid (pAttr (s.toList.drop k) = match pExp [61, 34] r with
      | .error e => .error e
      | .ok r1 => match pVal r1 with
        | .error e => .error e
        | .ok (u, r2) => .ok ((nm, u), r2)) := by rw [HA.out, hn]; rfl
    clear HA hn
    go_enter Tryz.func131, Tryz.ntmps131
    go_wp2_with fail
    refine C.out.mono ?_
    rintro e w1 ⟨hg1, rfl, k1, hR1, hd1, hk1⟩
    have hP1 := hW.grown hg1 (by omega)
    have hgA := grown_trans hgW hg1
    subst hd1
    have C2 := Lib.hid (expect_any rb s k1 [61, 34] w1 hR1 hk1 hs (by simp))
    clear C hg1 hW hgW
    cases hx : pExp [61, 34] (s.toList.drop k1) with
    | error x =>
      have HX : Hid (pAttr (s.toList.drop k) = .error x) := by rw [HA2.out, hx]; rfl
      have hx0 := pExp_err hx
      have z1 : (x != 0) = true := by simpa using hx0
      have z2 : (x == 0) = false := by simpa using hx0
      rw [hx] at C2
      clear hx HA2 hx0
      go_wp2_with fail
      refine C2.out.mono ?_
      rintro e w2 ⟨hg2, rfl⟩
      have hP2 := hP1.grown hg2 (by omega)
      have p0 := hP2.c0
      have p1 := hP2.c1
      have pf0 := hP2.f0 (i := 0)
      have pf1 := hP2.f0 (i := 1)
      have hgB := grown_setN (i := 1) (u := .string ⟨#[]⟩) (grown_setN (i := 0) (u := .string ⟨#[]⟩) (grown_trans hgA hg2) (Nat.le_refl w.heap.size)) (Nat.le_refl w.heap.size)
      go_wp2
      refine bodyPost_ret (v := .tuple #[.agg #[.string ⟨#[]⟩, .string ⟨#[]⟩], .int .i64 x]) (by simp [results, Tryz.results131, go_sem, p0, p1]) rfl ?_
      unfold APost
      rw [HX.out]
      exact ⟨hgB, rfl⟩
    | ok r1 =>
      rw [hx] at C2
      have HA3 : Hid (pAttr (s.toList.drop k) = match pVal r1 with
        | .error e => .error e
        | .ok (u, r2) => .ok ((nm, u), r2)) := by rw [HA2.out, hx]; rfl
      clear HA2 hx
      go_wp2_with fail
      refine C2.out.mono ?_
      rintro e w2 ⟨hg2, rfl, k2, hR2, hd2, hk2⟩
      have hP2 := hP1.grown hg2 (by omega)
      have hgB := grown_trans hgA hg2
      subst hd2
      clear C2 hg2 hP1 hgA hR1
      have b0 := hR2.c0
      have b1 := hR2.c1
      have i1 : (0 : Int) ≤ (k2 : Int) := by omega
      have i2 : (k2 : Int) ≤ (s.size : Int) := by omega
      have ex : s.extract k2 s.size = B (s.toList.drop k2) := B_drop s k2
      have hdl := drop_len s k2
      have hq : idxP (fun b => b != UInt8.ofNat 34) (s.toList.drop k2) = idxP notQ (s.toList.drop k2) := rfl
      have CI := Lib.hid (fun V => ibyte_any (s.toList.drop k2) 34 (by omega) V)
      rw [hq] at CI
      clear hq
      have HV : Hid (pVal (s.toList.drop k2) = if (s.toList.drop k2).dropWhile notQ = [] then .error 4 else match pText ((s.toList.drop k2).takeWhile notQ) with | .error e => .error e | .ok u => .ok (u, ((s.toList.drop k2).dropWhile notQ).drop 1)) := rfl
      by_cases hdw : (s.toList.drop k2).dropWhile notQ = []
      · have hi : idxP notQ (s.toList.drop k2) = -1 := by unfold idxP; rw [if_pos hdw]
        rw [hi] at CI
        have HX : Hid (pAttr (s.toList.drop k) = .error 4) := by rw [HA3.out, HV.out, if_pos hdw]; rfl
        clear HA3 HV hdw hi
        generalize s.toList.drop k2 = l2 at *
        have p0 := hP2.c0
        have p1 := hP2.c1
        have pf0 := hP2.f0 (i := 0)
        have pf1 := hP2.f0 (i := 1)
        have hgC := fun n => grown_setN (i := 1) (u := .string ⟨#[]⟩) (grown_setN (i := 0) (u := .string ⟨#[]⟩) (grown_drewN hgB n) (Nat.le_refl w.heap.size)) (Nat.le_refl w.heap.size)
        have HGC := Lib.hid hgC
        clear hgC
        go_wp2
        go_quiet ((go_at_call 134; exact Calls.quiet_of_same ((CI.out _).mono fun _ _ ⟨a, b⟩ => ⟨a, b.symm⟩)))
        go_wp2
        refine bodyPost_ret (v := .tuple #[.agg #[.string ⟨#[]⟩, .string ⟨#[]⟩], .int .i64 4]) (by simp [results, Tryz.results131, go_sem, p0, p1]) rfl ?_
        unfold APost
        rw [HX.out]
        exact ⟨HGC.out _, rfl⟩
      · have hi : idxP notQ (s.toList.drop k2) = (((s.toList.drop k2).takeWhile notQ).length : Int) := by unfold idxP; rw [if_neg hdw]
        rw [hi] at CI
        have htw := tw_len notQ (s.toList.drop k2)
        obtain ⟨tw1, tw2⟩ := tw_take notQ (s.toList.drop k2)
        have HA4 : Hid (pAttr (s.toList.drop k) = match pText ((s.toList.drop k2).takeWhile notQ) with | .error e => .error e | .ok u => .ok ((nm, u), s.toList.drop (k2 + ((s.toList.drop k2).takeWhile notQ).length + 1))) := by
          rw [HA3.out, HV.out, if_neg hdw]
          have e1 : ((s.toList.drop k2).dropWhile notQ).drop 1 = s.toList.drop (k2 + ((s.toList.drop k2).takeWhile notQ).length + 1) := by
            rw [← tw2, List.drop_drop, List.drop_drop]; rfl
          rw [e1]
          cases pText ((s.toList.drop k2).takeWhile notQ) <;> rfl
        have hlt2 : k2 + ((s.toList.drop k2).takeWhile notQ).length < s.size := by
          have h1 := congrArg List.length tw2
          rw [List.length_drop, hdl] at h1
          have h2 : 0 < ((s.toList.drop k2).dropWhile notQ).length := List.length_pos_iff.2 hdw
          omega
        have ex2 : s.extract k2 (k2 + ((s.toList.drop k2).takeWhile notQ).length) = B ((s.toList.drop k2).takeWhile notQ) := by
          rw [B_extract, List.drop_take, Nat.add_sub_cancel_left, tw1]
        have CU := Lib.hid (fun V => unescape_any ((s.toList.drop k2).takeWhile notQ) [60, 62] V (by omega) (take_noQ _))
        clear HA3 HV hdw hi tw1 tw2
        generalize (s.toList.drop k2).takeWhile notQ = tx at *
        have hR3 := hR2.set (m := k2 + (tx.length + 1))
        have i3 : (k2 : Int) ≤ (k2 : Int) + (tx.length : Int) := by omega
        have i4 : (k2 : Int) + (tx.length : Int) ≤ (s.size : Int) := by omega
        have ws : IntKind.i64.wrap ((k2 : Int) + (tx.length : Int)) = (k2 : Int) + (tx.length : Int) := IntWalk.i64_in _ (by omega)
        have tn : ((k2 : Int) + (tx.length : Int)).toNat = k2 + tx.length := by omega
        have HWS := Lib.hid ws
        have HTN := Lib.hid tn
        clear ws tn
        generalize s.toList.drop k2 = l2 at *
        go_wp2
        go_quiet ((go_at_call 134; exact Calls.quiet_of_same ((CI.out _).mono fun _ _ ⟨a, b⟩ => ⟨a, b.symm⟩)))
        rename_i nq
        have hD : AI w rb s k2 (w2.drewN nq).drew := ⟨hR2, hP2, grown_drewN (grown_drewN hgB nq) 1⟩
        have ws := HWS.out
        have tn := HTN.out
        clear hR2 hP2 hgB hR3
        cases ht : pText tx with
        | error x =>
          have HX : Hid (pAttr (s.toList.drop k) = .error x) := by rw [HA4.out, ht]; rfl
          have hx0 := pText_err ht
          have z1 : (x != 0) = true := by simpa using hx0
          have z2 : (x == 0) = false := by simpa using hx0
          rw [ht] at CU
          clear ht HA4 hx0
          go_wp2
          go_region_held3 (fun w' => w'.cell? ⟨rb, 0, none⟩ = some (.string s) ∧ w'.cell? ⟨rb, 1, none⟩ = some (.int .i64 (k2 : Int)))
            (first | exact ⟨hD.r.c0, hD.r.c1⟩)
            (first
              | (go_at_call 135; refine (CU.out _).mono ?_; rintro e w' ⟨hb, rfl⟩; have hD' := hD.step hb; clear hD hb; have hD := hD'; clear hD'))
          have p0 := hD.p.c0
          have p1 := hD.p.c1
          have pf0 := hD.p.f0 (i := 0)
          have pf1 := hD.p.f0 (i := 1)
          have hgC := grown_setN (i := 1) (u := .string ⟨#[]⟩) (grown_setN (i := 0) (u := .string ⟨#[]⟩) hD.g (Nat.le_refl w.heap.size)) (Nat.le_refl w.heap.size)
          clear hD ws tn
          go_wp2
          refine bodyPost_ret (v := .tuple #[.agg #[.string ⟨#[]⟩, .string ⟨#[]⟩], .int .i64 x]) (by simp [results, Tryz.results131, go_sem, p0, p1]) rfl ?_
          unfold APost
          rw [HX.out]
          exact ⟨hgC, rfl⟩
        | ok u =>
          have HX : Hid (pAttr (s.toList.drop k) = .ok ((nm, u), s.toList.drop (k2 + (tx.length + 1)))) := by rw [HA4.out, ht]; rfl
          rw [ht] at CU
          clear ht HA4
          go_wp2
          go_region_held3 (fun w' => w'.cell? ⟨rb, 0, none⟩ = some (.string s) ∧ w'.cell? ⟨rb, 1, none⟩ = some (.int .i64 (k2 : Int)))
            (first | exact ⟨hD.r.c0, hD.r.c1⟩)
            (first
              | (go_at_call 135; refine (CU.out _).mono ?_; rintro e w' ⟨hb, rfl⟩; have hD' := hD.step hb; clear hD hb; have hD := hD'; clear hD'))
          have hR4 := hD.r.set (m := k2 + (tx.length + 1))
          have g4 := grown_trans hD.g (grown_setC _ rb 1 (.int .i64 ((k2 + (tx.length + 1) : Nat) : Int)))
          have hP4 : P2 _ w.heap.size [] [] := (blk_set (w := _) (c := rb) (i := 1) (u := .int .i64 ((k2 + (tx.length + 1) : Nat) : Int)) (show rb ≠ w.heap.size by omega)).trans hD.p
          have c1 := hD.r.c1
          have cf := hD.r.f1
          have eI : ((k2 + (tx.length + 1) : Nat) : Int) = (k2 : Int) + ((tx.length : Int) + 1) := by omega
          rw [eI] at hR4 g4 hP4
          have p0 := hP4.c0
          have p1 := hP4.c1
          have pf0 := hP4.f0 (i := 0)
          have pf1 := hP4.f0 (i := 1)
          have HEI := Lib.hid eI
          have hne : w.heap.size ≠ rb := by omega
          clear hD ws tn b0 b1 eI
          go_wp2
          refine bodyPost_ret (v := .tuple #[.agg #[.string (B nm), .string (B u)], .int .i64 0]) (by simp [results, Tryz.results131, go_sem, p0, p1]) rfl ?_
          unfold APost
          rw [HX.out]
          exact ⟨grown_setN (grown_setN g4 (Nat.le_refl _)) (Nat.le_refl _), rfl, _, (blk_set hne).trans ((blk_set hne).trans hR4), rfl, by omega⟩
def NPost (rb : Nat) (s : ByteArray) (r : Except Int (Nd × List UInt8)) (w : World) (e : Ending) (w' : World) : Prop := w.grownBy w' (some rb) ∧ match r with
  | .error x => ∃ c : NC, e = .returned (.tuple #[.agg #[.string (B c.nm), .string (B c.tx), .slice c.A c.na c.ca, .slice c.K c.nk c.ck], .int .i64 x])
  | .ok (n, l) => ∃ c : NC, e = .returned (.tuple #[.agg #[.string (B c.nm), .string (B c.tx), .slice c.A c.na c.ca, .slice c.K c.nk c.ck], .int .i64 0]) ∧ NdAt w' (fun b => w.heap.size ≤ b ∧ b < w'.heap.size) n c ∧ ∃ k, Rx w' rb s k ∧ s.toList.drop k = l ∧ k ≤ s.size
def nc0 : NC := ⟨[], [], none, 0, 0, none, 0, 0⟩
theorem Bx.grown {w w' : World} {b row : Nat} {c : NC} (h : Bx w b c) (hg : w.grownBy w' (some row)) (hne : b ≠ row) : Bx w' b c := (hg.block b h.lt (fun e => hne (Option.some.inj e))).trans h
theorem Bx.ff {w : World} {b i : Nat} {c : NC} (h : Bx w b c) : w.frozen? ⟨b, i, none⟩ = false := by unfold Bx at h; simp [World.frozen?, h]
/-- block b was given the cells of a node -/
theorem Bx.set4 {w : World} {b : Nat} {c c' : NC} (h : Bx w b c) : Bx ((((w.setCell ⟨b, 0, none⟩ (.string (B c'.nm))).setCell ⟨b, 1, none⟩ (.string (B c'.tx))).setCell ⟨b, 2, none⟩ (.slice c'.A c'.na c'.ca)).setCell ⟨b, 3, none⟩ (.slice c'.K c'.nk c'.ck)) b c' := by
  unfold Bx at *
  simp [World.setCell, Array.getElem?_modify, h]
theorem grown_set4 {a w : World} {b : Nat} {v0 v1 v2 v3 : Value} {row : Option Nat} (h : a.grownBy w row) (hb : a.heap.size ≤ b) : a.grownBy ((((w.setCell ⟨b, 0, none⟩ v0).setCell ⟨b, 1, none⟩ v1).setCell ⟨b, 2, none⟩ v2).setCell ⟨b, 3, none⟩ v3) row :=
  grown_setN (grown_setN (grown_setN (grown_setN h hb) hb) hb) hb
theorem blk_set4 {w : World} {b k : Nat} {v0 v1 v2 v3 : Value} (h : b ≠ k) : ((((w.setCell ⟨b, 0, none⟩ v0).setCell ⟨b, 1, none⟩ v1).setCell ⟨b, 2, none⟩ v2).setCell ⟨b, 3, none⟩ v3).heap[k]? = w.heap[k]? :=
  (blk_set h).trans ((blk_set h).trans ((blk_set h).trans (blk_set h)))
structure DI (w : World) (rb : Nat) (s : ByteArray) (k : Nat) (W : World) : Prop where
  r : Rx W rb s k
  p : Bx W w.heap.size nc0
  g : w.grownBy W (some rb)
theorem DI.step {w W w' : World} {rb k : Nat} {s : ByteArray} (h : DI w rb s k W) (hb : Below W.heap.size W w') : DI w rb s k w' :=
  ⟨h.r.below hb h.r.lt, h.p.below hb h.p.lt, grown_belowW h.g hb⟩
end Go.Proofs.YtejjidbodfoiiaaGreatDoor
namespace Go.Proofs.YtejjidbodfoiiaaGreatDoor
open Go.RowKit
set_option linter.unusedVariables false
set_option linter.unusedSimpArgs false
attribute [local go_sem] B_data B_size

theorem nd_text (w : World) (S : Nat → Prop) (u : List UInt8) : NdAt w S (.mk [] u [] []) ⟨[], u, none, 0, 0, none, 0, 0⟩ :=
  ⟨rfl, rfl, ⟨rfl, fun h => absurd h (Nat.lt_irrefl 0)⟩, [], ⟨rfl, fun h => absurd h (Nat.lt_irrefl 0)⟩, rfl⟩
set_option maxHeartbeats 8000000 in
set_option maxRecDepth 100000 in
theorem data_any (rb : Nat) (s : ByteArray) (k : Nat) (kid : Bool) (w : World) (h : Rx w rb s k) (hk : k ≤ s.size) (hs : s.size ≤ 1000000000) :
    Calls Tryz.prog 104 #[.pointer (some ⟨rb, 0, none⟩), .bool kid] w (NPost rb s (pData kid (s.toList.drop k)) w) := by
  have hW : Bx (w.alloc (.cells #[.string ⟨#[]⟩, .string ⟨#[]⟩, .slice none 0 0, .slice none 0 0] 65)) w.heap.size nc0 := heap_alloc_new w _
  have hRW := h.alloc (.cells #[.string ⟨#[]⟩, .string ⟨#[]⟩, .slice none 0 0, .slice none 0 0] 65)
  have hgW := grown_alloc (grown_refl w (some rb)) (.cells #[.string ⟨#[]⟩, .string ⟨#[]⟩, .slice none 0 0, .slice none 0 0] 65)
  have hlt := h.lt
  have hrn : rb < w.heap.size := hlt
  have b0 := hRW.c0
  have b1 := hRW.c1
  have i1 : (0 : Int) ≤ (k : Int) := by omega
  have i2 : (k : Int) ≤ (s.size : Int) := by omega
  have ex : s.extract k s.size = B (s.toList.drop k) := B_drop s k
  have hdl : k + (s.toList.drop k).length ≤ s.size := by rw [drop_len s k]; omega
  have CI := Lib.hid (fun V => ibyte_any (s.toList.drop k) 60 (by omega) V)
  rw [show idxP (fun b => b != UInt8.ofNat 60) (s.toList.drop k) = idxP notL (s.toList.drop k) from rfl] at CI
  have HDD := Lib.hid (fun n => (List.drop_drop (i := k) (j := n) (l := s.toList)))
  have HP : Hid (pData kid (s.toList.drop k) = if (s.toList.drop k).dropWhile notL = [] ∧ kid = true then .error 4 else match pText ((s.toList.drop k).takeWhile notL) with | .error e => .error e | .ok u => .ok (.mk [] u [] [], (s.toList.drop k).dropWhile notL)) := rfl
  have htw := tw_len notL (s.toList.drop k)
  obtain ⟨tw1, tw2⟩ := tw_take notL (s.toList.drop k)
  have HTW1 := Lib.hid tw1
  have HTW2 := Lib.hid tw2
  have CU := Lib.hid (fun V => unescape_any ((s.toList.drop k).takeWhile notL) [62, 34] V (by omega) (take_noL _))
  clear tw1 tw2
  have hD : DI w rb s k (w.alloc (.cells #[.string ⟨#[]⟩, .string ⟨#[]⟩, .slice none 0 0, .slice none 0 0] 65)) := ⟨hRW, hW, hgW⟩
  clear hRW hW hgW
  have HXT : Hid ((B (s.toList.drop k)).extract 0 ((s.toList.drop k).takeWhile notL).length = B ((s.toList.drop k).takeWhile notL)) := by rw [B_take, B_data, HTW1.out]; rfl
  have HDD2 : Hid (s.toList.drop (k + ((s.toList.drop k).takeWhile notL).length) = (s.toList.drop k).dropWhile notL) := by rw [← List.drop_drop, HTW2.out]; rfl
  by_cases hdw : (s.toList.drop k).dropWhile notL = []
  · have hi : idxP notL (s.toList.drop k) = -1 := by unfold idxP; rw [if_pos hdw]
    have hll : ((s.toList.drop k).takeWhile notL).length = (s.toList.drop k).length := by
      have := @List.takeWhile_append_dropWhile _ notL (s.toList.drop k)
      rw [hdw, List.append_nil] at this
      rw [this]
    rw [hi] at CI
    cases kid
    · have HP2 : Hid (pData false (s.toList.drop k) = match pText ((s.toList.drop k).takeWhile notL) with | .error e => .error e | .ok u => .ok (.mk [] u [] [], s.toList.drop (k + ((s.toList.drop k).takeWhile notL).length))) := by rw [HP.out, if_neg (by simp), HDD2.out]; rfl
      have htl : (s.toList.drop k).takeWhile notL = s.toList.drop k := by
        have := @List.takeWhile_append_dropWhile _ notL (s.toList.drop k)
        rw [hdw, List.append_nil] at this
        exact this
      rw [htl] at HP2 HXT CU
      clear HP hi hdw hll HTW1 HTW2 HDD HDD2 htw htl
      generalize s.toList.drop k = l at *
      have hxt := HXT.out
      go_enter Tryz.func104, Tryz.ntmps104
      go_wp2
      go_quiet (fail)
      rename_i nq
      have hDV : DI w rb s k ((w.alloc (.cells #[.string ⟨#[]⟩, .string ⟨#[]⟩, .slice none 0 0, .slice none 0 0] 65)).drewN nq) := ⟨hD.r, hD.p, grown_drewN hD.g nq⟩
      go_wp2_with fail
      refine (CI.out _).mono ?_
      rintro e w2 ⟨rfl, rfl⟩
      cases ht : pText l with
      | error x =>
        have HX : Hid (pData false l = .error x) := by rw [HP2.out, ht]; rfl
        have hx0 := pText_err ht
        have z1 : (x != 0) = true := by simpa using hx0
        have z2 : (x == 0) = false := by simpa using hx0
        rw [ht] at CU
        clear ht HP2 hx0
        go_wp2_with fail
        refine (CU.out _).mono ?_
        rintro e w2 ⟨hb2, rfl⟩
        have hD2 := hDV.step hb2
        clear hDV hb2
        have p0 := hD2.p.c0
        have p1 := hD2.p.c1
        have p2 := hD2.p.c2
        have p3 := hD2.p.c3
        have pf0 := hD2.p.ff (i := 0)
        have pf1 := hD2.p.ff (i := 1)
        have pf2 := hD2.p.ff (i := 2)
        have pf3 := hD2.p.ff (i := 3)
        go_wp2
        refine bodyPost_ret (v := .tuple #[.agg #[.string ⟨#[]⟩, .string ⟨#[]⟩, .slice none 0 0, .slice none 0 0], .int .i64 x]) (by simp [results, Tryz.results104, go_sem, p0, p1, p2, p3]) rfl ?_
        unfold NPost
        rw [HX.out]
        exact ⟨grown_set4 hD2.g (Nat.le_refl _), nc0, rfl⟩
      | ok u =>
        have HX : Hid (pData false l = .ok (.mk [] u [] [], s.toList.drop (k + l.length))) := by rw [HP2.out, ht]; rfl
        rw [ht] at CU
        clear ht HP2
        go_wp2_with fail
        refine (CU.out _).mono ?_
        rintro e w2 ⟨hb2, rfl⟩
        have hD2 := hDV.step hb2
        clear hDV hb2
        have hR4 := hD2.r.set (m := k + l.length)
        have g4 := grown_trans hD2.g (grown_setC _ rb 1 (.int .i64 ((k + l.length : Nat) : Int)))
        have hP4 : Bx _ w.heap.size nc0 := (blk_set (w := _) (c := rb) (i := 1) (u := .int .i64 ((k + l.length : Nat) : Int)) (show rb ≠ w.heap.size by omega)).trans hD2.p
        have c1 := hD2.r.c1
        have cf := hD2.r.f1
        have eI : ((k + l.length : Nat) : Int) = (k : Int) + (l.length : Int) := by omega
        rw [eI] at hR4 g4 hP4
        have p0 := hP4.c0
        have p1 := hP4.c1
        have p2 := hP4.c2
        have p3 := hP4.c3
        have pf0 := hP4.ff (i := 0)
        have pf1 := hP4.ff (i := 1)
        have pf2 := hP4.ff (i := 2)
        have pf3 := hP4.ff (i := 3)
        have hne : w.heap.size ≠ rb := by omega
        clear hD2 eI b0 b1
        go_wp2
        refine bodyPost_ret (v := .tuple #[.agg #[.string ⟨#[]⟩, .string (B u), .slice none 0 0, .slice none 0 0], .int .i64 0]) (by simp [results, Tryz.results104, go_sem, p0, p1, p2, p3]) rfl ?_
        unfold NPost
        rw [HX.out]
        exact ⟨grown_set4 g4 (Nat.le_refl _), ⟨[], u, none, 0, 0, none, 0, 0⟩, rfl, nd_text _ _ u, _, (blk_set4 hne).trans hR4, rfl, by omega⟩

    · have HX : Hid (pData true (s.toList.drop k) = .error 4) := by rw [HP.out, if_pos ⟨hdw, rfl⟩]; rfl
      clear HP hi hdw hll HTW1 HTW2 HDD HDD2 HXT
      generalize (s.toList.drop k).takeWhile notL = tx at *
      generalize s.toList.drop k = l at *
      go_enter Tryz.func104, Tryz.ntmps104
      go_wp2
      go_quiet (fail)
      rename_i nq
      have hDV : DI w rb s k ((w.alloc (.cells #[.string ⟨#[]⟩, .string ⟨#[]⟩, .slice none 0 0, .slice none 0 0] 65)).drewN nq) := ⟨hD.r, hD.p, grown_drewN hD.g nq⟩
      go_wp2_with fail
      refine (CI.out _).mono ?_
      rintro e w2 ⟨rfl, rfl⟩
      have p0 := hDV.p.c0
      have p1 := hDV.p.c1
      have p2 := hDV.p.c2
      have p3 := hDV.p.c3
      go_wp2
      refine bodyPost_ret (v := .tuple #[.agg #[.string ⟨#[]⟩, .string ⟨#[]⟩, .slice none 0 0, .slice none 0 0], .int .i64 4]) (by simp [results, Tryz.results104, go_sem, p0, p1, p2, p3]) rfl ?_
      unfold NPost
      rw [HX.out]
      exact ⟨grown_set4 hDV.g (Nat.le_refl _), nc0, rfl⟩
  · have hi : idxP notL (s.toList.drop k) = (((s.toList.drop k).takeWhile notL).length : Int) := by unfold idxP; rw [if_neg hdw]
    rw [hi] at CI
    have HP2 : Hid (pData kid (s.toList.drop k) = match pText ((s.toList.drop k).takeWhile notL) with | .error e => .error e | .ok u => .ok (.mk [] u [] [], s.toList.drop (k + ((s.toList.drop k).takeWhile notL).length))) := by rw [HP.out, if_neg (fun h => hdw h.1), HDD2.out]; rfl
    clear HP hi hdw HTW1 HTW2 HDD HDD2
    generalize (s.toList.drop k).takeWhile notL = tx at *
    generalize s.toList.drop k = l at *
    have hxt := HXT.out
    have i3 : (tx.length : Int) ≤ (l.length : Int) := by omega
    go_enter Tryz.func104, Tryz.ntmps104
    go_wp2
    go_quiet (fail)
    rename_i nq
    have hDV : DI w rb s k ((w.alloc (.cells #[.string ⟨#[]⟩, .string ⟨#[]⟩, .slice none 0 0, .slice none 0 0] 65)).drewN nq) := ⟨hD.r, hD.p, grown_drewN hD.g nq⟩
    go_wp2_with fail
    refine (CI.out _).mono ?_
    rintro e w2 ⟨rfl, rfl⟩
    cases ht : pText tx with
    | error x =>
      have HX : Hid (pData kid l = .error x) := by rw [HP2.out, ht]; rfl
      have hx0 := pText_err ht
      have z1 : (x != 0) = true := by simpa using hx0
      have z2 : (x == 0) = false := by simpa using hx0
      rw [ht] at CU
      clear ht HP2 hx0
      go_wp2_with fail
      refine (CU.out _).mono ?_
      rintro e w2 ⟨hb2, rfl⟩
      have hD2 := hDV.step hb2
      clear hDV hb2
      have p0 := hD2.p.c0
      have p1 := hD2.p.c1
      have p2 := hD2.p.c2
      have p3 := hD2.p.c3
      have pf0 := hD2.p.ff (i := 0)
      have pf1 := hD2.p.ff (i := 1)
      have pf2 := hD2.p.ff (i := 2)
      have pf3 := hD2.p.ff (i := 3)
      go_wp2
      refine bodyPost_ret (v := .tuple #[.agg #[.string ⟨#[]⟩, .string ⟨#[]⟩, .slice none 0 0, .slice none 0 0], .int .i64 x]) (by simp [results, Tryz.results104, go_sem, p0, p1, p2, p3]) rfl ?_
      unfold NPost
      rw [HX.out]
      exact ⟨grown_set4 hD2.g (Nat.le_refl _), nc0, rfl⟩
    | ok u =>
      have HX : Hid (pData kid l = .ok (.mk [] u [] [], s.toList.drop (k + tx.length))) := by rw [HP2.out, ht]; rfl
      rw [ht] at CU
      clear ht HP2
      go_wp2_with fail
      refine (CU.out _).mono ?_
      rintro e w2 ⟨hb2, rfl⟩
      have hD2 := hDV.step hb2
      clear hDV hb2
      have hR4 := hD2.r.set (m := k + tx.length)
      have g4 := grown_trans hD2.g (grown_setC _ rb 1 (.int .i64 ((k + tx.length : Nat) : Int)))
      have hP4 : Bx _ w.heap.size nc0 := (blk_set (w := _) (c := rb) (i := 1) (u := .int .i64 ((k + tx.length : Nat) : Int)) (show rb ≠ w.heap.size by omega)).trans hD2.p
      have c1 := hD2.r.c1
      have cf := hD2.r.f1
      have eI : ((k + tx.length : Nat) : Int) = (k : Int) + (tx.length : Int) := by omega
      rw [eI] at hR4 g4 hP4
      have p0 := hP4.c0
      have p1 := hP4.c1
      have p2 := hP4.c2
      have p3 := hP4.c3
      have pf0 := hP4.ff (i := 0)
      have pf1 := hP4.ff (i := 1)
      have pf2 := hP4.ff (i := 2)
      have pf3 := hP4.ff (i := 3)
      have hne : w.heap.size ≠ rb := by omega
      clear hD2 eI b0 b1
      go_wp2
      refine bodyPost_ret (v := .tuple #[.agg #[.string ⟨#[]⟩, .string (B u), .slice none 0 0, .slice none 0 0], .int .i64 0]) (by simp [results, Tryz.results104, go_sem, p0, p1, p2, p3]) rfl ?_
      unfold NPost
      rw [HX.out]
      exact ⟨grown_set4 g4 (Nat.le_refl _), ⟨[], u, none, 0, 0, none, 0, 0⟩, rfl, nd_text _ _ u, _, (blk_set4 hne).trans hR4, rfl, by omega⟩

end Go.Proofs.YtejjidbodfoiiaaGreatDoor
namespace Go.Proofs.YtejjidbodfoiiaaGreatDoor
open Go.RowKit
set_option linter.unusedVariables false
set_option linter.unusedSimpArgs false
attribute [local go_sem] B_data B_size

theorem wpList_updG {P : Program} {w : World} {ops : Array Oper} {rest : List Oper} {o : Oper} {a : Act} {Q : Exit → Act → World → Prop} (hgd : o.guard = none) (T K E : TypeId) (m k v : Operand) (ho : o.op = .mapUpdate T m k v)
    (hT : P.underlying T = some (.map K E)) (hK : P.underlying K = some .string) (b : Nat) (kvs : List (List UInt8 × Value)) (hs : SMap w b kvs) (hm : a.eval m = .map (some b)) (kl : List UInt8) (hk : a.eval k = .string (B kl)) (val : Value) (hv : a.eval v = val) (hn : lookL kl kvs = none)
    (h : ∀ w', SMap w' b (kvs ++ [(kl, val)]) → w.grownBy w' (some b) → wpList P ops Q rest (a.put o.dst undef) w') :
    wpList P ops Q (o :: rest) a w := by
  refine wpList_plain hgd fun K' hK' => ?_
  obtain ⟨w', hrun, r1, r2⟩ := SMap.put hT hK hs kl val hn
  unfold Oper.wp
  simp [execOp, ho, hm, hk, hv, hrun, Result.andThen]
  exact hK' _ _ (h w' r1 r2)
/-- the pointer to the reader in a block of its own -/
def Px (w : World) (pb rb : Nat) : Prop := w.heap[pb]? = some (.cells #[.pointer (some ⟨rb, 0, none⟩)] 113 (0, 0))
theorem Px.cell {w : World} {pb rb : Nat} (h : Px w pb rb) : w.cell? ⟨pb, 0, none⟩ = some (.pointer (some ⟨rb, 0, none⟩)) := by unfold Px at h; simp [World.cell?, h]
theorem Px.lt {w : World} {pb rb : Nat} (h : Px w pb rb) : pb < w.heap.size := (Array.getElem?_eq_some_iff.1 h).1
theorem own_grown {w w' : World} {base e sz n row : Nat} {v : Value} {xs : List Value} (h : w.ownsRow base e sz v n xs) (hg : w.grownBy w' (some row)) (hr : row < base) : w'.ownsRow base e sz v n xs :=
  h.kept hg (.inr fun e => by have := (h.lt row e).1; omega)
/-- the attributes so far -/
structure EA (w : World) (rb : Nat) (s : ByteArray) (nm : List UInt8) (base pb res ob mb k : Nat) (ats : List (List UInt8 × List UInt8)) (A : Option Addr) (ca : Nat) (W : World) : Prop where
  r : Rx W rb s k
  pp : Px W pb rb
  rs : Bx W res nc0
  bx : Bx W ob ⟨nm, [], A, ats.length, ca, none, 0, 0⟩
  own : W.ownsRow base 71 2 (.slice A ats.length ca) ats.length (ats.flatMap prF)
  mp : SMap W mb (seenM (ats.map (·.1)))
  g : w.grownBy W (some rb)
  o1 : rb < w.heap.size
  o2 : w.heap.size ≤ pb ∧ pb < base
  o3 : w.heap.size ≤ res ∧ res < base
  o4 : w.heap.size ≤ ob ∧ ob < base
  o5 : w.heap.size ≤ mb ∧ mb < base
  n1 : pb ≠ ob ∧ res ≠ ob ∧ mb ≠ ob ∧ pb ≠ mb ∧ res ≠ mb ∧ pb ≠ res
  lb : base ≤ W.heap.size
theorem EA.grow {w : World} {rb : Nat} {s : ByteArray} {nm : List UInt8} {base pb res ob mb k k' : Nat} {ats : List (List UInt8 × List UInt8)} {A : Option Addr} {ca : Nat} {W W' : World} (h : EA w rb s nm base pb res ob mb k ats A ca W) (hg : W.grownBy W' (some rb)) (hr : Rx W' rb s k') : EA w rb s nm base pb res ob mb k' ats A ca W' := by
  have ne : ∀ b, w.heap.size ≤ b → some b ≠ some rb := fun b hb e => by have := h.o1; injection e with e; omega
  exact ⟨hr, (hg.block pb h.pp.lt (ne _ h.o2.1)).trans h.pp, (hg.block res h.rs.lt (ne _ h.o3.1)).trans h.rs, (hg.block ob h.bx.lt (ne _ h.o4.1)).trans h.bx,
    own_grown h.own hg (by have := h.o1; have := h.o2; omega), h.mp.of_block (hg.block mb h.mp.lt (ne _ h.o5.1)), grown_trans h.g hg, h.o1, h.o2, h.o3, h.o4, h.o5, h.n1, Nat.le_trans h.lb hg.size⟩
theorem EA.below {w : World} {rb : Nat} {s : ByteArray} {nm : List UInt8} {base pb res ob mb k : Nat} {ats : List (List UInt8 × List UInt8)} {A : Option Addr} {ca : Nat} {W W' : World} (h : EA w rb s nm base pb res ob mb k ats A ca W) (hb : Below W.heap.size W W') : EA w rb s nm base pb res ob mb k ats A ca W' :=
  h.grow (grown_of_below hb _) (h.r.below hb h.r.lt)
theorem EA.drewN {w : World} {rb : Nat} {s : ByteArray} {nm : List UInt8} {base pb res ob mb k : Nat} {ats : List (List UInt8 × List UInt8)} {A : Option Addr} {ca : Nat} {W : World} (h : EA w rb s nm base pb res ob mb k ats A ca W) (n : Nat) : EA w rb s nm base pb res ob mb k ats A ca (W.drewN n) :=
  h.grow (grown_drewN (grown_refl _ _) n) h.r
theorem EA.setR {w : World} {rb : Nat} {s : ByteArray} {nm : List UInt8} {base pb res ob mb k m : Nat} {ats : List (List UInt8 × List UInt8)} {A : Option Addr} {ca : Nat} {W : World} (h : EA w rb s nm base pb res ob mb k ats A ca W) : EA w rb s nm base pb res ob mb m ats A ca (W.setCell ⟨rb, 1, none⟩ (.int .i64 (m : Int))) :=
  h.grow (grown_setC W rb 1 _) h.r.set
/-- the set of the names has one more -/
theorem EA.upd {w : World} {rb : Nat} {s : ByteArray} {nm : List UInt8} {base pb res ob mb k : Nat} {ats : List (List UInt8 × List UInt8)} {A : Option Addr} {ca : Nat} {W W' : World} (h : EA w rb s nm base pb res ob mb k ats A ca W) (hg : W.grownBy W' (some mb)) :
    Rx W' rb s k ∧ Px W' pb rb ∧ Bx W' res nc0 ∧ Bx W' ob ⟨nm, [], A, ats.length, ca, none, 0, 0⟩ ∧ W'.ownsRow base 71 2 (.slice A ats.length ca) ats.length (ats.flatMap prF) ∧ w.grownBy W' (some rb) ∧ base ≤ W'.heap.size := by
  have hm := h.o5
  have hr := h.o1
  refine ⟨h.r.grown hg (by omega), (hg.block pb h.pp.lt (fun e => h.n1.2.2.2.1 (Option.some.inj e))).trans h.pp, (hg.block res h.rs.lt (fun e => h.n1.2.2.2.2.1 (Option.some.inj e))).trans h.rs, (hg.block ob h.bx.lt (fun e => h.n1.2.2.1 (Option.some.inj e).symm)).trans h.bx, own_grown h.own hg hm.2, ?_, Nat.le_trans h.lb hg.size⟩
  exact ⟨hg.os.trans h.g.os, hg.tape.trans h.g.tape, hg.output.trans h.g.output, Nat.le_trans h.g.size hg.size, fun i hi hne => (hg.block i (Nat.lt_of_lt_of_le hi h.g.size) (fun e => by injection e with e; omega)).trans (h.g.block i hi hne)⟩
end Go.Proofs.YtejjidbodfoiiaaGreatDoor
