/-
  Layer 33 (markup): the reader of the program: attribute and data.
-/
import Derived.Test.YtejjidbodfoiiaaGreatDoorMkZ
namespace Go.Proofs.YtejjidbodfoiiaaGreatDoor
open Go.RowKit
set_option linter.unusedVariables false
set_option linter.unusedSimpArgs false
attribute [local go_sem] B_data B_size
attribute [local go_sem ↓] Go.wp_at_zero Go.wp_at_succ

theorem pName_err {l : List UInt8} {x : Int} (h : pName l = .error x) : x ≠ 0 := by
  unfold pName at h
  split at h
  · injection h with h; omega
  · split at h
    · injection h with h; omega
    · cases h
theorem pExp_err {t l : List UInt8} {x : Int} (h : pExp t l = .error x) : x ≠ 0 := by
  unfold pExp at h
  split at h
  · cases h
  · split at h <;> (injection h with h; omega)
theorem pText_err {l : List UInt8} {x : Int} (h : pText l = .error x) : x ≠ 0 := by
  unfold pText at h
  split at h
  · injection h with h; omega
  · cases hu : unesc l with
    | none => rw [hu] at h; injection h with h; omega
    | some u => rw [hu] at h; cases h
theorem pVal_err {l : List UInt8} {x : Int} (h : pVal l = .error x) : x ≠ 0 := by
  unfold pVal at h
  split at h
  · injection h with h; omega
  · cases hu : pText (l.takeWhile notQ) with
    | error e => rw [hu] at h; injection h with h; rw [← h]; exact pText_err hu
    | ok u => rw [hu] at h; cases h
theorem Rx.grown {w w' : World} {rb k row : Nat} {s : ByteArray} (h : Rx w rb s k) (hg : w.grownBy w' (some row)) (hne : rb ≠ row) : Rx w' rb s k := (hg.block rb h.lt (fun e => hne (Option.some.inj e))).trans h
theorem grown_alloc {a w : World} {row : Option Nat} (h : a.grownBy w row) (o : Obj) : a.grownBy (w.alloc o) row := grown_trans h (World.grownBy_alloc w o row)
theorem grown_belowW {a w w' : World} {row : Option Nat} (h : a.grownBy w row) (hb : Below w.heap.size w w') : a.grownBy w' row := grown_trans h (grown_of_below hb row)
theorem grown_setN {a w : World} {c i : Nat} {u : Value} {row : Option Nat} (h : a.grownBy w row) (hc : a.heap.size ≤ c) : a.grownBy (w.setCell ⟨c, i, none⟩ u) row :=
  ⟨h.os, h.tape, h.output, by simp; exact h.size, fun k hk hne => by
    have e : (w.setCell ⟨c, i, none⟩ u).heap[k]? = w.heap[k]? := by
      unfold World.setCell
      simp only
      rw [Array.getElem?_modify, if_neg (by omega)]
    exact e.trans (h.block k hk hne)⟩
theorem blk_set {w : World} {c k i : Nat} {u : Value} (h : c ≠ k) : (w.setCell ⟨c, i, none⟩ u).heap[k]? = w.heap[k]? := by
  unfold World.setCell
  simp only
  rw [Array.getElem?_modify, if_neg h]
/-- block b holds two texts -/
def P2 (w : World) (b : Nat) (x y : List UInt8) : Prop := w.heap[b]? = some (.cells #[.string (B x), .string (B y)] 71 (0, 0))
theorem P2.lt {w : World} {b : Nat} {x y : List UInt8} (h : P2 w b x y) : b < w.heap.size := (Array.getElem?_eq_some_iff.1 h).1
theorem P2.c0 {w : World} {b : Nat} {x y : List UInt8} (h : P2 w b x y) : w.cell? ⟨b, 0, none⟩ = some (.string (B x)) := by unfold P2 at h; simp [World.cell?, h]
theorem P2.c1 {w : World} {b : Nat} {x y : List UInt8} (h : P2 w b x y) : w.cell? ⟨b, 1, none⟩ = some (.string (B y)) := by unfold P2 at h; simp [World.cell?, h]
theorem P2.f0 {w : World} {b i : Nat} {x y : List UInt8} (h : P2 w b x y) : w.frozen? ⟨b, i, none⟩ = false := by unfold P2 at h; simp [World.frozen?, h]
theorem P2.grown {w w' : World} {b row : Nat} {x y : List UInt8} (h : P2 w b x y) (hg : w.grownBy w' (some row)) (hne : b ≠ row) : P2 w' b x y := (hg.block b h.lt (fun e => hne (Option.some.inj e))).trans h
theorem P2.below {w w' : World} {b M : Nat} {x y : List UInt8} (h : P2 w b x y) (hb : Below M w w') (hM : b < M) : P2 w' b x y := (hb.block b hM).trans h
def APost (rb : Nat) (s : ByteArray) (r : Except Int ((List UInt8 × List UInt8) × List UInt8)) (w : World) (e : Ending) (w' : World) : Prop := w.grownBy w' (some rb) ∧ match r with
  | .error x => e = .returned (.tuple #[.agg #[.string (B []), .string (B [])], .int .i64 x])
  | .ok (p, l) => e = .returned (.tuple #[.agg #[.string (B p.1), .string (B p.2)], .int .i64 0]) ∧ ∃ k, Rx w' rb s k ∧ s.toList.drop k = l ∧ k ≤ s.size
theorem take_noQ (l : List UInt8) : ∀ c ∈ l.takeWhile notQ, (c = 60 ∨ c = 62 ∨ c = 34) ↔ c ∈ [60, 62] := by
  intro c hc
  have := span_all notQ l c hc
  have h34 : c ≠ 34 := by simpa [notQ] using this
  simp [h34]
theorem take_noL (l : List UInt8) : ∀ c ∈ l.takeWhile notL, (c = 60 ∨ c = 62 ∨ c = 34) ↔ c ∈ [62, 34] := by
  intro c hc
  have := span_all notL l c hc
  have h34 : c ≠ 60 := by simpa [notL] using this
  simp [h34]
theorem tw_len (p : UInt8 → Bool) (l : List UInt8) : (l.takeWhile p).length ≤ l.length := by
  have := congrArg List.length (@List.takeWhile_append_dropWhile _ p l)
  rw [List.length_append] at this; omega
theorem tw_take (p : UInt8 → Bool) (l : List UInt8) : l.take (l.takeWhile p).length = l.takeWhile p ∧ l.drop (l.takeWhile p).length = l.dropWhile p := by
  have h := @List.takeWhile_append_dropWhile _ p l
  have e1 := List.take_left (l₁ := l.takeWhile p) (l₂ := l.dropWhile p)
  have e2 := List.drop_left (l₁ := l.takeWhile p) (l₂ := l.dropWhile p)
  rw [h] at e1 e2
  exact ⟨e1, e2⟩
/-- what is known while a value is read -/
structure AI (w : World) (rb : Nat) (s : ByteArray) (k : Nat) (W : World) : Prop where
  r : Rx W rb s k
  p : P2 W w.heap.size [] []
  g : w.grownBy W (some rb)
theorem AI.step {w W w' : World} {rb k : Nat} {s : ByteArray} (h : AI w rb s k W) (hb : Below W.heap.size W w') : AI w rb s k w' :=
  ⟨h.r.below hb h.r.lt, h.p.below hb h.p.lt, grown_belowW h.g hb⟩
set_option maxHeartbeats 8000000 in
set_option maxRecDepth 100000 in
theorem attribute_any (rb : Nat) (s : ByteArray) (k : Nat) (w : World) (h : Rx w rb s k) (hk : k ≤ s.size) (hs : s.size ≤ 1000000000) :
    Calls Tryz.prog 131 #[.pointer (some ⟨rb, 0, none⟩)] w (APost rb s (pAttr (s.toList.drop k)) w) := by
  have hW : P2 (w.alloc (.cells #[.string (B []), .string (B [])] 71)) w.heap.size [] [] := heap_alloc_new w _
  have hRW := h.alloc (.cells #[.string (B []), .string (B [])] 71)
  have hgW := grown_alloc (grown_refl w (some rb)) (.cells #[.string (B []), .string (B [])] 71)
  have hlt := h.lt
  have HA : Hid (pAttr (s.toList.drop k) = match pName (s.toList.drop k) with
    | .error e => .error e
    | .ok (k, r) => match pExp [61, 34] r with
      | .error e => .error e
      | .ok r1 => match pVal r1 with
        | .error e => .error e
        | .ok (u, r2) => .ok ((k, u), r2)) := rfl
  have C := Lib.hid (name_any rb s k _ hRW hk hs)
  clear hRW
  cases hn : pName (s.toList.drop k) with
  | error x =>
    have HX : Hid (pAttr (s.toList.drop k) = .error x) := by rw [HA.out, hn]; rfl
    have hx := pName_err hn
    have z1 : (x != 0) = true := by simpa using hx
    have z2 : (x == 0) = false := by simpa using hx
    rw [hn] at C
    clear hn HA hx
    go_enter Tryz.func131, Tryz.ntmps131
    go_wp2_with fail
    refine C.out.mono ?_
    rintro e w1 ⟨hg1, rfl⟩
    have hP1 := hW.grown hg1 (by omega)
    have p0 := hP1.c0
    have p1 := hP1.c1
    have pf0 := hP1.f0 (i := 0)
    have pf1 := hP1.f0 (i := 1)
    have hgA := grown_setN (i := 1) (u := .string ⟨#[]⟩) (grown_setN (i := 0) (u := .string ⟨#[]⟩) (grown_trans hgW hg1) (Nat.le_refl w.heap.size)) (Nat.le_refl w.heap.size)
    go_wp2
    refine bodyPost_ret (v := .tuple #[.agg #[.string ⟨#[]⟩, .string ⟨#[]⟩], .int .i64 x]) (by simp [results, Tryz.results131, go_sem, p0, p1]) rfl ?_
    unfold APost
    rw [HX.out]
    exact ⟨hgA, rfl⟩
  | ok y =>
    obtain ⟨nm, r⟩ := y
    rw [hn] at C
    have HA2 : Hid (pAttr (s.toList.drop k) = match pExp [61, 34] r with
      | .error e => .error e
      | .ok r1 => match pVal r1 with
        | .error e => .error e
        | .ok (u, r2) => .ok ((nm, u), r2)) := by rw [HA.out, hn]; rfl
    clear HA hn
    go_enter Tryz.func131, Tryz.ntmps131
    go_wp2_with fail
    refine C.out.mono ?_
    rintro e w1 ⟨hg1, rfl, k1, hR1, hd1, hk1⟩
    have hP1 := hW.grown hg1 (by omega)
    have hgA := grown_trans hgW hg1
    subst hd1
    have C2 := Lib.hid (expect_any rb s k1 [61, 34] w1 hR1 hk1 hs (by simp))
    clear C hg1 hW hgW
    cases hx : pExp [61, 34] (s.toList.drop k1) with
    | error x =>
      have HX : Hid (pAttr (s.toList.drop k) = .error x) := by rw [HA2.out, hx]; rfl
      have hx0 := pExp_err hx
      have z1 : (x != 0) = true := by simpa using hx0
      have z2 : (x == 0) = false := by simpa using hx0
      rw [hx] at C2
      clear hx HA2 hx0
      go_wp2_with fail
      refine C2.out.mono ?_
      rintro e w2 ⟨hg2, rfl⟩
      have hP2 := hP1.grown hg2 (by omega)
      have p0 := hP2.c0
      have p1 := hP2.c1
      have pf0 := hP2.f0 (i := 0)
      have pf1 := hP2.f0 (i := 1)
      have hgB := grown_setN (i := 1) (u := .string ⟨#[]⟩) (grown_setN (i := 0) (u := .string ⟨#[]⟩) (grown_trans hgA hg2) (Nat.le_refl w.heap.size)) (Nat.le_refl w.heap.size)
      go_wp2
      refine bodyPost_ret (v := .tuple #[.agg #[.string ⟨#[]⟩, .string ⟨#[]⟩], .int .i64 x]) (by simp [results, Tryz.results131, go_sem, p0, p1]) rfl ?_
      unfold APost
      rw [HX.out]
      exact ⟨hgB, rfl⟩
    | ok r1 =>
      rw [hx] at C2
      have HA3 : Hid (pAttr (s.toList.drop k) = match pVal r1 with
        | .error e => .error e
        | .ok (u, r2) => .ok ((nm, u), r2)) := by rw [HA2.out, hx]; rfl
      clear HA2 hx
      go_wp2_with fail
      refine C2.out.mono ?_
      rintro e w2 ⟨hg2, rfl, k2, hR2, hd2, hk2⟩
      have hP2 := hP1.grown hg2 (by omega)
      have hgB := grown_trans hgA hg2
      subst hd2
      clear C2 hg2 hP1 hgA hR1
      have b0 := hR2.c0
      have b1 := hR2.c1
      have i1 : (0 : Int) ≤ (k2 : Int) := by omega
      have i2 : (k2 : Int) ≤ (s.size : Int) := by omega
      have ex : s.extract k2 s.size = B (s.toList.drop k2) := B_drop s k2
      have hdl := drop_len s k2
      have hq : idxP (fun b => b != UInt8.ofNat 34) (s.toList.drop k2) = idxP notQ (s.toList.drop k2) := rfl
      have CI := Lib.hid (fun V => ibyte_any (s.toList.drop k2) 34 (by omega) V)
      rw [hq] at CI
      clear hq
      have HV : Hid (pVal (s.toList.drop k2) = if (s.toList.drop k2).dropWhile notQ = [] then .error 4 else match pText ((s.toList.drop k2).takeWhile notQ) with | .error e => .error e | .ok u => .ok (u, ((s.toList.drop k2).dropWhile notQ).drop 1)) := rfl
      by_cases hdw : (s.toList.drop k2).dropWhile notQ = []
      · have hi : idxP notQ (s.toList.drop k2) = -1 := by unfold idxP; rw [if_pos hdw]
        rw [hi] at CI
        have HX : Hid (pAttr (s.toList.drop k) = .error 4) := by rw [HA3.out, HV.out, if_pos hdw]; rfl
        clear HA3 HV hdw hi
        generalize s.toList.drop k2 = l2 at *
        have p0 := hP2.c0
        have p1 := hP2.c1
        have pf0 := hP2.f0 (i := 0)
        have pf1 := hP2.f0 (i := 1)
        have hgC := fun n => grown_setN (i := 1) (u := .string ⟨#[]⟩) (grown_setN (i := 0) (u := .string ⟨#[]⟩) (grown_drewN hgB n) (Nat.le_refl w.heap.size)) (Nat.le_refl w.heap.size)
        have HGC := Lib.hid hgC
        clear hgC
        go_wp2
        go_quiet ((go_at_call 134; exact Calls.quiet_of_same ((CI.out _).mono fun _ _ ⟨a, b⟩ => ⟨a, b.symm⟩)))
        go_wp2
        refine bodyPost_ret (v := .tuple #[.agg #[.string ⟨#[]⟩, .string ⟨#[]⟩], .int .i64 4]) (by simp [results, Tryz.results131, go_sem, p0, p1]) rfl ?_
        unfold APost
        rw [HX.out]
        exact ⟨HGC.out _, rfl⟩
      · have hi : idxP notQ (s.toList.drop k2) = (((s.toList.drop k2).takeWhile notQ).length : Int) := by unfold idxP; rw [if_neg hdw]
        rw [hi] at CI
        have htw := tw_len notQ (s.toList.drop k2)
        obtain ⟨tw1, tw2⟩ := tw_take notQ (s.toList.drop k2)
        have HA4 : Hid (pAttr (s.toList.drop k) = match pText ((s.toList.drop k2).takeWhile notQ) with | .error e => .error e | .ok u => .ok ((nm, u), s.toList.drop (k2 + ((s.toList.drop k2).takeWhile notQ).length + 1))) := by
          rw [HA3.out, HV.out, if_neg hdw]
          have e1 : ((s.toList.drop k2).dropWhile notQ).drop 1 = s.toList.drop (k2 + ((s.toList.drop k2).takeWhile notQ).length + 1) := by
            rw [← tw2, List.drop_drop, List.drop_drop]; rfl
          rw [e1]
          cases pText ((s.toList.drop k2).takeWhile notQ) <;> rfl
        have hlt2 : k2 + ((s.toList.drop k2).takeWhile notQ).length < s.size := by
          have h1 := congrArg List.length tw2
          rw [List.length_drop, hdl] at h1
          have h2 : 0 < ((s.toList.drop k2).dropWhile notQ).length := List.length_pos_iff.2 hdw
          omega
        have ex2 : s.extract k2 (k2 + ((s.toList.drop k2).takeWhile notQ).length) = B ((s.toList.drop k2).takeWhile notQ) := by
          rw [B_extract, List.drop_take, Nat.add_sub_cancel_left, tw1]
        have CU := Lib.hid (fun V => unescape_any ((s.toList.drop k2).takeWhile notQ) [60, 62] V (by omega) (take_noQ _))
        clear HA3 HV hdw hi tw1 tw2
        generalize (s.toList.drop k2).takeWhile notQ = tx at *
        have hR3 := hR2.set (m := k2 + (tx.length + 1))
        have i3 : (k2 : Int) ≤ (k2 : Int) + (tx.length : Int) := by omega
        have i4 : (k2 : Int) + (tx.length : Int) ≤ (s.size : Int) := by omega
        have ws : IntKind.i64.wrap ((k2 : Int) + (tx.length : Int)) = (k2 : Int) + (tx.length : Int) := IntWalk.i64_in _ (by omega)
        have tn : ((k2 : Int) + (tx.length : Int)).toNat = k2 + tx.length := by omega
        have HWS := Lib.hid ws
        have HTN := Lib.hid tn
        clear ws tn
        generalize s.toList.drop k2 = l2 at *
        go_wp2
        go_quiet ((go_at_call 134; exact Calls.quiet_of_same ((CI.out _).mono fun _ _ ⟨a, b⟩ => ⟨a, b.symm⟩)))
        rename_i nq
        have hD : AI w rb s k2 (w2.drewN nq).drew := ⟨hR2, hP2, grown_drewN (grown_drewN hgB nq) 1⟩
        have ws := HWS.out
        have tn := HTN.out
        clear hR2 hP2 hgB hR3
        cases ht : pText tx with
        | error x =>
          have HX : Hid (pAttr (s.toList.drop k) = .error x) := by rw [HA4.out, ht]; rfl
          have hx0 := pText_err ht
          have z1 : (x != 0) = true := by simpa using hx0
          have z2 : (x == 0) = false := by simpa using hx0
          rw [ht] at CU
          clear ht HA4 hx0
          go_wp2
          go_region_held3 (fun w' => w'.cell? ⟨rb, 0, none⟩ = some (.string s) ∧ w'.cell? ⟨rb, 1, none⟩ = some (.int .i64 (k2 : Int)))
            (first | exact ⟨hD.r.c0, hD.r.c1⟩)
            (first
              | (go_at_call 135; refine (CU.out _).mono ?_; rintro e w' ⟨hb, rfl⟩; have hD' := hD.step hb; clear hD hb; have hD := hD'; clear hD'))
          have p0 := hD.p.c0
          have p1 := hD.p.c1
          have pf0 := hD.p.f0 (i := 0)
          have pf1 := hD.p.f0 (i := 1)
          have hgC := grown_setN (i := 1) (u := .string ⟨#[]⟩) (grown_setN (i := 0) (u := .string ⟨#[]⟩) hD.g (Nat.le_refl w.heap.size)) (Nat.le_refl w.heap.size)
          clear hD ws tn
          go_wp2
          refine bodyPost_ret (v := .tuple #[.agg #[.string ⟨#[]⟩, .string ⟨#[]⟩], .int .i64 x]) (by simp [results, Tryz.results131, go_sem, p0, p1]) rfl ?_
          unfold APost
          rw [HX.out]
          exact ⟨hgC, rfl⟩
        | ok u =>
          have HX : Hid (pAttr (s.toList.drop k) = .ok ((nm, u), s.toList.drop (k2 + (tx.length + 1)))) := by rw [HA4.out, ht]; rfl
          rw [ht] at CU
          clear ht HA4
          go_wp2
          go_region_held3 (fun w' => w'.cell? ⟨rb, 0, none⟩ = some (.string s) ∧ w'.cell? ⟨rb, 1, none⟩ = some (.int .i64 (k2 : Int)))
            (first | exact ⟨hD.r.c0, hD.r.c1⟩)
            (first
              | (go_at_call 135; refine (CU.out _).mono ?_; rintro e w' ⟨hb, rfl⟩; have hD' := hD.step hb; clear hD hb; have hD := hD'; clear hD'))
          have hR4 := hD.r.set (m := k2 + (tx.length + 1))
          have g4 := grown_trans hD.g (grown_setC _ rb 1 (.int .i64 ((k2 + (tx.length + 1) : Nat) : Int)))
          have hP4 : P2 _ w.heap.size [] [] := (blk_set (w := _) (c := rb) (i := 1) (u := .int .i64 ((k2 + (tx.length + 1) : Nat) : Int)) (show rb ≠ w.heap.size by omega)).trans hD.p
          have c1 := hD.r.c1
          have cf := hD.r.f1
          have eI : ((k2 + (tx.length + 1) : Nat) : Int) = (k2 : Int) + ((tx.length : Int) + 1) := by omega
          rw [eI] at hR4 g4 hP4
          have p0 := hP4.c0
          have p1 := hP4.c1
          have pf0 := hP4.f0 (i := 0)
          have pf1 := hP4.f0 (i := 1)
          have HEI := Lib.hid eI
          have hne : w.heap.size ≠ rb := by omega
          clear hD ws tn b0 b1 eI
          go_wp2
          refine bodyPost_ret (v := .tuple #[.agg #[.string (B nm), .string (B u)], .int .i64 0]) (by simp [results, Tryz.results131, go_sem, p0, p1]) rfl ?_
          unfold APost
          rw [HX.out]
          exact ⟨grown_setN (grown_setN g4 (Nat.le_refl _)) (Nat.le_refl _), rfl, _, (blk_set hne).trans ((blk_set hne).trans hR4), rfl, by omega⟩
def NPost (rb : Nat) (s : ByteArray) (r : Except Int (Nd × List UInt8)) (w : World) (e : Ending) (w' : World) : Prop := w.grownBy w' (some rb) ∧ match r with
  | .error x => ∃ c : NC, e = .returned (.tuple #[.agg #[.string (B c.nm), .string (B c.tx), .slice c.A c.na c.ca, .slice c.K c.nk c.ck], .int .i64 x])
  | .ok (n, l) => ∃ c : NC, e = .returned (.tuple #[.agg #[.string (B c.nm), .string (B c.tx), .slice c.A c.na c.ca, .slice c.K c.nk c.ck], .int .i64 0]) ∧ NdAt w' (fun b => w.heap.size ≤ b ∧ b < w'.heap.size) n c ∧ ∃ k, Rx w' rb s k ∧ s.toList.drop k = l ∧ k ≤ s.size
def nc0 : NC := ⟨[], [], none, 0, 0, none, 0, 0⟩
theorem Bx.grown {w w' : World} {b row : Nat} {c : NC} (h : Bx w b c) (hg : w.grownBy w' (some row)) (hne : b ≠ row) : Bx w' b c := (hg.block b h.lt (fun e => hne (Option.some.inj e))).trans h
theorem Bx.ff {w : World} {b i : Nat} {c : NC} (h : Bx w b c) : w.frozen? ⟨b, i, none⟩ = false := by unfold Bx at h; simp [World.frozen?, h]
/-- block b was given the cells of a node -/
theorem Bx.set4 {w : World} {b : Nat} {c c' : NC} (h : Bx w b c) : Bx ((((w.setCell ⟨b, 0, none⟩ (.string (B c'.nm))).setCell ⟨b, 1, none⟩ (.string (B c'.tx))).setCell ⟨b, 2, none⟩ (.slice c'.A c'.na c'.ca)).setCell ⟨b, 3, none⟩ (.slice c'.K c'.nk c'.ck)) b c' := by
  unfold Bx at *
  simp [World.setCell, Array.getElem?_modify, h]
theorem grown_set4 {a w : World} {b : Nat} {v0 v1 v2 v3 : Value} {row : Option Nat} (h : a.grownBy w row) (hb : a.heap.size ≤ b) : a.grownBy ((((w.setCell ⟨b, 0, none⟩ v0).setCell ⟨b, 1, none⟩ v1).setCell ⟨b, 2, none⟩ v2).setCell ⟨b, 3, none⟩ v3) row :=
  grown_setN (grown_setN (grown_setN (grown_setN h hb) hb) hb) hb
theorem blk_set4 {w : World} {b k : Nat} {v0 v1 v2 v3 : Value} (h : b ≠ k) : ((((w.setCell ⟨b, 0, none⟩ v0).setCell ⟨b, 1, none⟩ v1).setCell ⟨b, 2, none⟩ v2).setCell ⟨b, 3, none⟩ v3).heap[k]? = w.heap[k]? :=
  (blk_set h).trans ((blk_set h).trans ((blk_set h).trans (blk_set h)))
structure DI (w : World) (rb : Nat) (s : ByteArray) (k : Nat) (W : World) : Prop where
  r : Rx W rb s k
  p : Bx W w.heap.size nc0
  g : w.grownBy W (some rb)
theorem DI.step {w W w' : World} {rb k : Nat} {s : ByteArray} (h : DI w rb s k W) (hb : Below W.heap.size W w') : DI w rb s k w' :=
  ⟨h.r.below hb h.r.lt, h.p.below hb h.p.lt, grown_belowW h.g hb⟩
end Go.Proofs.YtejjidbodfoiiaaGreatDoor
