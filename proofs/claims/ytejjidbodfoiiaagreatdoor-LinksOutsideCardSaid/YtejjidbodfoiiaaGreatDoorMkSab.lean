/-
  Layer 33 (markup): the reader of the chapter: its memory, fail, want, follows, until.
  Layer 33 (markup): the reader of the chapter: name.
-/
import Derived.Test.YtejjidbodfoiiaaGreatDoorMkRf
namespace Go.Proofs.YtejjidbodfoiiaaGreatDoor
open Go.RowKit
set_option linter.unusedVariables false
set_option linter.unusedSimpArgs false
attribute [local go_sem] B_data B_size
attribute [local go_sem ↓] Go.wp_at_zero Go.wp_at_succ

/-- a quiet call in a region behind another quiet region -/
theorem quiet_add_left {P : Program} {f : FuncId} {args : Array Value} {w : World} {a n : Nat} {v : Value}
    (h : Calls P f args (w.drewN (a + n)) fun e w' => e = .returned v ∧ w.drewN (a + n) = w') :
    Calls P f args (w.drewN (a + n)) fun e w'' => e = .returned v ∧ ∃ m, w'' = w.drewN (a + m) :=
  h.mono fun _ _ ⟨he, hm⟩ => ⟨he, n, hm.symm⟩
/-- block rb is a reader of the text s at the byte k, with the error e -/
def Ry (w : World) (rb : Nat) (s : ByteArray) (k : Nat) (e : Int) : Prop := w.heap[rb]? = some (.cells #[.string s, .int .i64 (k : Int), .int .i64 e] 134 (0, 0))
theorem Ry.lt {w : World} {rb k : Nat} {s : ByteArray} {e : Int} (h : Ry w rb s k e) : rb < w.heap.size := (Array.getElem?_eq_some_iff.1 h).1
theorem Ry.c0 {w : World} {rb k : Nat} {s : ByteArray} {e : Int} (h : Ry w rb s k e) : w.cell? ⟨rb, 0, none⟩ = some (.string s) := by unfold Ry at h; simp [World.cell?, h]
theorem Ry.c1 {w : World} {rb k : Nat} {s : ByteArray} {e : Int} (h : Ry w rb s k e) : w.cell? ⟨rb, 1, none⟩ = some (.int .i64 (k : Int)) := by unfold Ry at h; simp [World.cell?, h]
theorem Ry.c2 {w : World} {rb k : Nat} {s : ByteArray} {e : Int} (h : Ry w rb s k e) : w.cell? ⟨rb, 2, none⟩ = some (.int .i64 e) := by unfold Ry at h; simp [World.cell?, h]
theorem Ry.ff {w : World} {rb k i : Nat} {s : ByteArray} {e : Int} (h : Ry w rb s k e) : w.frozen? ⟨rb, i, none⟩ = false := by unfold Ry at h; simp [World.frozen?, h]
theorem Ry.setK {w : World} {rb k m : Nat} {s : ByteArray} {e : Int} (h : Ry w rb s k e) : Ry (w.setCell ⟨rb, 1, none⟩ (.int .i64 (m : Int))) rb s m e := by
  unfold Ry at *
  simp [World.setCell, Array.getElem?_modify, h]
theorem Ry.setE {w : World} {rb k : Nat} {s : ByteArray} {e x : Int} (h : Ry w rb s k e) : Ry (w.setCell ⟨rb, 2, none⟩ (.int .i64 x)) rb s k x := by
  unfold Ry at *
  simp [World.setCell, Array.getElem?_modify, h]
theorem Ry.below {w w' : World} {rb k M : Nat} {s : ByteArray} {e : Int} (h : Ry w rb s k e) (hb : Below M w w') (hM : rb < M) : Ry w' rb s k e := (hb.block rb hM).trans h
theorem Ry.alloc {w : World} {rb k : Nat} {s : ByteArray} {e : Int} (h : Ry w rb s k e) (o : Obj) : Ry (w.alloc o) rb s k e := h.below (below_alloc w o) h.lt
theorem Ry.drewN {w : World} {rb k : Nat} {s : ByteArray} {e : Int} (h : Ry w rb s k e) (n : Nat) : Ry (w.drewN n) rb s k e := h
theorem Ry.grown {w w' : World} {rb k row : Nat} {s : ByteArray} {e : Int} (h : Ry w rb s k e) (hg : w.grownBy w' (some row)) (hne : rb ≠ row) : Ry w' rb s k e := (hg.block rb h.lt (fun e => hne (Option.some.inj e))).trans h
/-- the first error stays -/
def ferr (e x : Int) : Int := if e = 0 then x else e
theorem ferr_zero (x : Int) : ferr 0 x = x := if_pos rfl
theorem ferr_ne {e : Int} (x : Int) (h : e ≠ 0) : ferr e x = e := if_neg h
def FlPost (rb : Nat) (s : ByteArray) (k : Nat) (x : Int) (w : World) (e : Ending) (w' : World) : Prop := e = .returned (.tuple #[]) ∧ w.grownBy w' (some rb) ∧ Ry w' rb s k x
theorem fail_any (rb : Nat) (s : ByteArray) (k : Nat) (e x : Int) (w : World) (h : Ry w rb s k e) :
    Calls Tryz.prog 111 #[.pointer (some ⟨rb, 0, none⟩), .int .i64 x] w (FlPost rb s k (ferr e x) w) := by
  have c2 := h.c2
  have f2 := h.ff (i := 2)
  by_cases he : e = 0
  · subst he
    rw [ferr_zero]
    have h2 := h.setE (x := x)
    have hg := grown_setC w rb 2 (.int .i64 x)
    clear h
    go_enter Tryz.func111, Tryz.ntmps111
    go_wp2
    go_end0
    exact ⟨rfl, hg, h2⟩
  · rw [ferr_ne x he]
    have z : (e == 0) = false := by simpa using he
    go_enter Tryz.func111, Tryz.ntmps111
    go_wp2
    go_end0
    exact ⟨rfl, grown_refl _ _, h⟩
def ErPost (rb : Nat) (s : ByteArray) (k : Nat) (x : Int) (w : World) (e : Ending) (w' : World) : Prop := e = .returned (.tuple #[]) ∧ w.grownBy w' (some rb) ∧ Ry w' rb s k x
set_option maxHeartbeats 1000000 in
/-- behind an error nothing is read -/
theorem want_err (rb : Nat) (s : ByteArray) (k : Nat) (x : Int) (t : List UInt8) (w : World) (h : Ry w rb s k x) (hx : x ≠ 0) (ht : t.length ≤ 1000000000) :
    Calls Tryz.prog 114 #[.pointer (some ⟨rb, 0, none⟩), .string (B t)] w (ErPost rb s k x w) := by
  have c2 := h.c2
  have z : (x == 0) = false := by simpa using hx
  clear hx
  go_enter Tryz.func114, Tryz.ntmps114
  go_wp2
  go_loopw [4] (fun i wr => i = .int .i64 0 ∧ wr = w) (fun _ _ => 0)
  case atStart => exact ⟨rfl, rfl⟩
  case round =>
    obtain ⟨rfl, rfl⟩ := hrel
    by_cases hl : 0 < t.length
    · have d0 : decide ((0 : Int) < (t.length : Int)) = true := by simp only [decide_eq_true_eq]; omega
      have d9 : decide (0 < t.length) = true := by simpa using hl
      go_wp2
      go_end0
      exact ⟨rfl, grown_refl _ _, h⟩
    · have d0 : decide ((0 : Int) < (t.length : Int)) = false := by simp only [decide_eq_false_iff_not]; omega
      have d9 : decide (0 < t.length) = false := by simpa using hl
      go_wp2
      go_end0
      exact ⟨rfl, grown_refl _ _, h⟩
def WtPost (rb : Nat) (s : ByteArray) (r : Except Int (List UInt8)) (w : World) (e : Ending) (w' : World) : Prop := e = .returned (.tuple #[]) ∧ w.grownBy w' (some rb) ∧ ∃ (k : Nat) (x : Int), k ≤ s.size ∧ Ry w' rb s k x ∧ match r with
  | .error y => x = y
  | .ok l => x = 0 ∧ s.toList.drop k = l
/-- a text that has been read up to its byte j: one byte more -/
theorem pExp_step {t l : List UInt8} {j : Nat} (h : t.take j = l.take j) (hj : j < t.length) :
    (l.length ≤ j → pExp t l = .error 4) ∧ (∀ c, l[j]? = some c → c ≠ t[j] → pExp t l = .error 5) ∧ (∀ c, l[j]? = some c → c = t[j] → t.take (j + 1) = l.take (j + 1)) := by
  refine ⟨fun hl => ?_, fun c hc hne => ?_, fun c hc he => ?_⟩
  · have hlt : l = t.take j := by rw [h, List.take_of_length_le hl]
    have h1 : ¬ t <+: l := fun hp => by have := hp.length_le; have := congrArg List.length hlt; rw [List.length_take] at this; omega
    rw [pExp, if_neg h1, if_pos (by rw [hlt]; exact List.take_prefix _ _)]
  · have hjl : j < l.length := (List.getElem?_eq_some_iff.1 hc).1
    have hcl : l[j] = c := (List.getElem?_eq_some_iff.1 hc).2
    have h1 : ¬ t <+: l := fun ⟨q, hp⟩ => by
      apply hne
      rw [← hcl]
      have : l[j]? = t[j]? := by rw [← hp, List.getElem?_append_left hj]
      rw [List.getElem?_eq_getElem hjl, List.getElem?_eq_getElem hj] at this
      exact Option.some.inj this
    have h2 : ¬ l <+: t := fun ⟨q, hp⟩ => by
      apply hne
      rw [← hcl]
      have : t[j]? = l[j]? := by rw [← hp, List.getElem?_append_left hjl]
      rw [List.getElem?_eq_getElem hjl, List.getElem?_eq_getElem hj] at this
      exact (Option.some.inj this).symm
    rw [pExp, if_neg h1, if_neg h2]
  · have hjl : j < l.length := (List.getElem?_eq_some_iff.1 hc).1
    have hcl : l[j] = c := (List.getElem?_eq_some_iff.1 hc).2
    rw [List.take_succ_eq_append_getElem hj, List.take_succ_eq_append_getElem hjl, h, hcl, he]
theorem pExp_all {t l : List UInt8} (h : t = l.take t.length) : pExp t l = .ok (l.drop t.length) := by
  have hp : t <+: l := by rw [h]; exact List.take_prefix _ _
  rw [pExp, if_pos hp]
/-- where a reader of the chapter stands -/
theorem drop_get? (s : ByteArray) (k j : Nat) (h : k + j < s.size) : (s.toList.drop k)[j]? = some s[k + j] := by
  have := drop_head s (k + j) h
  rw [← List.drop_drop, List.head?_eq_getElem?, List.getElem?_drop, Nat.add_zero] at this
  exact this
set_option maxHeartbeats 4000000 in
set_option maxRecDepth 100000 in
theorem want_any (rb : Nat) (s : ByteArray) (k : Nat) (t : List UInt8) (w : World) (h : Ry w rb s k 0) (hk : k ≤ s.size) (hs : s.size ≤ 1000000000) (ht : t.length ≤ 1000000000) :
    Calls Tryz.prog 114 #[.pointer (some ⟨rb, 0, none⟩), .string (B t)] w (WtPost rb s (pExp t (s.toList.drop k)) w) := by
  have hdl := drop_len s k
  have HDL := Lib.hid hdl
  clear hdl
  go_enter Tryz.func114, Tryz.ntmps114
  go_wp2
  go_loopw [4] (fun i wr => ∃ (j : Nat) (x : Int) (q : Nat), j ≤ t.length ∧ i = .int .i64 j ∧ q ≤ s.size ∧ Ry wr rb s q x ∧ w.grownBy wr (some rb) ∧ Hid ((x = 0 ∧ q = k + j ∧ t.take j = (s.toList.drop k).take j) ∨ (x ≠ 0 ∧ pExp t (s.toList.drop k) = .error x))) (fun i _ => t.length - (intOf i).toNat)
  case atStart => exact ⟨0, 0, k, Nat.zero_le _, rfl, hk, h, grown_refl _ _, .inl ⟨rfl, rfl, by simp⟩⟩
  case round =>
    obtain ⟨j, x, q, hj, rfl, hq, hR, hg, hst⟩ := hrel
    have c0 := hR.c0
    have c1 := hR.c1
    have c2 := hR.c2
    have f1 := hR.ff (i := 1)
    by_cases hlt : j < t.length
    · have d0 : decide (j < t.length) = true := by simpa using hlt
      rcases hst.out with ⟨hx, hqk, htk⟩ | ⟨hx, he⟩
      · subst hx
        have hst2 := pExp_step htk hlt
        clear hst
        by_cases hend : q = s.size
        · have HX : Hid (pExp t (s.toList.drop k) = .error 4) := hst2.1 (by rw [HDL.out]; omega)
          have d1 : ((q : Int) == (s.size : Int)) = true := by simp; omega
          have CF := Lib.hid (fun m => fail_any rb s q 0 4 (wr.drewN m) (hR.drewN m))
          clear hst2 htk hend hqk
          go_wp2
          go_quiet (fail)
          go_wp2_with fail
          refine (CF.out _).mono ?_
          rw [ferr_zero]
          rintro e w2 ⟨rfl, hg2, hR2⟩
          have hg3 := grown_trans (grown_drewN hg _) hg2
          clear CF hg2 c0 c1 c2 f1
          go_wp2
          go_roundw
          case rel => exact ⟨j + 1, 4, q, by omega, by go_num, hq, hR2, hg3, .inr ⟨by omega, HX.out⟩⟩
          case measure => simp [intOf]; omega
        · have hql : q < s.size := by omega
          have d1 : ((q : Int) == (s.size : Int)) = false := beq_eq_false_iff_ne.2 (by omega)
          have i1 : (0 : Int) ≤ (q : Int) := by omega
          have i2 : (q : Int) < (s.size : Int) := by omega
          have hgq : (s.toList.drop k)[j]? = some s[q] := by
            have := drop_get? s k j (by omega)
            subst hqk; exact this
          have hbt : (B t)[j]'(by rw [B_size]; exact hlt) = t[j] := rfl
          by_cases hsame : s[q] = t[j]
          · have HT := Lib.hid (hst2.2.2 _ hgq hsame)
            have d2 : ((s[q].toNat : Int) != (t[j].toNat : Int)) = false := by simp [hsame]
            have hR2 := hR.setK (m := q + 1)
            have hg2 := grown_trans hg (grown_setC wr rb 1 (.int .i64 ((q + 1 : Nat) : Int)))
            have HQ : Hid (q + 1 = k + (j + 1)) := by unfold Hid; omega
            have eI : ((q + 1 : Nat) : Int) = (q : Int) + 1 := by omega
            rw [eI] at hR2 hg2
            have HR2 := Lib.hid hR2
            clear hst2 htk hend hqk hgq hsame eI hR2
            go_wp2
            go_quiet (fail)
            go_wp2
            go_quiet (fail)
            go_wp2
            go_roundw
            case rel => exact ⟨j + 1, 0, q + 1, by omega, by go_num, by omega, HR2.out, grown_drewN hg2 _, .inl ⟨rfl, HQ.out, HT.out⟩⟩
            case measure => simp [intOf]; omega
          · have HX : Hid (pExp t (s.toList.drop k) = .error 5) := hst2.2.1 _ hgq hsame
            have d2 : ((s[q].toNat : Int) != (t[j].toNat : Int)) = true := by
              rw [bne_iff_ne]
              intro e
              exact hsame (UInt8.toNat_inj.1 (by omega))
            have CF := Lib.hid (fun m => fail_any rb s q 0 5 (wr.drewN m) (hR.drewN m))
            clear hst2 htk hend hqk hgq hsame
            go_wp2
            go_quiet (fail)
            go_wp2
            go_quiet (fail)
            go_wp2_with fail
            refine (CF.out _).mono ?_
            rw [ferr_zero]
            rintro e w2 ⟨rfl, hg2, hR2⟩
            have hg3 := grown_trans (grown_drewN hg _) hg2
            clear CF hg2 c0 c1 c2 f1
            go_wp2
            go_roundw
            case rel => exact ⟨j + 1, 5, q, by omega, by go_num, hq, hR2, hg3, .inr ⟨by omega, HX.out⟩⟩
            case measure => simp [intOf]; omega
      · have z : (x == 0) = false := by simpa using hx
        have HX := Lib.hid he
        clear hst hx he
        go_wp2
        go_end0
        exact ⟨rfl, hg, q, x, hq, hR, by rw [HX.out]⟩
    · have hjt : j = t.length := by omega
      have d0 : decide (j < t.length) = false := by simpa using hlt
      go_wp2
      go_end0
      refine ⟨rfl, hg, q, x, hq, hR, ?_⟩
      rcases hst.out with ⟨hx, hqk, htk⟩ | ⟨hx, he⟩
      · rw [pExp_all (by rw [← hjt, ← htk, hjt, List.take_length])]
        exact ⟨hx, by rw [hqk, hjt, List.drop_drop]⟩
      · rw [he]
set_option maxHeartbeats 4000000 in
set_option maxRecDepth 100000 in
theorem follows_any (rb : Nat) (s : ByteArray) (k : Nat) (x : Int) (t : List UInt8) (w : World) (h : Ry w rb s k x) (hk : k ≤ s.size) (hs : s.size ≤ 1000000000) (ht : t.length ≤ 1000000000) :
    Calls Tryz.prog 112 #[.pointer (some ⟨rb, 0, none⟩), .string (B t)] w (KbPost (decide (x = 0) && decide (t <+: s.toList.drop k)) w) := by
  have c0 := h.c0
  have c1 := h.c1
  have c2 := h.c2
  have hdl := drop_len s k
  by_cases hx : x = 0
  · subst hx
    have ws : IntKind.i64.wrap ((s.size : Int) - (k : Int)) = (s.size : Int) - (k : Int) := IntWalk.i64_in _ (by omega)
    have ws2 : IntKind.i64.wrap ((k : Int) + (t.length : Int)) = (k : Int) + (t.length : Int) := IntWalk.i64_in _ (by omega)
    by_cases hl : t.length ≤ s.size - k
    · have d1 : decide ((t.length : Int) ≤ (s.size : Int) - (k : Int)) = true := by simp; omega
      have i1 : (0 : Int) ≤ (k : Int) := by omega
      have i2 : (k : Int) ≤ (k : Int) + (t.length : Int) := by omega
      have i3 : (k : Int) + (t.length : Int) ≤ (s.size : Int) := by omega
      have tn : ((k : Int) + (t.length : Int)).toNat = k + t.length := by omega
      have ex : s.extract k (k + t.length) = B ((s.toList.drop k).take t.length) := by rw [B_extract, List.drop_take, Nat.add_sub_cancel_left]
      have HB : Hid (decide (t <+: s.toList.drop k) = ((s.toList.drop k).take t.length == t)) := by
        unfold Hid
        rw [Bool.eq_iff_iff]
        simp only [decide_eq_true_eq, beq_iff_eq]
        rw [List.prefix_iff_eq_take]
        exact eq_comm
      rw [HB.out]
      clear hdl
      generalize s.toList.drop k = l at *
      go_enter Tryz.func112, Tryz.ntmps112
      go_wp2
      go_quiet (fail)
      go_wp2
      go_ret
      exact ⟨by simp, _, rfl⟩
    · have d1 : decide ((t.length : Int) ≤ (s.size : Int) - (k : Int)) = false := by simp; omega
      have HF : Hid ((decide ((0 : Int) = 0) && decide (t <+: s.toList.drop k)) = false) := by
        have : ¬ t <+: s.toList.drop k := fun hp => by have := hp.length_le; omega
        simp [Hid, this]
      rw [HF.out]
      clear hdl hl
      go_enter Tryz.func112, Tryz.ntmps112
      go_wp2
      go_quiet (fail)
      go_wp2
      go_ret
      exact ⟨rfl, _, rfl⟩
  · have z : (x == 0) = false := by simpa using hx
    have HF : Hid ((decide (x = 0) && decide (t <+: s.toList.drop k)) = false) := by simp [Hid, hx]
    rw [HF.out]
    clear hdl hx
    go_enter Tryz.func112, Tryz.ntmps112
    go_wp2
    go_quiet (fail)
    go_wp2
    go_ret
    exact ⟨rfl, _, rfl⟩
/-- the index, in the whole text, of the first byte that is not p; or -1 -/
def idxK (p : UInt8 → Bool) (k : Nat) (l : List UInt8) : Int := if l.dropWhile p = [] then -1 else ((k + (l.takeWhile p).length : Nat) : Int)
set_option maxHeartbeats 4000000 in
set_option maxRecDepth 100000 in
theorem until_any (rb : Nat) (s : ByteArray) (k : Nat) (x : Int) (c : UInt8) (w : World) (h : Ry w rb s k x) (hk : k ≤ s.size) (hs : s.size ≤ 1000000000) :
    Calls Tryz.prog 137 #[.pointer (some ⟨rb, 0, none⟩), .int .u8 (c.toNat : Int)] w fun e w' => e = .returned (.int .i64 (idxK (fun b => b != c) k (s.toList.drop k))) ∧ w = w' := by
  have c0 := h.c0
  have c1 := h.c1
  go_enter Tryz.func137, Tryz.ntmps137
  go_wp2
  go_loop [5] (fun i => ∃ j : Nat, k ≤ j ∧ j ≤ s.size ∧ i = .int .i64 j ∧ Hid (∀ b ∈ (s.toList.take j).drop k, (b != c) = true)) (fun i => s.size - (intOf i).toNat)
  case atStart => exact ⟨k, Nat.le_refl _, hk, rfl, by rw [List.drop_of_length_le (by rw [List.length_take]; omega)]; intro c hc; cases hc⟩
  case round =>
    obtain ⟨j, hkj, hj, rfl, hall⟩ := hrel
    by_cases hlt : j < s.size
    · have i1 : (0 : Int) ≤ (j : Int) := by omega
      have i2 : (j : Int) < (s.size : Int) := by omega
      have d0 : decide (j < s.size) = true := by simpa using hlt
      by_cases hc : s[j] = c
      · have HX : Hid (idxK (fun b => b != c) k (s.toList.drop k) = (j : Int)) := by
          have h1 := span_stop (fun b => b != c) ((s.toList.take j).drop k) (s.toList.drop j) hall.out (fun b hb => by rw [drop_byte s j hlt] at hb; simp at hb; simp [← hb, hc])
          have h2 := drop_parts s.toList k j hkj
          unfold idxK Hid
          rw [h2, h1.2, h1.1, if_neg (drop_ne hlt), List.length_drop, List.length_take, len_toList]
          omega
        have d1 : ((s[j].toNat : Int) == (c.toNat : Int)) = true := by simp [hc]
        clear hall hc
        go_wp2
        go_ret
        exact ⟨ret_int HX.out.symm, rfl⟩
      · have HALL : Hid (∀ b ∈ (s.toList.take (j + 1)).drop k, (b != c) = true) := by
          rw [take_byte s j hlt, List.drop_append_of_le_length (by rw [List.length_take, len_toList]; omega)]
          intro b hb
          rcases List.mem_append.1 hb with hb | hb
          · exact hall.out b hb
          · simp at hb; simp [hb, hc]
        have d1 : ((s[j].toNat : Int) == (c.toNat : Int)) = false := by
          rw [beq_eq_false_iff_ne]
          intro e
          exact hc (UInt8.toNat_inj.1 (by omega))
        clear hall hc
        go_wp2
        go_round
        case rel => exact ⟨j + 1, by omega, by omega, by go_num, HALL⟩
        case measure => simp [intOf]; omega
    · obtain rfl : j = s.size := by omega
      have HX : Hid (idxK (fun b => b != c) k (s.toList.drop k) = -1) := by
        have h1 := span_stop (fun b => b != c) ((s.toList.take s.size).drop k) [] hall.out (fun c hc => by cases hc)
        rw [List.append_nil, List.take_of_length_le (by rw [len_toList]; omega)] at h1
        unfold idxK Hid
        rw [h1.2, if_pos rfl]
      have d0 : decide (s.size < s.size) = false := by simp
      go_wp2
      go_ret
      exact ⟨ret_int HX.out.symm, rfl⟩
end Go.Proofs.YtejjidbodfoiiaaGreatDoor
namespace Go.Proofs.YtejjidbodfoiiaaGreatDoor
open Go.RowKit
set_option linter.unusedVariables false
set_option linter.unusedSimpArgs false
attribute [local go_sem] B_data B_size
attribute [local go_sem ↓] Go.wp_at_zero Go.wp_at_succ

/-- where a reader of the chapter stands -/
theorem ratY {w : World} {rb k : Nat} {s : ByteArray} {e : Int} (h : Ry w rb s k e) : rat w rb = k := by unfold Go.Proofs.YtejjidbodfoiiaaGreatDoor.rat; rw [h.c1]; simp
theorem Ry.meas {w w' : World} {rb j m : Nat} {s : ByteArray} {e e' : Int} (h : Ry w rb s j e) (h' : Ry w' rb s m e') (hlt : j < s.size) (hm : j < m) : s.size - rat w' rb < s.size - rat w rb := by
  rw [ratY h, ratY h']; omega
def NyPost (rb : Nat) (s : ByteArray) (r : Except Int (List UInt8 × List UInt8)) (w : World) (e : Ending) (w' : World) : Prop := ∃ u : List UInt8, e = .returned (.string (B u)) ∧ u.length ≤ 1000000000 ∧ w.grownBy w' (some rb) ∧ ∃ (k : Nat) (x : Int), k ≤ s.size ∧ Ry w' rb s k x ∧ match r with
  | .error y => x = y
  | .ok (nm, l) => x = 0 ∧ u = nm ∧ s.toList.drop k = l
set_option maxHeartbeats 4000000 in
set_option maxRecDepth 100000 in
theorem rname_any (rb : Nat) (s : ByteArray) (k : Nat) (w : World) (h : Ry w rb s k 0) (hk : k ≤ s.size) (hs : s.size ≤ 1000000000) :
    Calls Tryz.prog 115 #[.pointer (some ⟨rb, 0, none⟩)] w (NyPost rb s (pName (s.toList.drop k)) w) := by
  have b1 := h.c1
  go_enter Tryz.func115, Tryz.ntmps115
  go_wp2
  clear b1
  go_loopw [8] (fun _ wr => ∃ j : Nat, k ≤ j ∧ j ≤ s.size ∧ Ry wr rb s j 0 ∧ w.grownBy wr (some rb) ∧ Hid (∀ c ∈ (s.toList.take j).drop k, partB c = true)) (fun _ wr => s.size - rat wr rb)
  case atStart => exact ⟨k, Nat.le_refl _, hk, h, grown_refl _ _, by rw [List.drop_of_length_le (by rw [List.length_take]; omega)]; intro c hc; cases hc⟩
  case round =>
    obtain ⟨j, hkj, hj, hR, hg, hall⟩ := hrel
    have b0 := hR.c0
    have b1 := hR.c1
    have f1 := hR.ff (i := 1)
    have ex : s.extract k j = B ((s.toList.take j).drop k) := B_extract s k j
    have i3 : (0 : Int) ≤ (k : Int) := by omega
    have i4 : (k : Int) ≤ (j : Int) := by omega
    have i5 : (j : Int) ≤ (s.size : Int) := by omega
    by_cases hlt : j < s.size
    · have i1 : (0 : Int) ≤ (j : Int) := by omega
      have i2 : (j : Int) < (s.size : Int) := by omega
      have d0 : decide ((j : Int) < (s.size : Int)) = true := by simp; omega
      cases hp : partB s[j]
      · have HSP := Lib.hid (span_stop partB ((s.toList.take j).drop k) (s.toList.drop j) hall.out (fun c hc => by rw [drop_byte s j hlt] at hc; simp at hc; rw [← hc]; exact hp))
        have HDP := Lib.hid (drop_parts s.toList k j hkj)
        have C := Lib.hid (fun V => part_any s[j] V)
        go_wp2
        go_quiet ((go_at_call 140; exact Calls.quiet_of_same ((C.out _).mono fun _ _ ⟨a, b⟩ => ⟨a, b.symm⟩)))
        rw [hp]
        have dn : ((j : Int) == (s.size : Int)) = false := beq_eq_false_iff_ne.2 (by omega)
        have HN : Hid (pName (s.toList.drop k) = if nameB ((s.toList.take j).drop k) = false then .error 5 else .ok ((s.toList.take j).drop k, s.toList.drop j)) := by
          unfold pName Hid
          rw [HDP.out, HSP.out.1, HSP.out.2, if_neg (drop_ne hlt)]
        generalize (s.toList.take j).drop k = nm at *
        have hnl : nm.length ≤ 1000000000 := by
          have e := congrArg ByteArray.size ex
          rw [B_size, ByteArray.size_extract] at e
          omega
        have C2 := Lib.hid (fun V => rName_any (B nm) V (by rw [B_size]; omega))
        rw [B_data] at C2
        cases hnb : nameB nm
        · rw [hnb] at C2
          have HX : Hid (pName (s.toList.drop k) = .error 5) := by rw [HN.out, if_pos hnb]; rfl
          have CF := Lib.hid (fun m => fail_any rb s j 0 5 (wr.drewN m) (hR.drewN m))
          clear hnb HN HSP HDP C hall
          go_wp2
          go_quiet (fail)
          go_wp2
          go_quiet ((go_at_call 141; exact quiet_add_left (C2.out _)))
          go_wp2_with fail
          refine (CF.out _).mono ?_
          rw [ferr_zero]
          rintro e w2 ⟨rfl, hg2, hR2⟩
          have hg3 := grown_trans (grown_drewN hg _) hg2
          clear CF hg2 b0 b1 f1
          have b0 := hR2.c0
          have b1 := hR2.c1
          go_wp2
          go_quiet (fail)
          go_wp2
          go_ret
          unfold NyPost
          rw [HX.out]
          exact ⟨nm, rfl, hnl, grown_drewN hg3 _, j, 5, hj, hR2.drewN _, rfl⟩
        · rw [hnb] at C2
          have HX : Hid (pName (s.toList.drop k) = .ok (nm, s.toList.drop j)) := by rw [HN.out, if_neg (by simp [hnb])]; rfl
          clear hnb HN HSP HDP C hall
          go_wp2
          go_quiet (fail)
          go_wp2
          go_quiet ((go_at_call 141; exact quiet_add_left (C2.out _)))
          go_wp2
          go_quiet (fail)
          go_wp2
          go_ret
          unfold NyPost
          rw [HX.out]
          exact ⟨nm, rfl, hnl, grown_drewN (grown_drewN (grown_drewN (grown_drewN hg _) _) _) _, j, 0, hj, hR, rfl, rfl, rfl⟩
      · have HALL : Hid (∀ c ∈ (s.toList.take (j + 1)).drop k, partB c = true) := all_step hlt hkj hall.out hp
        have hR2 := hR.setK (m := j + 1)
        have hg2 := grown_trans hg (grown_setC wr rb 1 (.int .i64 ((j + 1 : Nat) : Int)))
        have C := Lib.hid (fun V => part_any s[j] V)
        clear ex
        go_wp2
        go_quiet ((go_at_call 140; exact Calls.quiet_of_same ((C.out _).mono fun _ _ ⟨a, b⟩ => ⟨a, b.symm⟩)))
        rw [hp]
        go_wp2
        go_roundw
        case rel => exact ⟨j + 1, by omega, by omega, hR2, grown_drewN hg2 _, HALL⟩
        case measure => exact Ry.meas hR hR2 hlt (Nat.lt_succ_self j)
    · obtain rfl : j = s.size := by omega
      have HX : Hid (pName (s.toList.drop k) = .error 4) := by
        have h1 := span_stop partB ((s.toList.take s.size).drop k) [] hall.out (fun c hc => by cases hc)
        rw [List.append_nil, List.take_of_length_le (by rw [len_toList]; omega)] at h1
        unfold pName Hid
        rw [h1.2, if_pos rfl]
      have d0 : decide ((s.size : Int) < (s.size : Int)) = false := by simp
      have dn : ((s.size : Int) == (s.size : Int)) = true := by simp
      generalize (s.toList.take s.size).drop k = nm at *
      have hnl : nm.length ≤ 1000000000 := by
        have e := congrArg ByteArray.size ex
        rw [B_size, ByteArray.size_extract] at e
        omega
      have CF := Lib.hid (fun m => fail_any rb s s.size 0 4 (wr.drewN m) (hR.drewN m))
      go_wp2
      go_quiet (fail)
      go_wp2
      go_quiet (fail)
      go_wp2_with fail
      refine (CF.out _).mono ?_
      rw [ferr_zero]
      rintro e w2 ⟨rfl, hg2, hR2⟩
      have hg3 := grown_trans (grown_drewN hg _) hg2
      clear CF hg2 b0 b1 f1
      have b0 := hR2.c0
      have b1 := hR2.c1
      go_wp2
      go_quiet (fail)
      go_wp2
      go_ret
      unfold NyPost
      rw [HX.out]
      exact ⟨nm, rfl, hnl, grown_drewN hg3 _, s.size, 4, Nat.le_refl _, hR2.drewN _, rfl⟩
end Go.Proofs.YtejjidbodfoiiaaGreatDoor
