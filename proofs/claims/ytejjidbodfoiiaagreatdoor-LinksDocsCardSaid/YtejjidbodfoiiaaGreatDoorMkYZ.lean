/-
  Layer 33 (markup): the reader of the program: name, expect; prefixes and the index of a byte.
  Layer 33 (markup): the reader of the program: unescape.
-/
import Derived.Test.YtejjidbodfoiiaaGreatDoorMkM
import Derived.Test.YtejjidbodfoiiaaGreatDoorShelf44
namespace Go.Proofs.YtejjidbodfoiiaaGreatDoor
open Go.RowKit
set_option linter.unusedVariables false
set_option linter.unusedSimpArgs false
attribute [local go_sem] B_data B_size

theorem prefix_any (s p : List UInt8) (w : World) (hs : s.length ≤ 1000000000) (hp : p.length ≤ 1000000000) : Calls Tryz.prog 44 #[.string (B s), .string (B p)] w fun e w' => e = .returned (.bool (decide (p <+: s))) ∧ w = w' := by
  by_cases h : p.length ≤ s.length
  · have HB : Hid (decide (p <+: s) = (s.take p.length == p)) := by
      rw [Bool.eq_iff_iff]
      simp only [decide_eq_true_eq, beq_iff_eq]
      rw [List.prefix_iff_eq_take]
      exact eq_comm
    have hx : (B s).extract 0 p.length = B (s.take p.length) := by rw [B_take, B_data]
    have d1 : decide (p.length ≤ s.length) = true := by simpa using h
    go_enter Tryz.func44, Tryz.ntmps44
    go_wp2
    go_ret
    exact ⟨ret_bool HB.out.symm, rfl⟩
  · have HB : Hid (decide (p <+: s) = false) := by
      rw [decide_eq_false_iff_not]
      intro hp
      exact h hp.length_le
    have d1 : decide (p.length ≤ s.length) = false := by simpa using h
    go_enter Tryz.func44, Tryz.ntmps44
    go_wp2
    go_ret
    exact ⟨ret_bool HB.out.symm, rfl⟩
/-- the index of the first byte that is not p, or -1 -/
def idxP (p : UInt8 → Bool) (l : List UInt8) : Int := if l.dropWhile p = [] then -1 else ((l.takeWhile p).length : Int)
theorem indexByte_idx (l : List UInt8) (c : UInt8) : Lib.indexByte l c = idxP (fun b => b != c) l := by
  induction l with
  | nil => rfl
  | cons b r ih =>
    rw [Lib.indexByte, ih]
    unfold idxP
    by_cases h : b = c
    · simp [h]
    · have h1 : (b == c) = false := by simpa using h
      have h2 : (b != c) = true := by simpa using h
      rw [h1, List.dropWhile_cons, List.takeWhile_cons, if_pos h2, if_pos h2]
      by_cases hd : r.dropWhile (fun b => b != c) = []
      · simp [hd]
      · rw [if_neg hd, if_neg hd]
        have : ((((r.takeWhile (fun b => b != c)).length : Nat) : Int) == -1) = false := by rw [beq_eq_false_iff_ne]; omega
        simp [this]
theorem ibyte_any (l : List UInt8) (c : Nat) (hc : c < 256) (w : World) : Calls Tryz.prog 134 #[.string (B l), .int .u8 (c : Int)] w fun e w' => e = .returned (.int .i64 (idxP (fun b => b != UInt8.ofNat c) l)) ∧ w = w' :=
  (Tryz.strings_IndexByte (B l) (c : Int) w).mono fun e w' ⟨he, hw⟩ => ⟨by
    rw [he, ← indexByte_idx]
    have e1 : (B l).data.toList = l := by simp [B]
    have e2 : ((c : Int).toNat).toUInt8 = UInt8.ofNat c := rfl
    rw [e1, e2], hw.symm⟩
/-- block rb is a reader of the text s at the byte k -/
def Rx (w : World) (rb : Nat) (s : ByteArray) (k : Nat) : Prop := w.heap[rb]? = some (.cells #[.string s, .int .i64 (k : Int)] 117 (0, 0))
theorem Rx.lt {w : World} {rb k : Nat} {s : ByteArray} (h : Rx w rb s k) : rb < w.heap.size := (Array.getElem?_eq_some_iff.1 h).1
theorem Rx.c0 {w : World} {rb k : Nat} {s : ByteArray} (h : Rx w rb s k) : w.cell? ⟨rb, 0, none⟩ = some (.string s) := by unfold Rx at h; simp [World.cell?, h]
theorem Rx.c1 {w : World} {rb k : Nat} {s : ByteArray} (h : Rx w rb s k) : w.cell? ⟨rb, 1, none⟩ = some (.int .i64 (k : Int)) := by unfold Rx at h; simp [World.cell?, h]
theorem Rx.f1 {w : World} {rb k : Nat} {s : ByteArray} (h : Rx w rb s k) : w.frozen? ⟨rb, 1, none⟩ = false := by unfold Rx at h; simp [World.frozen?, h]
theorem Rx.set {w : World} {rb k m : Nat} {s : ByteArray} (h : Rx w rb s k) : Rx (w.setCell ⟨rb, 1, none⟩ (.int .i64 (m : Int))) rb s m := by
  unfold Rx at *
  simp [World.setCell, Array.getElem?_modify, h]
theorem Rx.below {w w' : World} {rb k M : Nat} {s : ByteArray} (h : Rx w rb s k) (hb : Below M w w') (hM : rb < M) : Rx w' rb s k := (hb.block rb hM).trans h
theorem Rx.alloc {w : World} {rb k : Nat} {s : ByteArray} (h : Rx w rb s k) (o : Obj) : Rx (w.alloc o) rb s k := ((Below.refl w.heap.size w).alloc (Nat.le_refl _) o).block rb h.lt |>.trans h
theorem grown_setC (w : World) (c i : Nat) (u : Value) : w.grownBy (w.setCell ⟨c, i, none⟩ u) (some c) :=
  ⟨rfl, rfl, rfl, by simp, fun k _ hk => by
    unfold World.setCell
    simp only
    rw [Array.getElem?_modify, if_neg]
    intro e
    exact hk (by rw [e])⟩
theorem grown_refl (w : World) (row : Option Nat) : w.grownBy w row := ⟨rfl, rfl, rfl, Nat.le_refl _, fun _ _ _ => rfl⟩
theorem grown_drewN {a w : World} {row : Option Nat} (h : a.grownBy w row) (n : Nat) : a.grownBy (w.drewN n) row := ⟨h.os, h.tape, h.output, h.size, h.block⟩
/-- where a reader stands -/
def rat (w : World) (rb : Nat) : Nat := match w.cell? ⟨rb, 1, none⟩ with
  | some (.int _ n) => n.toNat
  | _ => 0
theorem Rx.rat {w : World} {rb k : Nat} {s : ByteArray} (h : Rx w rb s k) : rat w rb = k := by unfold Go.Proofs.YtejjidbodfoiiaaGreatDoor.rat; rw [h.c1]; simp
theorem Rx.meas {w w' : World} {rb j m : Nat} {s : ByteArray} (h : Rx w rb s j) (h' : Rx w' rb s m) (hlt : j < s.size) (hm : j < m) : s.size - Go.Proofs.YtejjidbodfoiiaaGreatDoor.rat w' rb < s.size - Go.Proofs.YtejjidbodfoiiaaGreatDoor.rat w rb := by
  rw [h.rat, h'.rat]; omega
def NmPost (rb : Nat) (s : ByteArray) (r : Except Int (List UInt8 × List UInt8)) (w : World) (e : Ending) (w' : World) : Prop := w.grownBy w' (some rb) ∧ match r with
  | .error x => e = .returned (.tuple #[.string (B []), .int .i64 x])
  | .ok (nm, l) => e = .returned (.tuple #[.string (B nm), .int .i64 0]) ∧ ∃ k, Rx w' rb s k ∧ s.toList.drop k = l ∧ k ≤ s.size
theorem all_step {s : ByteArray} {k j : Nat} (hj : j < s.size) (hk : k ≤ j) (h : ∀ c ∈ (s.toList.take j).drop k, partB c = true) (hp : partB s[j] = true) : ∀ c ∈ (s.toList.take (j + 1)).drop k, partB c = true := by
  rw [take_byte s j hj, List.drop_append_of_le_length (by rw [List.length_take, len_toList]; omega)]
  intro c hc
  rcases List.mem_append.1 hc with hc | hc
  · exact h c hc
  · simp at hc; rw [hc]; exact hp
theorem drop_parts (l : List UInt8) (k j : Nat) (hkj : k ≤ j) : l.drop k = (l.take j).drop k ++ l.drop j := by
  conv => lhs; rw [← List.take_append_drop j l]
  rw [List.drop_append]
  congr 1
  rw [List.length_take]
  by_cases h : j ≤ l.length
  · rw [Nat.min_eq_left h, Nat.sub_eq_zero_of_le hkj, List.drop_zero]
  · rw [List.drop_of_length_le (l := l) (by omega)]; simp
set_option maxHeartbeats 4000000 in
set_option maxRecDepth 100000 in
theorem name_any (rb : Nat) (s : ByteArray) (k : Nat) (w : World) (h : Rx w rb s k) (hk : k ≤ s.size) (hs : s.size ≤ 1000000000) :
    Calls Tryz.prog 130 #[.pointer (some ⟨rb, 0, none⟩)] w (NmPost rb s (pName (s.toList.drop k)) w) := by
  have b1 := h.c1
  go_enter Tryz.func130, Tryz.ntmps130
  go_wp2
  clear b1
  go_loopw [15] (fun _ wr => ∃ j : Nat, k ≤ j ∧ j ≤ s.size ∧ Rx wr rb s j ∧ w.grownBy wr (some rb) ∧ Hid (∀ c ∈ (s.toList.take j).drop k, partB c = true)) (fun _ wr => s.size - rat wr rb)
  case atStart => exact ⟨k, Nat.le_refl _, hk, h, grown_refl _ _, by rw [List.drop_of_length_le (by rw [List.length_take]; omega)]; intro c hc; cases hc⟩
  case round =>
    obtain ⟨j, hkj, hj, hR, hg, hall⟩ := hrel
    have b0 := hR.c0
    have b1 := hR.c1
    have f1 := hR.f1
    by_cases hlt : j < s.size
    · have i1 : (0 : Int) ≤ (j : Int) := by omega
      have i2 : (j : Int) < (s.size : Int) := by omega
      have d0 : decide ((j : Int) < (s.size : Int)) = true := by simp; omega
      cases hp : partB s[j]
      · have HSP := Lib.hid (span_stop partB ((s.toList.take j).drop k) (s.toList.drop j) hall.out (fun c hc => by rw [drop_byte s j hlt] at hc; simp at hc; rw [← hc]; exact hp))
        have HDP := Lib.hid (drop_parts s.toList k j hkj)
        have C := Lib.hid (fun V => inName_any s[j] V)
        go_wp2
        go_quiet ((go_at_call 127; exact Calls.quiet_of_same ((C.out _).mono fun _ _ ⟨a, b⟩ => ⟨a, b.symm⟩)))
        rw [hp]
        have dn : ((j : Int) == (s.size : Int)) = false := beq_eq_false_iff_ne.2 (by omega)
        have ex : s.extract k j = B ((s.toList.take j).drop k) := B_extract s k j
        have i3 : (0 : Int) ≤ (k : Int) := by omega
        have i4 : (k : Int) ≤ (j : Int) := by omega
        have i5 : (j : Int) ≤ (s.size : Int) := by omega
        have HN : Hid (pName (s.toList.drop k) = if nameB ((s.toList.take j).drop k) = false then .error 5 else .ok ((s.toList.take j).drop k, s.toList.drop j)) := by
          unfold pName Hid
          rw [HDP.out, HSP.out.1, HSP.out.2, if_neg (drop_ne hlt)]
        generalize (s.toList.take j).drop k = nm at *
        have hnl : nm.length ≤ 1000000000 := by
          have e := congrArg ByteArray.size ex
          rw [B_size, ByteArray.size_extract] at e
          omega
        have C2 := Lib.hid (fun V => isName_any (B nm) V (by rw [B_size]; omega))
        go_wp2
        go_quiet (fail)
        go_wp2
        go_quiet (fail)
        go_wp2_with fail
        refine (C2.out _).mono ?_
        rintro e w2 ⟨rfl, rfl⟩
        rw [B_data]
        cases hnb : nameB nm
        · have HX : Hid (pName (s.toList.drop k) = .error 5) := by rw [HN.out, if_pos hnb]; rfl
          go_wp2
          go_ret2
          unfold NmPost
          rw [HX.out]
          exact ⟨grown_drewN hg _, rfl⟩
        · have HX : Hid (pName (s.toList.drop k) = .ok (nm, s.toList.drop j)) := by rw [HN.out, if_neg (by simp [hnb])]; rfl
          go_wp2
          go_ret2
          unfold NmPost
          rw [HX.out]
          exact ⟨grown_drewN hg _, rfl, j, hR, rfl, hj⟩
      · have HALL : Hid (∀ c ∈ (s.toList.take (j + 1)).drop k, partB c = true) := all_step hlt hkj hall.out hp
        have hR2 := hR.set (m := j + 1)
        have hg2 := grown_trans hg (grown_setC wr rb 1 (.int .i64 ((j + 1 : Nat) : Int)))
        have C := Lib.hid (fun V => inName_any s[j] V)
        go_wp2
        go_quiet ((go_at_call 127; exact Calls.quiet_of_same ((C.out _).mono fun _ _ ⟨a, b⟩ => ⟨a, b.symm⟩)))
        rw [hp]
        go_wp2
        go_roundw
        case rel => exact ⟨j + 1, by omega, by omega, hR2, grown_drewN hg2 _, HALL⟩
        case measure => exact Rx.meas hR hR2 hlt (Nat.lt_succ_self j)
    · obtain rfl : j = s.size := by omega
      have HX : Hid (pName (s.toList.drop k) = .error 4) := by
        have h1 := span_stop partB ((s.toList.take s.size).drop k) [] hall.out (fun c hc => by cases hc)
        rw [List.append_nil, List.take_of_length_le (by rw [len_toList]; omega)] at h1
        unfold pName Hid
        rw [h1.2, if_pos rfl]
      have d0 : decide ((s.size : Int) < (s.size : Int)) = false := by simp
      have dn : ((s.size : Int) == (s.size : Int)) = true := by simp
      go_wp2
      go_quiet (fail)
      go_wp2
      go_quiet (fail)
      go_wp2
      go_ret2
      unfold NmPost
      rw [HX.out]
      exact ⟨grown_drewN (grown_drewN hg _) _, rfl⟩
def EPost (rb : Nat) (s : ByteArray) (r : Except Int (List UInt8)) (w : World) (e : Ending) (w' : World) : Prop := w.grownBy w' (some rb) ∧ match r with
  | .error x => e = .returned (.int .i64 x)
  | .ok l => e = .returned (.int .i64 0) ∧ ∃ k, Rx w' rb s k ∧ s.toList.drop k = l ∧ k ≤ s.size
set_option maxHeartbeats 4000000 in
set_option maxRecDepth 100000 in
theorem expect_any (rb : Nat) (s : ByteArray) (k : Nat) (t : List UInt8) (w : World) (h : Rx w rb s k) (hk : k ≤ s.size) (hs : s.size ≤ 1000000000) (ht : t.length ≤ 1000000000) :
    Calls Tryz.prog 132 #[.pointer (some ⟨rb, 0, none⟩), .string (B t)] w (EPost rb s (pExp t (s.toList.drop k)) w) := by
  have b0 := h.c0
  have b1 := h.c1
  have f1 := h.f1
  have i1 : (0 : Int) ≤ (k : Int) := by omega
  have i2 : (k : Int) ≤ (s.size : Int) := by omega
  have ex : s.extract k s.size = B (s.toList.drop k) := B_drop s k
  have hdl := drop_len s k
  have HP : Hid (pExp t (s.toList.drop k) = if t <+: s.toList.drop k then .ok ((s.toList.drop k).drop t.length) else if s.toList.drop k <+: t then .error 4 else .error 5) := rfl
  have HDD : Hid ((s.toList.drop k).drop t.length = s.toList.drop (k + t.length)) := by rw [List.drop_drop]; rfl
  have hR2 := h.set (m := k + t.length)
  have hg2 := grown_setC w rb 1 (.int .i64 ((k + t.length : Nat) : Int))
  generalize s.toList.drop k = l at *
  have C1 := Lib.hid (fun V => prefix_any l t V (by omega) ht)
  have C2 := Lib.hid (fun V => prefix_any t l V ht (by omega))
  by_cases h1 : t <+: l
  · have hlen := h1.length_le
    have HX : Hid (pExp t l = .ok (s.toList.drop (k + t.length))) := by rw [HP.out, if_pos h1, HDD.out]; rfl
    have hkt : k + t.length ≤ s.size := by omega
    rw [decide_eq_true h1] at C1
    clear h1 HP hlen
    go_enter Tryz.func132, Tryz.ntmps132
    go_wp2
    go_quiet (fail)
    go_wp2_with fail
    refine (C1.out _).mono ?_
    rintro e w2 ⟨rfl, rfl⟩
    go_wp2
    go_ret
    unfold EPost
    rw [HX.out]
    exact ⟨grown_drewN hg2 _, rfl, k + t.length, hR2, rfl, hkt⟩
  · rw [decide_eq_false h1] at C1
    have HP2 : Hid (pExp t l = if l <+: t then .error 4 else .error 5) := by rw [HP.out, if_neg h1]; rfl
    clear h1 HP
    by_cases h2 : l <+: t
    · have HX : Hid (pExp t l = .error 4) := by rw [HP2.out, if_pos h2]; rfl
      rw [decide_eq_true h2] at C2
      clear h2 HP2
      go_enter Tryz.func132, Tryz.ntmps132
      go_wp2
      go_quiet (fail)
      go_wp2_with fail
      refine (C1.out _).mono ?_
      rintro e w2 ⟨rfl, rfl⟩
      go_wp2_with fail
      refine (C2.out _).mono ?_
      rintro e w2 ⟨rfl, rfl⟩
      go_wp2
      go_ret
      unfold EPost
      rw [HX.out]
      exact ⟨grown_drewN (grown_refl _ _) _, rfl⟩
    · have HX : Hid (pExp t l = .error 5) := by rw [HP2.out, if_neg h2]; rfl
      rw [decide_eq_false h2] at C2
      clear h2 HP2
      go_enter Tryz.func132, Tryz.ntmps132
      go_wp2
      go_quiet (fail)
      go_wp2_with fail
      refine (C1.out _).mono ?_
      rintro e w2 ⟨rfl, rfl⟩
      go_wp2_with fail
      refine (C2.out _).mono ?_
      rintro e w2 ⟨rfl, rfl⟩
      go_wp2
      go_ret
      unfold EPost
      rw [HX.out]
      exact ⟨grown_drewN (grown_refl _ _) _, rfl⟩
set_option maxHeartbeats 2000000 in
set_option maxRecDepth 100000 in
theorem replacement_any (l : List UInt8) (w : World) (hl : l.length ≤ 1000000000) :
    Calls Tryz.prog 151 #[.string (B l)] w fun e w' => e = .returned (.tuple #[.int .i64 (((repl l).1 : Nat) : Int), .int .u8 (((repl l).2.toNat : Nat) : Int)]) ∧ w = w' := by
  have HR : Hid (repl l = if [38, 97, 109, 112, 59] <+: l then (5, 38) else if [38, 108, 116, 59] <+: l then (4, 60) else if [38, 103, 116, 59] <+: l then (4, 62) else if [38, 113, 117, 111, 116, 59] <+: l then (6, 34) else (0, 0)) := rfl
  have C1 := Lib.hid (fun V => prefix_any l [38, 97, 109, 112, 59] V hl (by simp))
  have C2 := Lib.hid (fun V => prefix_any l [38, 108, 116, 59] V hl (by simp))
  have C3 := Lib.hid (fun V => prefix_any l [38, 103, 116, 59] V hl (by simp))
  have C4 := Lib.hid (fun V => prefix_any l [38, 113, 117, 111, 116, 59] V hl (by simp))
  by_cases h1 : [38, 97, 109, 112, 59] <+: l
  · have HX : Hid (repl l = (5, 38)) := by rw [HR.out, if_pos h1]; rfl
    rw [decide_eq_true h1] at C1
    clear h1 HR
    go_enter Tryz.func151, Tryz.ntmps151
    go_wp2_with fail
    refine (C1.out _).mono ?_
    rintro e w2 ⟨rfl, rfl⟩
    go_wp2
    go_ret2
    rw [HX.out]
    exact ⟨rfl, rfl⟩
  rw [decide_eq_false h1] at C1
  by_cases h2 : [38, 108, 116, 59] <+: l
  · have HX : Hid (repl l = (4, 60)) := by rw [HR.out, if_neg h1, if_pos h2]; rfl
    rw [decide_eq_true h2] at C2
    clear h1 h2 HR
    go_enter Tryz.func151, Tryz.ntmps151
    go_wp2_with fail
    refine (C1.out _).mono ?_
    rintro e w2 ⟨rfl, rfl⟩
    go_wp2_with fail
    refine (C2.out _).mono ?_
    rintro e w2 ⟨rfl, rfl⟩
    go_wp2
    go_ret2
    rw [HX.out]
    exact ⟨rfl, rfl⟩
  rw [decide_eq_false h2] at C2
  by_cases h3 : [38, 103, 116, 59] <+: l
  · have HX : Hid (repl l = (4, 62)) := by rw [HR.out, if_neg h1, if_neg h2, if_pos h3]; rfl
    rw [decide_eq_true h3] at C3
    clear h1 h2 h3 HR
    go_enter Tryz.func151, Tryz.ntmps151
    go_wp2_with fail
    refine (C1.out _).mono ?_
    rintro e w2 ⟨rfl, rfl⟩
    go_wp2_with fail
    refine (C2.out _).mono ?_
    rintro e w2 ⟨rfl, rfl⟩
    go_wp2_with fail
    refine (C3.out _).mono ?_
    rintro e w2 ⟨rfl, rfl⟩
    go_wp2
    go_ret2
    rw [HX.out]
    exact ⟨rfl, rfl⟩
  rw [decide_eq_false h3] at C3
  by_cases h4 : [38, 113, 117, 111, 116, 59] <+: l
  · have HX : Hid (repl l = (6, 34)) := by rw [HR.out, if_neg h1, if_neg h2, if_neg h3, if_pos h4]; rfl
    rw [decide_eq_true h4] at C4
    clear h1 h2 h3 h4 HR
    go_enter Tryz.func151, Tryz.ntmps151
    go_wp2_with fail
    refine (C1.out _).mono ?_
    rintro e w2 ⟨rfl, rfl⟩
    go_wp2_with fail
    refine (C2.out _).mono ?_
    rintro e w2 ⟨rfl, rfl⟩
    go_wp2_with fail
    refine (C3.out _).mono ?_
    rintro e w2 ⟨rfl, rfl⟩
    go_wp2_with fail
    refine (C4.out _).mono ?_
    rintro e w2 ⟨rfl, rfl⟩
    go_wp2
    go_ret2
    rw [HX.out]
    exact ⟨rfl, rfl⟩
  rw [decide_eq_false h4] at C4
  have HX : Hid (repl l = (0, 0)) := by rw [HR.out, if_neg h1, if_neg h2, if_neg h3, if_neg h4]; rfl
  clear h1 h2 h3 h4 HR
  go_enter Tryz.func151, Tryz.ntmps151
  go_wp2_with fail
  refine (C1.out _).mono ?_
  rintro e w2 ⟨rfl, rfl⟩
  go_wp2_with fail
  refine (C2.out _).mono ?_
  rintro e w2 ⟨rfl, rfl⟩
  go_wp2_with fail
  refine (C3.out _).mono ?_
  rintro e w2 ⟨rfl, rfl⟩
  go_wp2_with fail
  refine (C4.out _).mono ?_
  rintro e w2 ⟨rfl, rfl⟩
  go_wp2
  go_ret2
  rw [HX.out]
  exact ⟨rfl, rfl⟩
end Go.Proofs.YtejjidbodfoiiaaGreatDoor
namespace Go.Proofs.YtejjidbodfoiiaaGreatDoor
open Go.RowKit
set_option linter.unusedVariables false
set_option linter.unusedSimpArgs false
attribute [local go_sem] B_data B_size

theorem idx_mem (c : UInt8) (l : List UInt8) : (0 ≤ idxP (fun b => b != c) l ↔ c ∈ l) ∧ -1 ≤ idxP (fun b => b != c) l := by
  unfold idxP
  constructor
  · by_cases h : l.dropWhile (fun b => b != c) = []
    · rw [if_pos h]
      constructor
      · intro h; omega
      · intro hm
        exfalso
        have hall : ∀ b ∈ l, (fun b => b != c) b = true := by
          intro b hb
          have := @List.takeWhile_append_dropWhile _ (fun b => b != c) l
          rw [h, List.append_nil] at this
          rw [← this] at hb
          exact span_all _ l b hb
        have := hall c hm
        simp at this
    · rw [if_neg h]
      constructor
      · intro _
        cases hd : l.dropWhile (fun b => b != c) with
        | nil => exact absurd hd h
        | cons d r =>
          have h1 := span_head (fun b => b != c) l d (by rw [hd]; rfl)
          have h2 : d = c := by simpa using h1
          have := @List.takeWhile_append_dropWhile _ (fun b => b != c) l
          rw [hd, h2] at this
          rw [← this]
          simp
      · intro _; omega
  · split <;> omega
theorem ext_toList (t : ByteArray) (n : Nat) : (t.extract n t.size).toList = t.toList.drop n := by rw [B_drop, B_data]
def UPost (r : Except Int (List UInt8)) (w : World) (e : Ending) (w' : World) : Prop := Below w.heap.size w w' ∧ match r with
  | .error x => e = .returned (.tuple #[.string (B []), .int .i64 x])
  | .ok u => e = .returned (.tuple #[.string (B u), .int .i64 0])
theorem repl_len (l : List UInt8) (h : (repl l).1 ≠ 0) : (repl l).1 ≤ l.length ∧ 1 ≤ (repl l).1 := by
  obtain ⟨r, e1, e2⟩ := repl_some h
  have := congrArg List.length e1
  rw [List.length_append] at this
  omega
set_option maxHeartbeats 4000000 in
set_option maxRecDepth 100000 in
theorem unescape_any (l no : List UInt8) (w : World) (hl : l.length ≤ 1000000000) (hno : ∀ c ∈ l, (c = 60 ∨ c = 62 ∨ c = 34) ↔ c ∈ no) :
    Calls Tryz.prog 135 #[.string (B l), .string (B no)] w (UPost (pText l) w) := by
  have HNO := Lib.hid hno
  clear hno
  have HT : Hid (pText l = if validB l = false then .error 17 else match unesc l with | none => .error 5 | some u => .ok u) := rfl
  have CI := Lib.hid (fun (c : UInt8) V => ibyte_any no c.toNat c.toNat_lt V)
  cases hv : validB l
  · have HX : Hid (pText l = .error 17) := by rw [HT.out, if_pos hv]; rfl
    go_enter Tryz.func135, Tryz.ntmps135
    go_wp2_with fail
    refine (valid_any (B l) _ (by rw [B_size]; omega)).mono ?_
    rintro e w1 ⟨rfl, m, rfl⟩
    rw [B_data, hv]
    go_wp2
    go_ret2
    unfold UPost
    rw [HX.out]
    exact ⟨below_of_drewN _ _ _, rfl⟩
  have HT2 : Hid (pText l = match unesc l with | none => .error 5 | some u => .ok u) := by rw [HT.out, if_neg (by simp [hv])]; rfl
  clear HT
  go_enter Tryz.func135, Tryz.ntmps135
  go_wp2_with fail
  refine (valid_any (B l) _ (by rw [B_size]; omega)).mono ?_
  rintro e w1 ⟨rfl, m, hw1⟩
  rw [B_data, hv]
  have hb1 : Below w.heap.size w w1 := by rw [hw1]; exact below_of_drewN _ _ _
  have hd1 : Bd (w1.alloc (.cells #[.pointer none, .slice none 0 0] 110)) w1.heap.size [] := Bd.new w1
  have hb2 := hb1.alloc hb1.size (.cells #[.pointer none, .slice none 0 0] 110)
  have hbs := hb1.size
  clear hw1 hv
  go_wp2
  generalize w1.alloc (.cells #[.pointer none, .slice none 0 0] 110) = W at *
  generalize w1.heap.size = bb at *
  go_loopw [0] (fun v wr => ∃ (t : ByteArray) (f : Nat) (u : List UInt8), v = .string t ∧ t.size ≤ f ∧ u.length + t.size ≤ l.length ∧ Bd wr bb u ∧ Below w.heap.size w wr ∧ Hid (unesc l = (unescF f t.toList).map (u ++ ·)) ∧ Hid (∀ c ∈ t.toList, (c = 60 ∨ c = 62 ∨ c = 34) ↔ c ∈ no)) (fun v _ => match v with | .string t => t.size | _ => 0)
  case atStart => exact ⟨B l, l.length, [], rfl, by rw [B_size]; omega, by rw [B_size]; simp, hd1, hb2, by rw [B_data]; unfold unesc Hid; simp, by rw [B_data]; exact HNO⟩
  case round =>
    obtain ⟨t, f, u, rfl, hf, hul, hbd, hbw, hr, hn⟩ := hrel
    have hbws := hbw.size
    by_cases h0 : t.size = 0
    · have ht : t.toList = [] := List.eq_nil_of_length_eq_zero (by rw [len_toList]; exact h0)
      have HX : Hid (pText l = .ok u) := by
        have e : unesc l = some u := by
          rw [hr.out, ht]
          cases f <;> simp [unescF]
        rw [HT2.out, e]; rfl
      clear hr hn HT2
      go_wp2_with fail
      refine (string_any bb u _ hbd).mono ?_
      rintro e w3 ⟨rfl, hd3, hk3⟩
      have hb3 := hbw.trans (hk3.1.mono hbs)
      go_wp2
      go_ret2
      unfold UPost
      rw [HX.out]
      exact ⟨hb3, rfl⟩
    have hp : 0 < t.size := by omega
    have hne1 : (t.toList == []) = false := by
      rw [beq_eq_false_iff_ne]; intro e; have := len_toList t; rw [e] at this; simp at this; omega
    have hne2 : t.toList.isEmpty = false := isEmpty_of t hp
    have hne3 : (t.toList != []) = true := by rw [bne, hne1]; rfl
    have HD := Lib.hid (show t.toList = t[0] :: t.toList.drop 1 from by have := drop_byte t 0 hp; rw [List.drop_zero] at this; exact this)
    obtain ⟨f, rfl⟩ : ∃ g, f = g + 1 := ⟨f - 1, by omega⟩
    have HU : Hid (unescF (f + 1) t.toList = if t[0] = 60 ∨ t[0] = 62 ∨ t[0] = 34 then none else if t[0] = 38 then (if (repl t.toList).1 = 0 then none else (unescF f (t.toList.drop (repl t.toList).1)).map ((repl t.toList).2 :: ·)) else (unescF f (t.toList.drop 1)).map (t[0] :: ·)) := by
      have e := HD.out
      unfold Hid
      conv => lhs; rw [e, unescF]
      rw [← e]
    have hmem := hn.out t[0] (by rw [HD.out]; exact List.mem_cons_self ..)
    have hix := idx_mem t[0] no
    have CI0 := Lib.hid (fun V => CI.out t[0] V)
    rw [show UInt8.ofNat t[0].toNat = t[0] from by simp] at CI0
    have HMD : Hid (∀ n, ∀ c ∈ t.toList.drop n, (c = 60 ∨ c = 62 ∨ c = 34) ↔ c ∈ no) := fun n c hc => hn.out c (List.mem_of_mem_drop hc)
    generalize idxP (fun b => b != t[0]) no = ix at *
    obtain ⟨hix1, hix2⟩ := hix
    by_cases hb : t[0] = 60 ∨ t[0] = 62 ∨ t[0] = 34
    · have h0i : 0 ≤ ix := hix1.2 (hmem.1 hb)
      have HX : Hid (pText l = .error 5) := by
        have e : unesc l = none := by rw [hr.out, HU.out, if_pos hb]; rfl
        rw [HT2.out, e]; rfl
      clear hr hn HT2 HU hmem hix1 hb HMD
      go_wp2_with fail
      refine (CI0.out _).mono ?_
      rintro e w3 ⟨rfl, rfl⟩
      go_wp2
      go_ret2
      unfold UPost
      rw [HX.out]
      exact ⟨hbw, rfl⟩
    have h0i : ix < 0 := by
      have : ¬ 0 ≤ ix := fun h => hb (hmem.2 (hix1.1 h))
      omega
    have HU2 : Hid (unescF (f + 1) t.toList = if t[0] = 38 then (if (repl t.toList).1 = 0 then none else (unescF f (t.toList.drop (repl t.toList).1)).map ((repl t.toList).2 :: ·)) else (unescF f (t.toList.drop 1)).map (t[0] :: ·)) := by rw [HU.out, if_neg hb]; rfl
    clear HU hmem hix1 hb hn
    by_cases h38 : t[0] = 38
    · have d38 : ((t[0].toNat : Int) == 38) = true := by rw [h38]; rfl
      have HU3 : Hid (unescF (f + 1) t.toList = if (repl t.toList).1 = 0 then none else (unescF f (t.toList.drop (repl t.toList).1)).map ((repl t.toList).2 :: ·)) := by rw [HU2.out, if_pos h38]; rfl
      clear HU2 h38
      have HRL := Lib.hid (repl_len t.toList)
      have CR := Lib.hid (fun V => replacement_any t.toList V (by rw [len_toList]; omega))
      rw [B_self] at CR
      generalize (repl t.toList).1 = rn at *
      generalize (repl t.toList).2 = rc at *
      by_cases hr0 : rn = 0
      · have HX : Hid (pText l = .error 5) := by
          have e : unesc l = none := by rw [hr.out, HU3.out, if_pos hr0]; rfl
          rw [HT2.out, e]; rfl
        subst hr0
        clear hr HT2 HU3
        go_wp2_with fail
        refine (CI0.out _).mono ?_
        rintro e w3 ⟨rfl, rfl⟩
        go_wp2
        go_quiet (fail)
        go_wp2_with fail
        refine (CR.out _).mono ?_
        rintro e w3 ⟨rfl, rfl⟩
        go_wp2
        go_ret2
        unfold UPost
        rw [HX.out]
        exact ⟨below_drewN hbw _, rfl⟩
      · have hrl := HRL.out hr0
        rw [len_toList] at hrl
        have HF : Hid (unesc l = (unescF f (t.extract rn t.size).toList).map ((u ++ [rc]) ++ ·)) := by
          rw [hr.out, HU3.out, if_neg hr0, ext_toList, Option.map_map]
          unfold Hid
          congr 1
          funext x
          simp
        have HM2 : Hid (∀ c ∈ (t.extract rn t.size).toList, (c = 60 ∨ c = 62 ∨ c = 34) ↔ c ∈ no) := by rw [ext_toList]; exact HMD.out rn
        have dr0 : ((rn : Int) == 0) = false := beq_eq_false_iff_ne.2 (by omega)
        have hsz : (t.extract rn t.size).size = t.size - rn := by rw [ByteArray.size_extract]; omega
        have HSZ := Lib.hid hsz
        obtain ⟨hr1, hr2⟩ := hrl
        have i1 : (0 : Int) ≤ (rn : Int) := by omega
        have i2 : (rn : Int) ≤ (t.size : Int) := by omega
        clear hr HT2 HU3 hsz HRL
        go_wp2_with fail
        refine (CI0.out _).mono ?_
        rintro e w3 ⟨rfl, rfl⟩
        go_wp2
        go_quiet (fail)
        go_wp2_with fail
        refine (CR.out _).mono ?_
        rintro e w3 ⟨rfl, rfl⟩
        go_wp2_with fail
        refine (writeByte_any bb u rc _ (hbd.drewN _) (by omega)).mono ?_
        rintro e w3 ⟨rfl, hd3, hk3⟩
        have hb3 := (below_drewN hbw _).trans (hk3.1.mono hbs)
        go_wp2
        go_roundw
        case rel => exact ⟨_, f, u ++ [rc], rfl, by rw [HSZ.out]; omega, by rw [HSZ.out]; simp; omega, hd3, hb3, HF, HM2⟩
        case measure => show (t.extract rn t.size).size < t.size; rw [HSZ.out]; omega
    · have d38 : ((t[0].toNat : Int) == 38) = false := by
        rw [beq_eq_false_iff_ne]; intro e; exact h38 (UInt8.toNat_inj.1 (by have : (38 : UInt8).toNat = 38 := rfl; omega))
      have HF : Hid (unesc l = (unescF f (t.extract 1 t.size).toList).map ((u ++ [t[0]]) ++ ·)) := by
        rw [hr.out, HU2.out, if_neg h38, ext_toList, Option.map_map]
        unfold Hid
        congr 1
        funext x
        simp
      have HM2 : Hid (∀ c ∈ (t.extract 1 t.size).toList, (c = 60 ∨ c = 62 ∨ c = 34) ↔ c ∈ no) := by rw [ext_toList]; exact HMD.out 1
      have hsz : (t.extract 1 t.size).size = t.size - 1 := by rw [ByteArray.size_extract]; omega
      have HSZ := Lib.hid hsz
      have i2 : (1 : Int) ≤ (t.size : Int) := by omega
      clear hr HT2 HU2 hsz h38
      go_wp2_with fail
      refine (CI0.out _).mono ?_
      rintro e w3 ⟨rfl, rfl⟩
      go_wp2
      go_quiet (fail)
      go_wp2_with fail
      refine (writeByte_any bb u t[0] _ (hbd.drewN _) (by omega)).mono ?_
      rintro e w3 ⟨rfl, hd3, hk3⟩
      have hb3 := (below_drewN hbw _).trans (hk3.1.mono hbs)
      go_wp2
      go_roundw
      case rel => exact ⟨_, f, u ++ [t[0]], rfl, by rw [HSZ.out]; omega, by rw [HSZ.out]; simp; omega, hd3, hb3, HF, HM2⟩
      case measure => show (t.extract 1 t.size).size < t.size; rw [HSZ.out]; omega
end Go.Proofs.YtejjidbodfoiiaaGreatDoor
