/-
  Layer 33 (markup): the reader of the program: data.
-/
import Derived.Test.YtejjidbodfoiiaaGreatDoorMkRa
namespace Go.Proofs.YtejjidbodfoiiaaGreatDoor
open Go.RowKit
set_option linter.unusedVariables false
set_option linter.unusedSimpArgs false
attribute [local go_sem] B_data B_size

theorem nd_text (w : World) (S : Nat → Prop) (u : List UInt8) : NdAt w S (.mk [] u [] []) ⟨[], u, none, 0, 0, none, 0, 0⟩ :=
  ⟨rfl, rfl, ⟨rfl, fun h => absurd h (Nat.lt_irrefl 0)⟩, [], ⟨rfl, fun h => absurd h (Nat.lt_irrefl 0)⟩, rfl⟩
set_option maxHeartbeats 8000000 in
set_option maxRecDepth 100000 in
theorem data_any (rb : Nat) (s : ByteArray) (k : Nat) (kid : Bool) (w : World) (h : Rx w rb s k) (hk : k ≤ s.size) (hs : s.size ≤ 1000000000) :
    Calls Tryz.prog 104 #[.pointer (some ⟨rb, 0, none⟩), .bool kid] w (NPost rb s (pData kid (s.toList.drop k)) w) := by
  have hW : Bx (w.alloc (.cells #[.string ⟨#[]⟩, .string ⟨#[]⟩, .slice none 0 0, .slice none 0 0] 65)) w.heap.size nc0 := heap_alloc_new w _
  have hRW := h.alloc (.cells #[.string ⟨#[]⟩, .string ⟨#[]⟩, .slice none 0 0, .slice none 0 0] 65)
  have hgW := grown_alloc (grown_refl w (some rb)) (.cells #[.string ⟨#[]⟩, .string ⟨#[]⟩, .slice none 0 0, .slice none 0 0] 65)
  have hlt := h.lt
  have hrn : rb < w.heap.size := hlt
  have b0 := hRW.c0
  have b1 := hRW.c1
  have i1 : (0 : Int) ≤ (k : Int) := by omega
  have i2 : (k : Int) ≤ (s.size : Int) := by omega
  have ex : s.extract k s.size = B (s.toList.drop k) := B_drop s k
  have hdl : k + (s.toList.drop k).length ≤ s.size := by rw [drop_len s k]; omega
  have CI := Lib.hid (fun V => ibyte_any (s.toList.drop k) 60 (by omega) V)
  rw [show idxP (fun b => b != UInt8.ofNat 60) (s.toList.drop k) = idxP notL (s.toList.drop k) from rfl] at CI
  have HDD := Lib.hid (fun n => (List.drop_drop (i := k) (j := n) (l := s.toList)))
  have HP : Hid (pData kid (s.toList.drop k) = if (s.toList.drop k).dropWhile notL = [] ∧ kid = true then .error 4 else match pText ((s.toList.drop k).takeWhile notL) with | .error e => .error e | .ok u => .ok (.mk [] u [] [], (s.toList.drop k).dropWhile notL)) := rfl
  have htw := tw_len notL (s.toList.drop k)
  obtain ⟨tw1, tw2⟩ := tw_take notL (s.toList.drop k)
  have HTW1 := Lib.hid tw1
  have HTW2 := Lib.hid tw2
  have CU := Lib.hid (fun V => unescape_any ((s.toList.drop k).takeWhile notL) [62, 34] V (by omega) (take_noL _))
  clear tw1 tw2
  have hD : DI w rb s k (w.alloc (.cells #[.string ⟨#[]⟩, .string ⟨#[]⟩, .slice none 0 0, .slice none 0 0] 65)) := ⟨hRW, hW, hgW⟩
  clear hRW hW hgW
  have HXT : Hid ((B (s.toList.drop k)).extract 0 ((s.toList.drop k).takeWhile notL).length = B ((s.toList.drop k).takeWhile notL)) := by rw [B_take, B_data, HTW1.out]; rfl
  have HDD2 : Hid (s.toList.drop (k + ((s.toList.drop k).takeWhile notL).length) = (s.toList.drop k).dropWhile notL) := by rw [← List.drop_drop, HTW2.out]; rfl
  by_cases hdw : (s.toList.drop k).dropWhile notL = []
  · have hi : idxP notL (s.toList.drop k) = -1 := by unfold idxP; rw [if_pos hdw]
    have hll : ((s.toList.drop k).takeWhile notL).length = (s.toList.drop k).length := by
      have := @List.takeWhile_append_dropWhile _ notL (s.toList.drop k)
      rw [hdw, List.append_nil] at this
      rw [this]
    rw [hi] at CI
    cases kid
    · have HP2 : Hid (pData false (s.toList.drop k) = match pText ((s.toList.drop k).takeWhile notL) with | .error e => .error e | .ok u => .ok (.mk [] u [] [], s.toList.drop (k + ((s.toList.drop k).takeWhile notL).length))) := by rw [HP.out, if_neg (by simp), HDD2.out]; rfl
      have htl : (s.toList.drop k).takeWhile notL = s.toList.drop k := by
        have := @List.takeWhile_append_dropWhile _ notL (s.toList.drop k)
        rw [hdw, List.append_nil] at this
        exact this
      rw [htl] at HP2 HXT CU
      clear HP hi hdw hll HTW1 HTW2 HDD HDD2 htw htl
      generalize s.toList.drop k = l at *
      have hxt := HXT.out
      go_enter Tryz.func104, Tryz.ntmps104
      go_wp2
      go_quiet (fail)
      rename_i nq
      have hDV : DI w rb s k ((w.alloc (.cells #[.string ⟨#[]⟩, .string ⟨#[]⟩, .slice none 0 0, .slice none 0 0] 65)).drewN nq) := ⟨hD.r, hD.p, grown_drewN hD.g nq⟩
      go_wp2_with fail
      refine (CI.out _).mono ?_
      rintro e w2 ⟨rfl, rfl⟩
      cases ht : pText l with
      | error x =>
        have HX : Hid (pData false l = .error x) := by rw [HP2.out, ht]; rfl
        have hx0 := pText_err ht
        have z1 : (x != 0) = true := by simpa using hx0
        have z2 : (x == 0) = false := by simpa using hx0
        rw [ht] at CU
        clear ht HP2 hx0
        go_wp2_with fail
        refine (CU.out _).mono ?_
        rintro e w2 ⟨hb2, rfl⟩
        have hD2 := hDV.step hb2
        clear hDV hb2
        have p0 := hD2.p.c0
        have p1 := hD2.p.c1
        have p2 := hD2.p.c2
        have p3 := hD2.p.c3
        have pf0 := hD2.p.ff (i := 0)
        have pf1 := hD2.p.ff (i := 1)
        have pf2 := hD2.p.ff (i := 2)
        have pf3 := hD2.p.ff (i := 3)
        go_wp2
        refine bodyPost_ret (v := .tuple #[.agg #[.string ⟨#[]⟩, .string ⟨#[]⟩, .slice none 0 0, .slice none 0 0], .int .i64 x]) (by simp [results, Tryz.results104, go_sem, p0, p1, p2, p3]) rfl ?_
        unfold NPost
        rw [HX.out]
        exact ⟨grown_set4 hD2.g (Nat.le_refl _), nc0, rfl⟩
      | ok u =>
        have HX : Hid (pData false l = .ok (.mk [] u [] [], s.toList.drop (k + l.length))) := by rw [HP2.out, ht]; rfl
        rw [ht] at CU
        clear ht HP2
        go_wp2_with fail
        refine (CU.out _).mono ?_
        rintro e w2 ⟨hb2, rfl⟩
        have hD2 := hDV.step hb2
        clear hDV hb2
        have hR4 := hD2.r.set (m := k + l.length)
        have g4 := grown_trans hD2.g (grown_setC _ rb 1 (.int .i64 ((k + l.length : Nat) : Int)))
        have hP4 : Bx _ w.heap.size nc0 := (blk_set (w := _) (c := rb) (i := 1) (u := .int .i64 ((k + l.length : Nat) : Int)) (show rb ≠ w.heap.size by omega)).trans hD2.p
        have c1 := hD2.r.c1
        have cf := hD2.r.f1
        have eI : ((k + l.length : Nat) : Int) = (k : Int) + (l.length : Int) := by omega
        rw [eI] at hR4 g4 hP4
        have p0 := hP4.c0
        have p1 := hP4.c1
        have p2 := hP4.c2
        have p3 := hP4.c3
        have pf0 := hP4.ff (i := 0)
        have pf1 := hP4.ff (i := 1)
        have pf2 := hP4.ff (i := 2)
        have pf3 := hP4.ff (i := 3)
        have hne : w.heap.size ≠ rb := by omega
        clear hD2 eI b0 b1
        go_wp2
        refine bodyPost_ret (v := .tuple #[.agg #[.string ⟨#[]⟩, .string (B u), .slice none 0 0, .slice none 0 0], .int .i64 0]) (by simp [results, Tryz.results104, go_sem, p0, p1, p2, p3]) rfl ?_
        unfold NPost
        rw [HX.out]
        exact ⟨grown_set4 g4 (Nat.le_refl _), ⟨[], u, none, 0, 0, none, 0, 0⟩, rfl, nd_text _ _ u, _, (blk_set4 hne).trans hR4, rfl, by omega⟩

    · have HX : Hid (pData true (s.toList.drop k) = .error 4) := by rw [HP.out, if_pos ⟨hdw, rfl⟩]; rfl
      clear HP hi hdw hll HTW1 HTW2 HDD HDD2 HXT
      generalize (s.toList.drop k).takeWhile notL = tx at *
      generalize s.toList.drop k = l at *
      go_enter Tryz.func104, Tryz.ntmps104
      go_wp2
      go_quiet (fail)
      rename_i nq
      have hDV : DI w rb s k ((w.alloc (.cells #[.string ⟨#[]⟩, .string ⟨#[]⟩, .slice none 0 0, .slice none 0 0] 65)).drewN nq) := ⟨hD.r, hD.p, grown_drewN hD.g nq⟩
      go_wp2_with fail
      refine (CI.out _).mono ?_
      rintro e w2 ⟨rfl, rfl⟩
      have p0 := hDV.p.c0
      have p1 := hDV.p.c1
      have p2 := hDV.p.c2
      have p3 := hDV.p.c3
      go_wp2
      refine bodyPost_ret (v := .tuple #[.agg #[.string ⟨#[]⟩, .string ⟨#[]⟩, .slice none 0 0, .slice none 0 0], .int .i64 4]) (by simp [results, Tryz.results104, go_sem, p0, p1, p2, p3]) rfl ?_
      unfold NPost
      rw [HX.out]
      exact ⟨grown_set4 hDV.g (Nat.le_refl _), nc0, rfl⟩
  · have hi : idxP notL (s.toList.drop k) = (((s.toList.drop k).takeWhile notL).length : Int) := by unfold idxP; rw [if_neg hdw]
    rw [hi] at CI
    have HP2 : Hid (pData kid (s.toList.drop k) = match pText ((s.toList.drop k).takeWhile notL) with | .error e => .error e | .ok u => .ok (.mk [] u [] [], s.toList.drop (k + ((s.toList.drop k).takeWhile notL).length))) := by rw [HP.out, if_neg (fun h => hdw h.1), HDD2.out]; rfl
    clear HP hi hdw HTW1 HTW2 HDD HDD2
    generalize (s.toList.drop k).takeWhile notL = tx at *
    generalize s.toList.drop k = l at *
    have hxt := HXT.out
    have i3 : (tx.length : Int) ≤ (l.length : Int) := by omega
    go_enter Tryz.func104, Tryz.ntmps104
    go_wp2
    go_quiet (fail)
    rename_i nq
    have hDV : DI w rb s k ((w.alloc (.cells #[.string ⟨#[]⟩, .string ⟨#[]⟩, .slice none 0 0, .slice none 0 0] 65)).drewN nq) := ⟨hD.r, hD.p, grown_drewN hD.g nq⟩
    go_wp2_with fail
    refine (CI.out _).mono ?_
    rintro e w2 ⟨rfl, rfl⟩
    cases ht : pText tx with
    | error x =>
      have HX : Hid (pData kid l = .error x) := by rw [HP2.out, ht]; rfl
      have hx0 := pText_err ht
      have z1 : (x != 0) = true := by simpa using hx0
      have z2 : (x == 0) = false := by simpa using hx0
      rw [ht] at CU
      clear ht HP2 hx0
      go_wp2_with fail
      refine (CU.out _).mono ?_
      rintro e w2 ⟨hb2, rfl⟩
      have hD2 := hDV.step hb2
      clear hDV hb2
      have p0 := hD2.p.c0
      have p1 := hD2.p.c1
      have p2 := hD2.p.c2
      have p3 := hD2.p.c3
      have pf0 := hD2.p.ff (i := 0)
      have pf1 := hD2.p.ff (i := 1)
      have pf2 := hD2.p.ff (i := 2)
      have pf3 := hD2.p.ff (i := 3)
      go_wp2
      refine bodyPost_ret (v := .tuple #[.agg #[.string ⟨#[]⟩, .string ⟨#[]⟩, .slice none 0 0, .slice none 0 0], .int .i64 x]) (by simp [results, Tryz.results104, go_sem, p0, p1, p2, p3]) rfl ?_
      unfold NPost
      rw [HX.out]
      exact ⟨grown_set4 hD2.g (Nat.le_refl _), nc0, rfl⟩
    | ok u =>
      have HX : Hid (pData kid l = .ok (.mk [] u [] [], s.toList.drop (k + tx.length))) := by rw [HP2.out, ht]; rfl
      rw [ht] at CU
      clear ht HP2
      go_wp2_with fail
      refine (CU.out _).mono ?_
      rintro e w2 ⟨hb2, rfl⟩
      have hD2 := hDV.step hb2
      clear hDV hb2
      have hR4 := hD2.r.set (m := k + tx.length)
      have g4 := grown_trans hD2.g (grown_setC _ rb 1 (.int .i64 ((k + tx.length : Nat) : Int)))
      have hP4 : Bx _ w.heap.size nc0 := (blk_set (w := _) (c := rb) (i := 1) (u := .int .i64 ((k + tx.length : Nat) : Int)) (show rb ≠ w.heap.size by omega)).trans hD2.p
      have c1 := hD2.r.c1
      have cf := hD2.r.f1
      have eI : ((k + tx.length : Nat) : Int) = (k : Int) + (tx.length : Int) := by omega
      rw [eI] at hR4 g4 hP4
      have p0 := hP4.c0
      have p1 := hP4.c1
      have p2 := hP4.c2
      have p3 := hP4.c3
      have pf0 := hP4.ff (i := 0)
      have pf1 := hP4.ff (i := 1)
      have pf2 := hP4.ff (i := 2)
      have pf3 := hP4.ff (i := 3)
      have hne : w.heap.size ≠ rb := by omega
      clear hD2 eI b0 b1
      go_wp2
      refine bodyPost_ret (v := .tuple #[.agg #[.string ⟨#[]⟩, .string (B u), .slice none 0 0, .slice none 0 0], .int .i64 0]) (by simp [results, Tryz.results104, go_sem, p0, p1, p2, p3]) rfl ?_
      unfold NPost
      rw [HX.out]
      exact ⟨grown_set4 g4 (Nat.le_refl _), ⟨[], u, none, 0, 0, none, 0, 0⟩, rfl, nd_text _ _ u, _, (blk_set4 hne).trans hR4, rfl, by omega⟩

end Go.Proofs.YtejjidbodfoiiaaGreatDoor
