/-
  Layer 33 (markup): the reader of the chapter: raw (printed by gen_mksc.py).
-/
import Derived.Test.YtejjidbodfoiiaaGreatDoorMkSab
import Derived.Test.YtejjidbodfoiiaaGreatDoorMkV
import Derived.Test.YtejjidbodfoiiaaGreatDoorMkKL
namespace Go.Proofs.YtejjidbodfoiiaaGreatDoor
open Go.RowKit
set_option linter.unusedVariables false
set_option linter.unusedSimpArgs false
attribute [local go_sem] B_data B_size
attribute [local go_sem ↓] Go.wp_at_zero Go.wp_at_succ

/-- what is known of an escaped text that has been read up to its byte j -/
def RwS (x : Int) (l : List UInt8) (j : Nat) (out : List UInt8) (x' : Int) : Prop :=
  (x ≠ 0 → x' = x) ∧ (x = 0 → (x' = 0 ∧ ∃ m, (l.drop j).length ≤ m ∧ unesc l = (unescF m (l.drop j)).map (out ++ ·)) ∨ (x' = 5 ∧ unesc l = none))
theorem RwS.start (x : Int) (l : List UInt8) : RwS x l 0 [] x := by
  refine ⟨fun _ => rfl, fun h => .inl ⟨h, l.length, Nat.le_refl _, ?_⟩⟩
  rw [List.drop_zero]
  unfold unesc
  cases unescF l.length l <;> rfl
theorem RwS.none5 {x : Int} {l : List UInt8} {j i : Nat} {out out' : List UInt8} {x' : Int} (h : RwS x l j out x') (hn : ∀ m, (l.drop j).length ≤ m → unescF m (l.drop j) = none) : RwS x l i out' (ferr x' 5) := by
  refine ⟨fun hx => ?_, fun hx => ?_⟩
  · have := h.1 hx
    rw [ferr_ne 5 (by omega)]; exact this
  · rcases h.2 hx with ⟨h0, m, hm, he⟩ | ⟨h5, he⟩
    · rw [h0, ferr_zero]
      exact .inr ⟨rfl, by rw [he, hn m hm]; rfl⟩
    · rw [ferr_ne 5 (by omega)]
      exact .inr ⟨h5, he⟩
theorem drop_get_cons {l : List UInt8} {j : Nat} {c : UInt8} (h : l[j]? = some c) : l.drop j = c :: l.drop (j + 1) := by
  obtain ⟨hj, e⟩ := List.getElem?_eq_some_iff.1 h
  rw [List.drop_eq_getElem_cons hj, e]
theorem RwS.bad {x : Int} {l : List UInt8} {j i : Nat} {out out' : List UInt8} {x' : Int} {c : UInt8} (h : RwS x l j out x') (hj : l[j]? = some c) (hc : c = 60 ∨ c = 62 ∨ c = 34) : RwS x l i out' (ferr x' 5) :=
  h.none5 fun m hm => by
    rw [drop_get_cons hj] at hm ⊢
    cases m with
    | zero => simp at hm
    | succ m => rw [unescF, if_pos hc]
theorem RwS.ampBad {x : Int} {l : List UInt8} {j i : Nat} {out out' : List UInt8} {x' : Int} (h : RwS x l j out x') (hj : l[j]? = some 38) (hr : (repl (l.drop j)).1 = 0) : RwS x l i out' (ferr x' 5) :=
  h.none5 fun m hm => by
    rw [drop_get_cons hj] at hm hr ⊢
    cases m with
    | zero => simp at hm
    | succ m => rw [unescF, if_neg (by decide), if_pos rfl, if_pos hr]
theorem RwS.step {x : Int} {l : List UInt8} {j n : Nat} {out : List UInt8} {x' : Int} {b : UInt8} (h : RwS x l j out x') (hn : ∀ m, (l.drop j).length ≤ m → ∃ m', (l.drop (j + n)).length ≤ m' ∧ unescF m (l.drop j) = (unescF m' (l.drop (j + n))).map (b :: ·)) : RwS x l (j + n) (out ++ [b]) x' := by
  refine ⟨h.1, fun hx => ?_⟩
  rcases h.2 hx with ⟨h0, m, hm, he⟩ | h5
  · obtain ⟨m', hm', he'⟩ := hn m hm
    refine .inl ⟨h0, m', hm', ?_⟩
    rw [he, he', Option.map_map]
    congr 1
    funext z
    simp
  · exact .inr h5
theorem RwS.plain {x : Int} {l : List UInt8} {j : Nat} {out : List UInt8} {x' : Int} {c : UInt8} (h : RwS x l j out x') (hj : l[j]? = some c) (hc : ¬ (c = 60 ∨ c = 62 ∨ c = 34)) (h38 : c ≠ 38) : RwS x l (j + 1) (out ++ [c]) x' :=
  h.step fun m hm => by
    rw [drop_get_cons hj] at hm ⊢
    cases m with
    | zero => simp at hm
    | succ m => exact ⟨m, by simpa using hm, by rw [unescF, if_neg hc, if_neg h38]⟩
theorem RwS.amp {x : Int} {l : List UInt8} {j n : Nat} {out : List UInt8} {x' : Int} {b : UInt8} (h : RwS x l j out x') (hj : l[j]? = some 38) (hr : repl (l.drop j) = (n, b)) (hn : n ≠ 0) : RwS x l (j + n) (out ++ [b]) x' :=
  h.step fun m hm => by
    have hd : l.drop (j + n) = (l.drop j).drop n := by rw [List.drop_drop]
    rw [hd]
    rw [drop_get_cons hj] at hm hr ⊢
    cases m with
    | zero => simp at hm
    | succ m =>
      refine ⟨m, ?_, ?_⟩
      · rw [List.length_drop]
        omega
      · rw [unescF, if_neg (by decide), if_pos rfl, hr, if_neg hn]
theorem RwS.done {x : Int} {l : List UInt8} {out : List UInt8} {x' : Int} (h : RwS x l l.length out x') : (x ≠ 0 → x' = x) ∧ (x = 0 → match unesc l with
    | some v => x' = 0 ∧ out = v
    | none => x' = 5) := by
  refine ⟨h.1, fun hx => ?_⟩
  rcases h.2 hx with ⟨h0, m, hm, he⟩ | ⟨h5, he⟩
  · rw [List.drop_length] at he
    have : unescF m [] = some [] := by cases m <;> rfl
    rw [this] at he
    rw [he]
    exact ⟨h0, by simp⟩
  · rw [he]
    exact h5
def wordL : Nat → List UInt8
  | 0 => [38, 97, 109, 112, 59]
  | 1 => [38, 108, 116, 59]
  | 2 => [38, 103, 116, 59]
  | 3 => [38, 113, 117, 111, 116, 59]
  | _ => [0]
/-- the search among the four words -/
def RwQ (l : List UInt8) (j tt : Nat) (i b f : Value) : Prop :=
  (f = .bool false ∧ b = .int .u8 38 ∧ i = .int .i64 (j : Int) ∧ ∀ q, q < tt → ¬ wordL q <+: l.drop j) ∨
  ∃ (n : Nat) (c : UInt8), f = .bool true ∧ b = .int .u8 (c.toNat : Int) ∧ i = .int .i64 ((j : Int) + (n : Int) - 1) ∧ repl (l.drop j) = (n, c) ∧ n ≠ 0 ∧ j + n ≤ l.length
/-- what is known while raw runs -/
structure RwI (w : World) (rb : Nat) (s : ByteArray) (k : Nat) (x : Int) (out : List UInt8) (v : Value) (W : World) : Prop where
  r : Ry W rb s k x
  wd : W.heap[w.heap.size]? = some (.cells #[.string ⟨#[38, 97, 109, 112, 59]⟩, .string ⟨#[38, 108, 116, 59]⟩, .string ⟨#[38, 103, 116, 59]⟩, .string ⟨#[38, 113, 117, 111, 116, 59]⟩] 9 (0, 0))
  bt : W.heap[w.heap.size + 1]? = some (.cells #[.int .u8 38, .int .u8 60, .int .u8 62, .int .u8 34] 5 (0, 0))
  own : W.ownsRow (w.heap.size + 2) 5 1 v out.length (u8s out)
  g : w.grownBy W (some rb)
  o : rb < w.heap.size
  lb : w.heap.size + 2 ≤ W.heap.size
theorem RwI.grow {w : World} {rb : Nat} {s : ByteArray} {k k' : Nat} {x x' : Int} {out : List UInt8} {v : Value} {W W' : World} (h : RwI w rb s k x out v W) (hg : W.grownBy W' (some rb)) (hr : Ry W' rb s k' x') : RwI w rb s k' x' out v W' := by
  have ho := h.o
  have hl := h.lb
  exact ⟨hr, (hg.block _ (by omega) (fun e => by injection e with e; omega)).trans h.wd, (hg.block _ (by omega) (fun e => by injection e with e; omega)).trans h.bt, own_grown h.own hg (by omega), grown_trans h.g hg, ho, Nat.le_trans hl hg.size⟩
theorem RwI.drewN {w : World} {rb : Nat} {s : ByteArray} {k : Nat} {x : Int} {out : List UInt8} {v : Value} {W : World} (h : RwI w rb s k x out v W) (n : Nat) : RwI w rb s k x out v (W.drewN n) := h.grow (grown_drewN (grown_refl _ _) n) h.r
theorem RwI.app {w : World} {rb : Nat} {s : ByteArray} {k : Nat} {x : Int} {out : List UInt8} {v v' : Value} {c : UInt8} {W W2 : World} (h : RwI w rb s k x out v W) (ho : W2.ownsRow (w.heap.size + 2) 5 1 v' (out.length + 1) (u8s out ++ [.int .u8 (c.toNat : Int)])) (hb : Below (w.heap.size + 2) W W2) : RwI w rb s k x (out ++ [c]) v' W2 := by
  have o := h.o
  have e2 : u8s out ++ [.int .u8 (c.toNat : Int)] = u8s (out ++ [c]) := by rw [u8s_app]; rfl
  have e3 : out.length + 1 = (out ++ [c]).length := by simp
  rw [e2, e3] at ho
  have hg : w.grownBy W2 (some rb) := ⟨hb.os.trans h.g.os, hb.tape.trans h.g.tape, hb.output.trans h.g.output, Nat.le_trans h.g.size (Nat.le_trans (by have := h.lb; omega) hb.size), fun i hi hne => (hb.block i (by omega)).trans (h.g.block i hi hne)⟩
  exact ⟨h.r.below hb (by omega), (hb.block _ (by omega)).trans h.wd, (hb.block _ (by omega)).trans h.bt, ho, hg, o, Nat.le_trans h.lb hb.size⟩
def RwPost (rb : Nat) (s : ByteArray) (k : Nat) (x : Int) (l : List UInt8) (w : World) (e : Ending) (w' : World) : Prop := ∃ (u : List UInt8) (x' : Int), e = .returned (.string (B u)) ∧ w.grownBy w' (some rb) ∧ Ry w' rb s k x' ∧ (x ≠ 0 → x' = x) ∧ (x = 0 → match unesc l with
    | some v => x' = 0 ∧ u = v
    | none => x' = 5)
set_option maxHeartbeats 16000000 in
set_option maxRecDepth 100000 in
theorem raw_any (rb : Nat) (s : ByteArray) (k : Nat) (x : Int) (l : List UInt8) (w : World) (h : Ry w rb s k x) (hl : l.length ≤ 1000000000) :
    Calls Tryz.prog 139 #[.pointer (some ⟨rb, 0, none⟩), .string (B l)] w (RwPost rb s k x l w) := by
  have hlt := h.lt
  have hw1 := heap_alloc_new w (.cells #[.string ⟨#[38, 97, 109, 112, 59]⟩, .string ⟨#[38, 108, 116, 59]⟩, .string ⟨#[38, 103, 116, 59]⟩, .string ⟨#[38, 113, 117, 111, 116, 59]⟩] 9)
  have hb1 := below_alloc w (.cells #[.string ⟨#[38, 97, 109, 112, 59]⟩, .string ⟨#[38, 108, 116, 59]⟩, .string ⟨#[38, 103, 116, 59]⟩, .string ⟨#[38, 113, 117, 111, 116, 59]⟩] 9)
  have hw2 := heap_alloc_new (w.alloc (.cells #[.string ⟨#[38, 97, 109, 112, 59]⟩, .string ⟨#[38, 108, 116, 59]⟩, .string ⟨#[38, 103, 116, 59]⟩, .string ⟨#[38, 113, 117, 111, 116, 59]⟩] 9)) (.cells #[.int .u8 38, .int .u8 60, .int .u8 62, .int .u8 34] 5)
  have hb2 := below_alloc (w.alloc (.cells #[.string ⟨#[38, 97, 109, 112, 59]⟩, .string ⟨#[38, 108, 116, 59]⟩, .string ⟨#[38, 103, 116, 59]⟩, .string ⟨#[38, 113, 117, 111, 116, 59]⟩] 9)) (.cells #[.int .u8 38, .int .u8 60, .int .u8 62, .int .u8 34] 5)
  rw [show (w.alloc (.cells #[.string ⟨#[38, 97, 109, 112, 59]⟩, .string ⟨#[38, 108, 116, 59]⟩, .string ⟨#[38, 103, 116, 59]⟩, .string ⟨#[38, 113, 117, 111, 116, 59]⟩] 9)).heap.size = w.heap.size + 1 from by simp] at hw2
  have hI : RwI w rb s k x [] (.slice none 0 0) ((w.alloc (.cells #[.string ⟨#[38, 97, 109, 112, 59]⟩, .string ⟨#[38, 108, 116, 59]⟩, .string ⟨#[38, 103, 116, 59]⟩, .string ⟨#[38, 113, 117, 111, 116, 59]⟩] 9)).alloc (.cells #[.int .u8 38, .int .u8 60, .int .u8 62, .int .u8 34] 5)) :=
    ⟨(h.alloc _).alloc _, (hb2.block _ (by simp)).trans hw1, hw2, ⟨rfl, .inl ⟨rfl, rfl⟩⟩, grown_alloc (grown_alloc (grown_refl _ _) _) _, hlt, by simp⟩
  clear hw1 hw2 hb1 hb2 h
  go_enter Tryz.func139, Tryz.ntmps139
  go_wp2
  generalize (w.alloc (.cells #[.string ⟨#[38, 97, 109, 112, 59]⟩, .string ⟨#[38, 108, 116, 59]⟩, .string ⟨#[38, 103, 116, 59]⟩, .string ⟨#[38, 113, 117, 111, 116, 59]⟩] 9)).alloc (.cells #[.int .u8 38, .int .u8 60, .int .u8 62, .int .u8 34] 5) = W at *
  go_loopw [5, 8] (fun v i wr => ∃ (j : Nat) (out : List UInt8) (x' : Int), j ≤ l.length ∧ i = .int .i64 j ∧ out.length ≤ j ∧ RwI w rb s k x' out v wr ∧ Hid (RwS x l j out x')) (fun _ i _ => l.length - (intOf i).toNat)
  case atStart => exact ⟨0, [], x, Nat.zero_le _, rfl, by simp, hI, RwS.start x l⟩
  case round =>
    obtain ⟨j, out, x', hj, rfl, hol, hI, hst⟩ := hrel
    obtain ⟨A, c, hv, hnc⟩ := own_form hI.own
    subst hv
    have hlb := hI.lb
    have ho := hI.o
    by_cases hjl : j < l.length
    · have d0 : decide (j < l.length) = true := by simpa using hjl
      have hget : l[j]? = some l[j] := List.getElem?_eq_getElem hjl
      have HG := Lib.hid hget
      have hbj : (B l)[j]'(by rw [B_size]; exact hjl) = l[j] := rfl
      generalize l[j] = q at *
      clear hget

      by_cases h60 : q = 60
      · subst h60
        have HN := Lib.hid (hst.out.bad (i := j + 1) (out' := out ++ [60]) HG.out (by decide))
        have e0 : (((60 : UInt8).toNat : Int) == 60) = true := rfl
        have e1 : (((60 : UInt8).toNat : Int) == 38) = false := rfl
        have CF := Lib.hid (fail_any rb s k x' 5 wr hI.r)
        clear hst HG
        go_wp2_with fail
        refine CF.out.mono ?_
        rintro e w2 ⟨rfl, hg2, hR2⟩
        have hI2 := hI.grow hg2 hR2
        clear CF hI hg2 hR2
        go_wp2_with (at_builtin; (refine wpList_app2 rfl (.tmp 88) (.tmp 90) 108 rfl 5 (.int .u8 0) 1 1 Tryz.underlying108 Tryz.infoByte rfl (by omega) w2 [.int .u8 (60)] rfl (by simp; rfl) (w.heap.size + 2) (.slice A out.length c) out.length (u8s out) hI2.own rfl ?c1 (by omega) (by omega) hI2.lb ?_))
        case c1 => rfl
        intro v' w3 hown3 hg3 hb3 hat3
        have hI3 := hI2.app (c := 60) hown3 hb3
        clear hI2 hown3 hg3 hb3 hat3
        go_wp2
        go_roundw
        case rel => exact ⟨j + 1, out ++ [60], _, by omega, by go_num, by rw [List.length_append]; show out.length + 1 ≤ j + 1; omega, hI3, HN⟩
        case measure => simp [intOf]; omega
      by_cases h62 : q = 62
      · subst h62
        have HN := Lib.hid (hst.out.bad (i := j + 1) (out' := out ++ [62]) HG.out (by decide))
        have e0 : (((62 : UInt8).toNat : Int) == 60) = false := rfl
        have e1 : (((62 : UInt8).toNat : Int) == 62) = true := rfl
        have e2 : (((62 : UInt8).toNat : Int) == 38) = false := rfl
        have CF := Lib.hid (fail_any rb s k x' 5 wr hI.r)
        clear hst HG
        go_wp2_with fail
        refine CF.out.mono ?_
        rintro e w2 ⟨rfl, hg2, hR2⟩
        have hI2 := hI.grow hg2 hR2
        clear CF hI hg2 hR2
        go_wp2_with (at_builtin; (refine wpList_app2 rfl (.tmp 88) (.tmp 90) 108 rfl 5 (.int .u8 0) 1 1 Tryz.underlying108 Tryz.infoByte rfl (by omega) w2 [.int .u8 (62)] rfl (by simp; rfl) (w.heap.size + 2) (.slice A out.length c) out.length (u8s out) hI2.own rfl ?c2 (by omega) (by omega) hI2.lb ?_))
        case c2 => rfl
        intro v' w3 hown3 hg3 hb3 hat3
        have hI3 := hI2.app (c := 62) hown3 hb3
        clear hI2 hown3 hg3 hb3 hat3
        go_wp2
        go_roundw
        case rel => exact ⟨j + 1, out ++ [62], _, by omega, by go_num, by rw [List.length_append]; show out.length + 1 ≤ j + 1; omega, hI3, HN⟩
        case measure => simp [intOf]; omega
      by_cases h34 : q = 34
      · subst h34
        have HN := Lib.hid (hst.out.bad (i := j + 1) (out' := out ++ [34]) HG.out (by decide))
        have e0 : (((34 : UInt8).toNat : Int) == 60) = false := rfl
        have e1 : (((34 : UInt8).toNat : Int) == 62) = false := rfl
        have e2 : (((34 : UInt8).toNat : Int) == 34) = true := rfl
        have e3 : (((34 : UInt8).toNat : Int) == 38) = false := rfl
        have CF := Lib.hid (fail_any rb s k x' 5 wr hI.r)
        clear hst HG
        go_wp2_with fail
        refine CF.out.mono ?_
        rintro e w2 ⟨rfl, hg2, hR2⟩
        have hI2 := hI.grow hg2 hR2
        clear CF hI hg2 hR2
        go_wp2_with (at_builtin; (refine wpList_app2 rfl (.tmp 88) (.tmp 90) 108 rfl 5 (.int .u8 0) 1 1 Tryz.underlying108 Tryz.infoByte rfl (by omega) w2 [.int .u8 (34)] rfl (by simp; rfl) (w.heap.size + 2) (.slice A out.length c) out.length (u8s out) hI2.own rfl ?c3 (by omega) (by omega) hI2.lb ?_))
        case c3 => rfl
        intro v' w3 hown3 hg3 hb3 hat3
        have hI3 := hI2.app (c := 34) hown3 hb3
        clear hI2 hown3 hg3 hb3 hat3
        go_wp2
        go_roundw
        case rel => exact ⟨j + 1, out ++ [34], _, by omega, by go_num, by rw [List.length_append]; show out.length + 1 ≤ j + 1; omega, hI3, HN⟩
        case measure => simp [intOf]; omega
      have e0 : ((q.toNat : Int) == 60) = false := by rw [beq_eq_false_iff_ne]; intro e; exact h60 (UInt8.toNat_inj.1 (show q.toNat = 60 from by omega))
      have e1 : ((q.toNat : Int) == 62) = false := by rw [beq_eq_false_iff_ne]; intro e; exact h62 (UInt8.toNat_inj.1 (show q.toNat = 62 from by omega))
      have e2 : ((q.toNat : Int) == 34) = false := by rw [beq_eq_false_iff_ne]; intro e; exact h34 (UInt8.toNat_inj.1 (show q.toNat = 34 from by omega))
      by_cases h38n : ¬ q = 38
      · have h38 := h38n
        have HN := Lib.hid (hst.out.plain HG.out (by simp [h60, h62, h34]) h38)
        have e3 : ((q.toNat : Int) == 38) = false := by rw [beq_eq_false_iff_ne]; intro e; exact h38 (UInt8.toNat_inj.1 (show q.toNat = 38 from by omega))
        clear hst HG
        go_wp2_with (at_builtin; (refine wpList_app2 rfl (.tmp 88) (.tmp 90) 108 rfl 5 (.int .u8 0) 1 1 Tryz.underlying108 Tryz.infoByte rfl (by omega) wr [.int .u8 ((q.toNat : Int))] rfl (by simp; rfl) (w.heap.size + 2) (.slice A out.length c) out.length (u8s out) hI.own rfl ?c4 (by omega) (by omega) hI.lb ?_))
        case c4 => rfl
        intro v' w3 hown3 hg3 hb3 hat3
        have hI3 := hI.app hown3 hb3
        clear hI hown3 hg3 hb3 hat3
        go_wp2
        go_roundw
        case rel => exact ⟨j + 1, out ++ [q], _, by omega, by go_num, by rw [List.length_append]; show out.length + 1 ≤ j + 1; omega, hI3, HN⟩
        case measure => simp [intOf]; omega
      have h38 := Classical.not_not.1 h38n
      clear h38n
      subst h38
      have e3 : (((38 : UInt8).toNat : Int) == 38) = true := rfl
      have e4 : ((38 : UInt8).toNat : Int) = 38 := rfl
      clear e0 e1 e2 h60 h62 h34
      have hdl : (l.drop j).length = l.length - j := List.length_drop
      have HREP : Hid (repl (l.drop j) = if [38, 97, 109, 112, 59] <+: l.drop j then (5, 38) else if [38, 108, 116, 59] <+: l.drop j then (4, 60) else if [38, 103, 116, 59] <+: l.drop j then (4, 62) else if [38, 113, 117, 111, 116, 59] <+: l.drop j then (6, 34) else (0, 0)) := rfl
      have HEX := Lib.hid (fun m => (show (B l).extract j (j + m) = B ((l.drop j).take m) from by rw [B_extract, B_data, List.drop_take, Nat.add_sub_cancel_left]))
      have HDL := Lib.hid hdl
      clear hdl
      go_wp2
      rename World => wo
      rename RwI w rb s k x' out (.slice A out.length c) wo => hIo
      go_loopw [8, 9, 10, 11] (fun i b f t wr => ∃ tt : Nat, tt ≤ 4 ∧ t = .int .i64 (tt : Int) ∧ RwI w rb s k x' out (.slice A out.length c) wr ∧ RwQ l j tt i b f) (fun _ _ _ t _ => 4 - (intOf t).toNat)
      case atStart => exact ⟨0, by omega, rfl, hIo, .inl ⟨rfl, rfl, rfl, fun q hq => absurd hq (Nat.not_lt_zero q)⟩⟩
      case round =>
        obtain ⟨tt, htt, rfl, hI, hq⟩ := hrel
        have hlb := hI.lb
        have w0 : wr.cell? ⟨w.heap.size, 0, none⟩ = some (.string ⟨#[38, 97, 109, 112, 59]⟩) := by simp [World.cell?, hI.wd]
        have y0 : wr.cell? ⟨w.heap.size + 1, 0, none⟩ = some (.int .u8 38) := by simp [World.cell?, hI.bt]
        have w1 : wr.cell? ⟨w.heap.size, 1, none⟩ = some (.string ⟨#[38, 108, 116, 59]⟩) := by simp [World.cell?, hI.wd]
        have y1 : wr.cell? ⟨w.heap.size + 1, 1, none⟩ = some (.int .u8 60) := by simp [World.cell?, hI.bt]
        have w2 : wr.cell? ⟨w.heap.size, 2, none⟩ = some (.string ⟨#[38, 103, 116, 59]⟩) := by simp [World.cell?, hI.wd]
        have y2 : wr.cell? ⟨w.heap.size + 1, 2, none⟩ = some (.int .u8 62) := by simp [World.cell?, hI.bt]
        have w3 : wr.cell? ⟨w.heap.size, 3, none⟩ = some (.string ⟨#[38, 113, 117, 111, 116, 59]⟩) := by simp [World.cell?, hI.wd]
        have y3 : wr.cell? ⟨w.heap.size + 1, 3, none⟩ = some (.int .u8 34) := by simp [World.cell?, hI.bt]
        rcases hq with ⟨rfl, rfl, rfl, hno⟩ | ⟨n, b, rfl, rfl, rfl, hrn⟩
        · have HNO := Lib.hid hno
          clear hno
          by_cases ht0 : tt = 0
          · subst ht0
            have ws1 : IntKind.i64.wrap ((j : Int) + 5) = (j : Int) + 5 := IntWalk.i64_in _ (by omega)
            have ws2 : IntKind.i64.wrap ((j : Int) + 5 - 1) = (j : Int) + 4 := by rw [IntWalk.i64_in _ (by omega)]; omega
            have tn : ((j : Int) + 5).toNat = j + 5 := by omega
            by_cases hp : [38, 97, 109, 112, 59] <+: l.drop j
            · have hpl := hp.length_le
              rw [HDL.out] at hpl
              have hlen : j + 5 ≤ l.length := by simp only [List.length_cons, List.length_nil] at hpl; omega
              have d1 : decide ((j : Int) + 5 ≤ (l.length : Int)) = true := by simp; omega
              have ex : (B l).extract j (j + 5) = B [38, 97, 109, 112, 59] := by rw [HEX.out]; exact congrArg B (List.prefix_iff_eq_take.1 hp).symm
              have HR : Hid (repl (l.drop j) = (5, 38)) := by
                rw [HREP.out, if_pos hp]; rfl
              have i1 : (0 : Int) ≤ (j : Int) := by omega
              have i2 : (j : Int) ≤ (j : Int) + 5 := by omega
              have i3 : (j : Int) + 5 ≤ (l.length : Int) := by omega
              clear hp hpl
              go_wp2
              go_quiet (fail)
              go_wp2
              go_roundw
              case rel => exact ⟨1, by omega, by go_num, hI.drewN _, .inr ⟨5, 38, rfl, rfl, by go_num, HR.out, by omega, hlen⟩⟩
              case measure => simp [intOf]
            · have HNO2 : Hid (∀ q, q < 1 → ¬ wordL q <+: l.drop j) := by
                intro q hq
                by_cases hqt : q = 0
                · rw [hqt]; exact hp
                · exact HNO.out q (by omega)
              by_cases hlen : j + 5 ≤ l.length
              · have d1 : decide ((j : Int) + 5 ≤ (l.length : Int)) = true := by simp; omega
                have ex := HEX.out 5
                have hne : ((l.drop j).take 5 == [38, 97, 109, 112, 59]) = false := by
                  rw [beq_eq_false_iff_ne]
                  intro e
                  exact hp (by rw [← e]; exact List.take_prefix _ _)
                have i1 : (0 : Int) ≤ (j : Int) := by omega
                have i2 : (j : Int) ≤ (j : Int) + 5 := by omega
                have i3 : (j : Int) + 5 ≤ (l.length : Int) := by omega
                clear hp
                generalize (l.drop j).take 5 = z at *
                go_wp2
                go_quiet (fail)
                go_wp2
                go_roundw
                case rel => exact ⟨1, by omega, by go_num, hI.drewN _, .inl ⟨rfl, rfl, rfl, HNO2.out⟩⟩
                case measure => simp [intOf]
              · have d1 : decide ((j : Int) + 5 ≤ (l.length : Int)) = false := by simp; omega
                clear hp
                go_wp2
                go_quiet (fail)
                go_wp2
                go_roundw
                case rel => exact ⟨1, by omega, by go_num, hI.drewN _, .inl ⟨rfl, rfl, rfl, HNO2.out⟩⟩
                case measure => simp [intOf]
          by_cases ht1 : tt = 1
          · subst ht1
            have ws1 : IntKind.i64.wrap ((j : Int) + 4) = (j : Int) + 4 := IntWalk.i64_in _ (by omega)
            have ws2 : IntKind.i64.wrap ((j : Int) + 4 - 1) = (j : Int) + 3 := by rw [IntWalk.i64_in _ (by omega)]; omega
            have tn : ((j : Int) + 4).toNat = j + 4 := by omega
            by_cases hp : [38, 108, 116, 59] <+: l.drop j
            · have hpl := hp.length_le
              rw [HDL.out] at hpl
              have hlen : j + 4 ≤ l.length := by simp only [List.length_cons, List.length_nil] at hpl; omega
              have d1 : decide ((j : Int) + 4 ≤ (l.length : Int)) = true := by simp; omega
              have ex : (B l).extract j (j + 4) = B [38, 108, 116, 59] := by rw [HEX.out]; exact congrArg B (List.prefix_iff_eq_take.1 hp).symm
              have HR : Hid (repl (l.drop j) = (4, 60)) := by
                rw [HREP.out, if_neg (show ¬ [38, 97, 109, 112, 59] <+: l.drop j from HNO.out 0 (by omega)), if_pos hp]; rfl
              have i1 : (0 : Int) ≤ (j : Int) := by omega
              have i2 : (j : Int) ≤ (j : Int) + 4 := by omega
              have i3 : (j : Int) + 4 ≤ (l.length : Int) := by omega
              clear hp hpl
              go_wp2
              go_quiet (fail)
              go_wp2
              go_roundw
              case rel => exact ⟨2, by omega, by go_num, hI.drewN _, .inr ⟨4, 60, rfl, rfl, by go_num, HR.out, by omega, hlen⟩⟩
              case measure => simp [intOf]
            · have HNO2 : Hid (∀ q, q < 2 → ¬ wordL q <+: l.drop j) := by
                intro q hq
                by_cases hqt : q = 1
                · rw [hqt]; exact hp
                · exact HNO.out q (by omega)
              by_cases hlen : j + 4 ≤ l.length
              · have d1 : decide ((j : Int) + 4 ≤ (l.length : Int)) = true := by simp; omega
                have ex := HEX.out 4
                have hne : ((l.drop j).take 4 == [38, 108, 116, 59]) = false := by
                  rw [beq_eq_false_iff_ne]
                  intro e
                  exact hp (by rw [← e]; exact List.take_prefix _ _)
                have i1 : (0 : Int) ≤ (j : Int) := by omega
                have i2 : (j : Int) ≤ (j : Int) + 4 := by omega
                have i3 : (j : Int) + 4 ≤ (l.length : Int) := by omega
                clear hp
                generalize (l.drop j).take 4 = z at *
                go_wp2
                go_quiet (fail)
                go_wp2
                go_roundw
                case rel => exact ⟨2, by omega, by go_num, hI.drewN _, .inl ⟨rfl, rfl, rfl, HNO2.out⟩⟩
                case measure => simp [intOf]
              · have d1 : decide ((j : Int) + 4 ≤ (l.length : Int)) = false := by simp; omega
                clear hp
                go_wp2
                go_quiet (fail)
                go_wp2
                go_roundw
                case rel => exact ⟨2, by omega, by go_num, hI.drewN _, .inl ⟨rfl, rfl, rfl, HNO2.out⟩⟩
                case measure => simp [intOf]
          by_cases ht2 : tt = 2
          · subst ht2
            have ws1 : IntKind.i64.wrap ((j : Int) + 4) = (j : Int) + 4 := IntWalk.i64_in _ (by omega)
            have ws2 : IntKind.i64.wrap ((j : Int) + 4 - 1) = (j : Int) + 3 := by rw [IntWalk.i64_in _ (by omega)]; omega
            have tn : ((j : Int) + 4).toNat = j + 4 := by omega
            by_cases hp : [38, 103, 116, 59] <+: l.drop j
            · have hpl := hp.length_le
              rw [HDL.out] at hpl
              have hlen : j + 4 ≤ l.length := by simp only [List.length_cons, List.length_nil] at hpl; omega
              have d1 : decide ((j : Int) + 4 ≤ (l.length : Int)) = true := by simp; omega
              have ex : (B l).extract j (j + 4) = B [38, 103, 116, 59] := by rw [HEX.out]; exact congrArg B (List.prefix_iff_eq_take.1 hp).symm
              have HR : Hid (repl (l.drop j) = (4, 62)) := by
                rw [HREP.out, if_neg (show ¬ [38, 97, 109, 112, 59] <+: l.drop j from HNO.out 0 (by omega)), if_neg (show ¬ [38, 108, 116, 59] <+: l.drop j from HNO.out 1 (by omega)), if_pos hp]; rfl
              have i1 : (0 : Int) ≤ (j : Int) := by omega
              have i2 : (j : Int) ≤ (j : Int) + 4 := by omega
              have i3 : (j : Int) + 4 ≤ (l.length : Int) := by omega
              clear hp hpl
              go_wp2
              go_quiet (fail)
              go_wp2
              go_roundw
              case rel => exact ⟨3, by omega, by go_num, hI.drewN _, .inr ⟨4, 62, rfl, rfl, by go_num, HR.out, by omega, hlen⟩⟩
              case measure => simp [intOf]
            · have HNO2 : Hid (∀ q, q < 3 → ¬ wordL q <+: l.drop j) := by
                intro q hq
                by_cases hqt : q = 2
                · rw [hqt]; exact hp
                · exact HNO.out q (by omega)
              by_cases hlen : j + 4 ≤ l.length
              · have d1 : decide ((j : Int) + 4 ≤ (l.length : Int)) = true := by simp; omega
                have ex := HEX.out 4
                have hne : ((l.drop j).take 4 == [38, 103, 116, 59]) = false := by
                  rw [beq_eq_false_iff_ne]
                  intro e
                  exact hp (by rw [← e]; exact List.take_prefix _ _)
                have i1 : (0 : Int) ≤ (j : Int) := by omega
                have i2 : (j : Int) ≤ (j : Int) + 4 := by omega
                have i3 : (j : Int) + 4 ≤ (l.length : Int) := by omega
                clear hp
                generalize (l.drop j).take 4 = z at *
                go_wp2
                go_quiet (fail)
                go_wp2
                go_roundw
                case rel => exact ⟨3, by omega, by go_num, hI.drewN _, .inl ⟨rfl, rfl, rfl, HNO2.out⟩⟩
                case measure => simp [intOf]
              · have d1 : decide ((j : Int) + 4 ≤ (l.length : Int)) = false := by simp; omega
                clear hp
                go_wp2
                go_quiet (fail)
                go_wp2
                go_roundw
                case rel => exact ⟨3, by omega, by go_num, hI.drewN _, .inl ⟨rfl, rfl, rfl, HNO2.out⟩⟩
                case measure => simp [intOf]
          by_cases ht3 : tt = 3
          · subst ht3
            have ws1 : IntKind.i64.wrap ((j : Int) + 6) = (j : Int) + 6 := IntWalk.i64_in _ (by omega)
            have ws2 : IntKind.i64.wrap ((j : Int) + 6 - 1) = (j : Int) + 5 := by rw [IntWalk.i64_in _ (by omega)]; omega
            have tn : ((j : Int) + 6).toNat = j + 6 := by omega
            by_cases hp : [38, 113, 117, 111, 116, 59] <+: l.drop j
            · have hpl := hp.length_le
              rw [HDL.out] at hpl
              have hlen : j + 6 ≤ l.length := by simp only [List.length_cons, List.length_nil] at hpl; omega
              have d1 : decide ((j : Int) + 6 ≤ (l.length : Int)) = true := by simp; omega
              have ex : (B l).extract j (j + 6) = B [38, 113, 117, 111, 116, 59] := by rw [HEX.out]; exact congrArg B (List.prefix_iff_eq_take.1 hp).symm
              have HR : Hid (repl (l.drop j) = (6, 34)) := by
                rw [HREP.out, if_neg (show ¬ [38, 97, 109, 112, 59] <+: l.drop j from HNO.out 0 (by omega)), if_neg (show ¬ [38, 108, 116, 59] <+: l.drop j from HNO.out 1 (by omega)), if_neg (show ¬ [38, 103, 116, 59] <+: l.drop j from HNO.out 2 (by omega)), if_pos hp]; rfl
              have i1 : (0 : Int) ≤ (j : Int) := by omega
              have i2 : (j : Int) ≤ (j : Int) + 6 := by omega
              have i3 : (j : Int) + 6 ≤ (l.length : Int) := by omega
              clear hp hpl
              go_wp2
              go_quiet (fail)
              go_wp2
              go_roundw
              case rel => exact ⟨4, by omega, by go_num, hI.drewN _, .inr ⟨6, 34, rfl, rfl, by go_num, HR.out, by omega, hlen⟩⟩
              case measure => simp [intOf]
            · have HNO2 : Hid (∀ q, q < 4 → ¬ wordL q <+: l.drop j) := by
                intro q hq
                by_cases hqt : q = 3
                · rw [hqt]; exact hp
                · exact HNO.out q (by omega)
              by_cases hlen : j + 6 ≤ l.length
              · have d1 : decide ((j : Int) + 6 ≤ (l.length : Int)) = true := by simp; omega
                have ex := HEX.out 6
                have hne : ((l.drop j).take 6 == [38, 113, 117, 111, 116, 59]) = false := by
                  rw [beq_eq_false_iff_ne]
                  intro e
                  exact hp (by rw [← e]; exact List.take_prefix _ _)
                have i1 : (0 : Int) ≤ (j : Int) := by omega
                have i2 : (j : Int) ≤ (j : Int) + 6 := by omega
                have i3 : (j : Int) + 6 ≤ (l.length : Int) := by omega
                clear hp
                generalize (l.drop j).take 6 = z at *
                go_wp2
                go_quiet (fail)
                go_wp2
                go_roundw
                case rel => exact ⟨4, by omega, by go_num, hI.drewN _, .inl ⟨rfl, rfl, rfl, HNO2.out⟩⟩
                case measure => simp [intOf]
              · have d1 : decide ((j : Int) + 6 ≤ (l.length : Int)) = false := by simp; omega
                clear hp
                go_wp2
                go_quiet (fail)
                go_wp2
                go_roundw
                case rel => exact ⟨4, by omega, by go_num, hI.drewN _, .inl ⟨rfl, rfl, rfl, HNO2.out⟩⟩
                case measure => simp [intOf]
          obtain rfl : tt = 4 := by omega
          have HR0 : Hid ((repl (l.drop j)).1 = 0) := by
            rw [HREP.out, if_neg (show ¬ [38, 97, 109, 112, 59] <+: l.drop j from HNO.out 0 (by omega)), if_neg (show ¬ [38, 108, 116, 59] <+: l.drop j from HNO.out 1 (by omega)), if_neg (show ¬ [38, 103, 116, 59] <+: l.drop j from HNO.out 2 (by omega)), if_neg (show ¬ [38, 113, 117, 111, 116, 59] <+: l.drop j from HNO.out 3 (by omega))]; rfl
          have HN := Lib.hid (hst.out.ampBad (i := j + 1) (out' := out ++ [38]) HG.out HR0.out)
          have CF := Lib.hid (fail_any rb s k x' 5 wr hI.r)
          clear hst HG hIo w0 w1 w2 w3 y0 y1 y2 y3
          go_wp2_with fail
          refine CF.out.mono ?_
          rintro e wz ⟨rfl, hg2, hR2⟩
          have hI2 := hI.grow hg2 hR2
          clear CF hI hg2 hR2
          go_wp2_with (at_builtin; (refine wpList_app2 rfl (.tmp 88) (.tmp 90) 108 rfl 5 (.int .u8 0) 1 1 Tryz.underlying108 Tryz.infoByte rfl (by omega) wz [.int .u8 (38)] rfl (by simp; rfl) (w.heap.size + 2) (.slice A out.length c) out.length (u8s out) hI2.own rfl ?c5 (by omega) (by omega) hI2.lb ?_))
          case c5 => rfl
          intro v' wy hown3 hg3 hb3 hat3
          have hI3 := hI2.app (c := 38) hown3 hb3
          clear hI2 hown3 hg3 hb3 hat3
          go_wp2
          go_roundw
          case rel => exact ⟨j + 1, out ++ [38], _, by omega, by go_num, by rw [List.length_append]; show out.length + 1 ≤ j + 1; omega, hI3, HN⟩
          case measure => simp [intOf]; omega
        · obtain ⟨hr, hn0, hnl⟩ := hrn
          have HN := Lib.hid (hst.out.amp HG.out hr hn0)
          have ws : IntKind.i64.wrap ((j : Int) + (n : Int) - 1 + 1) = (j : Int) + (n : Int) := by rw [IntWalk.i64_in _ (by omega)]; omega
          clear hst HG hIo w0 w1 w2 w3 y0 y1 y2 y3 hr
          by_cases ht : tt < 4
          · go_wp2_with (at_builtin; (refine wpList_app2 rfl (.tmp 88) (.tmp 90) 108 rfl 5 (.int .u8 0) 1 1 Tryz.underlying108 Tryz.infoByte rfl (by omega) wr [.int .u8 ((b.toNat : Int))] rfl (by simp; rfl) (w.heap.size + 2) (.slice A out.length c) out.length (u8s out) hI.own rfl ?c6 (by omega) (by omega) hI.lb ?_))
            case c6 => rfl
            intro v' wy hown3 hg3 hb3 hat3
            have hI3 := hI.app hown3 hb3
            clear hI hown3 hg3 hb3 hat3
            go_wp2
            go_roundw
            case rel => exact ⟨j + n, out ++ [b], _, hnl, by go_num, by rw [List.length_append]; show out.length + 1 ≤ j + n; omega, hI3, HN⟩
            case measure => simp [intOf]; omega
          · go_wp2_with (at_builtin; (refine wpList_app2 rfl (.tmp 88) (.tmp 90) 108 rfl 5 (.int .u8 0) 1 1 Tryz.underlying108 Tryz.infoByte rfl (by omega) wr [.int .u8 ((b.toNat : Int))] rfl (by simp; rfl) (w.heap.size + 2) (.slice A out.length c) out.length (u8s out) hI.own rfl ?c7 (by omega) (by omega) hI.lb ?_))
            intro v' wy hown3 hg3 hb3 hat3
            have hI3 := hI.app hown3 hb3
            clear hI hown3 hg3 hb3 hat3
            go_wp2
            go_roundw
            case rel => exact ⟨j + n, out ++ [b], _, hnl, by go_num, by rw [List.length_append]; show out.length + 1 ≤ j + n; omega, hI3, HN⟩
            case measure => simp [intOf]; omega
    · obtain rfl : j = l.length := by omega
      have d0 : decide (l.length < l.length) = false := by simp
      have hcv := conv_rd (Rd.of_own hI.own) c
      have hd := hst.out.done
      have HD := Lib.hid hd
      clear hd hst
      go_wp2
      go_ret
      exact ⟨out, x', rfl, hI.g, hI.r, HD.out.1, HD.out.2⟩
end Go.Proofs.YtejjidbodfoiiaaGreatDoor
