/-
  Layer 49 (project): Same: the chapter's and the program's.
  Layer 49 (project): Same: the chapter's and the program's.
  Layer 49 (project): the statements' light: strings and lists are short.
  Layer 49 (project), plain: the examples of the page.
  Layer 49 (project): awake: the page's examples.
  Layer 49 (project): what is known in the statements' walks.
  Layer 49 (project), plain: the words of the layers below hold no line feed; the text of a valid project is short, and describes it.
-/
import Derived.Test.YtmkenekngaihhaaGreatDoorPjT
import Derived.Laws.StructEq
import Derived.Test.YtmkenekngaihhaaGreatDoorPjUV
import Derived.Test.YtmkenekngaihhaaGreatDoorPjI
import Derived.Laws.OwnMore
import Derived.Test.YtmkenekngaihhaaGreatDoorLinesP
import Derived.Test.YtmkenekngaihhaaGreatDoorPjH
namespace Go.Proofs.YtmkenekngaihhaaGreatDoor
open Go.RowKit
set_option linter.unusedVariables false
set_option linter.unusedSimpArgs false
attribute [local go_sem] B_data B_size

/-- two lists are alike, element by element -/
def eqL {α : Type} (f : α → α → Bool) : List α → List α → Bool
  | [], [] => true
  | a :: r, b :: s => f a b && eqL f r s
  | _, _ => false
def prE (a b : List UInt8 × List UInt8) : Bool := a.1 == b.1 && a.2 == b.2
def stE (a b : List UInt8) : Bool := a == b
def tgE (a b : Tg) : Bool := a.nm == b.nm && (a.kd == b.kd && (a.pg == b.pg && a.wd == b.wd))
/-- two projects are alike -/
def sameB (p q : Pj) : Bool := p.ti == q.ti && (p.la == q.la && (p.ma == q.ma && (p.so == q.so && (p.st == q.st && (eqL prE p.vs q.vs && (eqL stE p.fs q.fs && eqL tgE p.ts q.ts))))))
theorem eqL_refl {α : Type} {f : α → α → Bool} (h : ∀ a, f a a = true) : ∀ l : List α, eqL f l l = true
  | [] => rfl
  | a :: l => by rw [eqL, h, eqL_refl h l]; rfl
theorem eqL_len {α : Type} {f : α → α → Bool} : ∀ {a b : List α}, a.length ≠ b.length → eqL f a b = false
  | [], [], h => absurd rfl h
  | [], _ :: _, _ => rfl
  | _ :: _, [], _ => rfl
  | x :: a, y :: b, h => by
    rw [eqL, eqL_len (a := a) (b := b) (fun e => h (by rw [List.length_cons, List.length_cons, e])), Bool.and_false]
theorem eqL_true {α : Type} {f : α → α → Bool} (hf : ∀ a b, f a b = true → a = b) : ∀ {a b : List α}, eqL f a b = true → a = b
  | [], [], _ => rfl
  | [], _ :: _, h => by cases h
  | _ :: _, [], h => by cases h
  | x :: a, y :: b, h => by
    rw [eqL, Bool.and_eq_true] at h
    rw [hf x y h.1, eqL_true hf h.2]
theorem prE_refl (a : List UInt8 × List UInt8) : prE a a = true := by simp [prE]
theorem stE_refl (a : List UInt8) : stE a a = true := by simp [stE]
theorem tgE_refl (a : Tg) : tgE a a = true := by simp [tgE]
theorem sameB_refl (p : Pj) : sameB p p = true := by
  unfold sameB
  rw [eqL_refl prE_refl, eqL_refl stE_refl, eqL_refl tgE_refl]
  simp




theorem pair_neqP (f g : List UInt8 × List UInt8) (W : World) : (binOp .neq 40 (.agg #[.string (B f.1), .string (B f.2)]) (.agg #[.string (B g.1), .string (B g.2)])).run Tryz.prog W = .ok (.bool (!(prE f g))) W := by
  rw [run_neq_struct]
  unfold prE
  have u3 := Tryz.underlying9
  rw [run_equalIn_agg _ 9999 _ _ _ (by simp only [Program.fieldsOf, Tryz.underlying40]) (by kernel_rfl)]
  simp only [Program.fieldsOf, Tryz.underlying40]
  go_simp
  by_cases h1 : f.1 = g.1 <;> by_cases h2 : f.2 = g.2 <;> simp [h1, h2]
theorem tg_neqP (f g : Tg) (W : World) : (binOp .neq 38 (.agg #[.string (B f.nm), .string (B f.kd), .int .i64 f.pg, .int .i64 f.wd]) (.agg #[.string (B g.nm), .string (B g.kd), .int .i64 g.pg, .int .i64 g.wd])).run Tryz.prog W = .ok (.bool (!(tgE f g))) W := by
  rw [run_neq_struct]
  unfold tgE
  have u3 := Tryz.underlying9
  have u4 := Tryz.underlying3
  rw [run_equalIn_agg _ 9999 _ _ _ (by simp only [Program.fieldsOf, Tryz.underlying38]) (by kernel_rfl)]
  simp only [Program.fieldsOf, Tryz.underlying38]
  go_simp
  by_cases h1 : f.nm = g.nm <;> by_cases h2 : f.kd = g.kd <;> by_cases h3 : f.pg = g.pg <;> by_cases h4 : f.wd = g.wd <;> simp [h1, h2, h3, h4]
/-- what a comparison leaves -/
def EqPost (b : Bool) (w : World) (e : Ending) (w' : World) : Prop := e = .returned (.bool b) ∧ Below w.heap.size w w'
theorem ret_eq {b : Bool} {w w' : World} {c : Bool} (h : Hid (c = b)) (hb : Below w.heap.size w w') : EqPost c w (.returned (.bool b)) w' := ⟨by rw [h.out], hb⟩
set_option maxHeartbeats 4000000 in
set_option maxRecDepth 100000 in
theorem eqV_any (A A' : Option Addr) (n n' c c' : Nat) (xs ys : List (List UInt8 × List UInt8)) (w : World) (hx : Rd w w.heap.size 2 A n (xs.flatMap prF)) (hy : Rd w w.heap.size 2 A' n' (ys.flatMap prF)) (hn : n ≤ 1000000) (hn' : n' ≤ 1000000) :
    Calls Tryz.prog 43 #[.slice A n c, .slice A' n' c'] w (EqPost (eqL prE xs ys) w) := by
  have hxn := hx.count prF 2 prF_len (by omega)
  have hyn := hy.count prF 2 prF_len (by omega)
  have HXN := Lib.hid hxn
  have HYN := Lib.hid hyn
  clear hxn hyn
  by_cases h : n = n'
  rotate_left
  · have HX : Hid (eqL prE xs ys = false) := eqL_len (by rw [HXN.out, HYN.out]; exact h)
    have d5 : ((n : Int) != (n' : Int)) = true := by rw [bne_iff_ne]; omega
    have d5b : (n != n') = true := by rw [bne_iff_ne]; exact h
    have d5c : ((n : Int) == (n' : Int)) = false := by rw [beq_eq_false_iff_ne]; omega
    have d5d : (n == n') = false := by rw [beq_eq_false_iff_ne]; exact h
    go_enter Tryz.func43, Tryz.ntmps43
    go_wp2
    go_ret
    exact ret_eq HX (Below.refl _ _)
  subst h
  have d5 : ((n : Int) != (n : Int)) = false := by simp
  have d5b : ((n : Int) == (n : Int)) = true := by simp
  go_enter Tryz.func43, Tryz.ntmps43
  go_wp2
  go_loopw [13] (fun i wr => ∃ j : Nat, j ≤ n ∧ i = .int .i64 j ∧ Below w.heap.size w wr ∧ Hid (eqL prE xs ys = eqL prE (xs.drop j) (ys.drop j))) (fun i _ => n - (intOf i).toNat)
  case atStart => exact ⟨0, Nat.zero_le _, rfl, Below.refl _ _, rfl⟩
  case round =>
    obtain ⟨j, hj, rfl, hbw, hr⟩ := hrel
    by_cases hlt : j < n
    · obtain ⟨p, hp⟩ := get_of (l := xs) (k := j) (by rw [HXN.out]; exact hlt)
      obtain ⟨q, hq⟩ := get_of (l := ys) (k := j) (by rw [HYN.out]; exact hlt)
      have HR : Hid (eqL prE xs ys = (prE p q && eqL prE (xs.drop (j + 1)) (ys.drop (j + 1)))) := by rw [hr.out, drop_get hp, drop_get hq]; rfl
      obtain ⟨b, o, rfl, hbm, hcell⟩ := (hx.below hbw).elem prF 2 prF_len (by omega) hp
      obtain ⟨b2, o2, rfl, hbm2, hcell2⟩ := (hy.below hbw).elem prF 2 prF_len (by omega) hq
      have c0 : wr.cell? ⟨b, o + j * 2, none⟩ = some (.string (B p.1)) := hcell 0 _ rfl
      have c1 : wr.cell? ⟨b, o + j * 2 + 1, none⟩ = some (.string (B p.2)) := hcell 1 _ rfl
      have e0 : wr.cell? ⟨b2, o2 + j * 2, none⟩ = some (.string (B q.1)) := hcell2 0 _ rfl
      have e1 : wr.cell? ⟨b2, o2 + j * 2 + 1, none⟩ = some (.string (B q.2)) := hcell2 1 _ rfl
      have hneq := pair_neqP p q
      clear hcell hcell2
      have i1 : (0 : Int) ≤ (j : Int) := by omega
      have i2 : (j : Int) < (n : Int) := by omega
      clear hp hq hr
      cases hpq : prE p q with
      | false =>
        have HX : Hid (eqL prE xs ys = false) := by rw [HR.out, hpq]; rfl
        rw [hpq] at hneq
        clear HR
        go_wp2
        go_quiet (fail)
        go_wp2
        go_ret
        exact ret_eq HX (below_drewN hbw _)
      | true =>
        have HY : Hid (eqL prE xs ys = eqL prE (xs.drop (j + 1)) (ys.drop (j + 1))) := by rw [HR.out, hpq]; rfl
        rw [hpq] at hneq
        clear HR
        go_wp2
        go_quiet (fail)
        go_wp2
        go_roundw
        case rel => exact ⟨j + 1, by omega, by go_num, below_drewN hbw _, HY⟩
        case measure => simp [intOf]; omega
    · have HX : Hid (eqL prE xs ys = true) := by rw [hr.out, List.drop_of_length_le (by rw [HXN.out]; omega), List.drop_of_length_le (by rw [HYN.out]; omega)]; rfl
      go_wp2
      go_ret
      exact ret_eq HX hbw
set_option maxHeartbeats 4000000 in
set_option maxRecDepth 100000 in
theorem eqF_any (A A' : Option Addr) (n n' c c' : Nat) (xs ys : List (List UInt8)) (w : World) (hx : Rd w w.heap.size 1 A n (strs xs)) (hy : Rd w w.heap.size 1 A' n' (strs ys)) (hn : n ≤ 1000000) (hn' : n' ≤ 1000000) :
    Calls Tryz.prog 44 #[.slice A n c, .slice A' n' c'] w (EqPost (eqL stE xs ys) w) := by
  have hxn := hx.strs_length
  have hyn := hy.strs_length
  have HXN := Lib.hid hxn
  have HYN := Lib.hid hyn
  clear hxn hyn
  by_cases h : n = n'
  rotate_left
  · have HX : Hid (eqL stE xs ys = false) := eqL_len (by rw [HXN.out, HYN.out]; exact h)
    have d5 : ((n : Int) != (n' : Int)) = true := by rw [bne_iff_ne]; omega
    have d5b : (n != n') = true := by rw [bne_iff_ne]; exact h
    have d5c : ((n : Int) == (n' : Int)) = false := by rw [beq_eq_false_iff_ne]; omega
    have d5d : (n == n') = false := by rw [beq_eq_false_iff_ne]; exact h
    go_enter Tryz.func44, Tryz.ntmps44
    go_wp2
    go_ret
    exact ret_eq HX (Below.refl _ _)
  subst h
  have d5 : ((n : Int) != (n : Int)) = false := by simp
  have d5b : ((n : Int) == (n : Int)) = true := by simp
  go_enter Tryz.func44, Tryz.ntmps44
  go_wp2
  go_loopw [13] (fun i wr => ∃ j : Nat, j ≤ n ∧ i = .int .i64 j ∧ Below w.heap.size w wr ∧ Hid (eqL stE xs ys = eqL stE (xs.drop j) (ys.drop j))) (fun i _ => n - (intOf i).toNat)
  case atStart => exact ⟨0, Nat.zero_le _, rfl, Below.refl _ _, rfl⟩
  case round =>
    obtain ⟨j, hj, rfl, hbw, hr⟩ := hrel
    by_cases hlt : j < n
    · obtain ⟨p, hp⟩ := get_of (l := xs) (k := j) (by rw [HXN.out]; exact hlt)
      obtain ⟨q, hq⟩ := get_of (l := ys) (k := j) (by rw [HYN.out]; exact hlt)
      have HR : Hid (eqL stE xs ys = (stE p q && eqL stE (xs.drop (j + 1)) (ys.drop (j + 1)))) := by rw [hr.out, drop_get hp, drop_get hq]; rfl
      have hgp : xs.getD j [] = p := by rw [List.getD_eq_getElem?_getD, hp]; rfl
      have hgq : ys.getD j [] = q := by rw [List.getD_eq_getElem?_getD, hq]; rfl
      obtain ⟨ad, rfl, c0⟩ := (hx.below hbw).str hlt
      obtain ⟨ad2, rfl, e0⟩ := (hy.below hbw).str hlt
      rw [hgp] at c0
      rw [hgq] at e0
      clear hgp hgq
      have i1 : (0 : Int) ≤ (j : Int) := by omega
      have i2 : (j : Int) < (n : Int) := by omega
      clear hp hq hr
      cases hpq : stE p q with
      | false =>
        have HX : Hid (eqL stE xs ys = false) := by rw [HR.out, hpq]; rfl
        have hpq : (p == q) = false := hpq
        clear HR
        go_wp2
        go_quiet (fail)
        go_wp2
        go_ret
        exact ret_eq HX (below_drewN hbw _)
      | true =>
        have HY : Hid (eqL stE xs ys = eqL stE (xs.drop (j + 1)) (ys.drop (j + 1))) := by rw [HR.out, hpq]; rfl
        have hpq : (p == q) = true := hpq
        clear HR
        go_wp2
        go_quiet (fail)
        go_wp2
        go_roundw
        case rel => exact ⟨j + 1, by omega, by go_num, below_drewN hbw _, HY⟩
        case measure => simp [intOf]; omega
    · have HX : Hid (eqL stE xs ys = true) := by rw [hr.out, List.drop_of_length_le (by rw [HXN.out]; omega), List.drop_of_length_le (by rw [HYN.out]; omega)]; rfl
      go_wp2
      go_ret
      exact ret_eq HX hbw
set_option maxHeartbeats 4000000 in
set_option maxRecDepth 100000 in
theorem eqT_any (A A' : Option Addr) (n n' c c' : Nat) (xs ys : List (Tg)) (w : World) (hx : Rd w w.heap.size 4 A n (xs.flatMap tgF)) (hy : Rd w w.heap.size 4 A' n' (ys.flatMap tgF)) (hn : n ≤ 1000000) (hn' : n' ≤ 1000000) :
    Calls Tryz.prog 45 #[.slice A n c, .slice A' n' c'] w (EqPost (eqL tgE xs ys) w) := by
  have hxn := hx.count tgF 4 tgF_len (by omega)
  have hyn := hy.count tgF 4 tgF_len (by omega)
  have HXN := Lib.hid hxn
  have HYN := Lib.hid hyn
  clear hxn hyn
  by_cases h : n = n'
  rotate_left
  · have HX : Hid (eqL tgE xs ys = false) := eqL_len (by rw [HXN.out, HYN.out]; exact h)
    have d5 : ((n : Int) != (n' : Int)) = true := by rw [bne_iff_ne]; omega
    have d5b : (n != n') = true := by rw [bne_iff_ne]; exact h
    have d5c : ((n : Int) == (n' : Int)) = false := by rw [beq_eq_false_iff_ne]; omega
    have d5d : (n == n') = false := by rw [beq_eq_false_iff_ne]; exact h
    go_enter Tryz.func45, Tryz.ntmps45
    go_wp2
    go_ret
    exact ret_eq HX (Below.refl _ _)
  subst h
  have d5 : ((n : Int) != (n : Int)) = false := by simp
  have d5b : ((n : Int) == (n : Int)) = true := by simp
  go_enter Tryz.func45, Tryz.ntmps45
  go_wp2
  go_loopw [13] (fun i wr => ∃ j : Nat, j ≤ n ∧ i = .int .i64 j ∧ Below w.heap.size w wr ∧ Hid (eqL tgE xs ys = eqL tgE (xs.drop j) (ys.drop j))) (fun i _ => n - (intOf i).toNat)
  case atStart => exact ⟨0, Nat.zero_le _, rfl, Below.refl _ _, rfl⟩
  case round =>
    obtain ⟨j, hj, rfl, hbw, hr⟩ := hrel
    by_cases hlt : j < n
    · obtain ⟨p, hp⟩ := get_of (l := xs) (k := j) (by rw [HXN.out]; exact hlt)
      obtain ⟨q, hq⟩ := get_of (l := ys) (k := j) (by rw [HYN.out]; exact hlt)
      have HR : Hid (eqL tgE xs ys = (tgE p q && eqL tgE (xs.drop (j + 1)) (ys.drop (j + 1)))) := by rw [hr.out, drop_get hp, drop_get hq]; rfl
      obtain ⟨b, o, rfl, hbm, hcell⟩ := (hx.below hbw).elem tgF 4 tgF_len (by omega) hp
      obtain ⟨b2, o2, rfl, hbm2, hcell2⟩ := (hy.below hbw).elem tgF 4 tgF_len (by omega) hq
      have c0 : wr.cell? ⟨b, o + j * 4, none⟩ = some (.string (B p.nm)) := hcell 0 _ rfl
      have c1 : wr.cell? ⟨b, o + j * 4 + 1, none⟩ = some (.string (B p.kd)) := hcell 1 _ rfl
      have c2 : wr.cell? ⟨b, o + j * 4 + 2, none⟩ = some (.int .i64 p.pg) := hcell 2 _ rfl
      have c3 : wr.cell? ⟨b, o + j * 4 + 3, none⟩ = some (.int .i64 p.wd) := hcell 3 _ rfl
      have e0 : wr.cell? ⟨b2, o2 + j * 4, none⟩ = some (.string (B q.nm)) := hcell2 0 _ rfl
      have e1 : wr.cell? ⟨b2, o2 + j * 4 + 1, none⟩ = some (.string (B q.kd)) := hcell2 1 _ rfl
      have e2 : wr.cell? ⟨b2, o2 + j * 4 + 2, none⟩ = some (.int .i64 q.pg) := hcell2 2 _ rfl
      have e3 : wr.cell? ⟨b2, o2 + j * 4 + 3, none⟩ = some (.int .i64 q.wd) := hcell2 3 _ rfl
      have hneq := tg_neqP p q
      clear hcell hcell2
      have i1 : (0 : Int) ≤ (j : Int) := by omega
      have i2 : (j : Int) < (n : Int) := by omega
      clear hp hq hr
      cases hpq : tgE p q with
      | false =>
        have HX : Hid (eqL tgE xs ys = false) := by rw [HR.out, hpq]; rfl
        rw [hpq] at hneq
        clear HR
        go_wp2
        go_quiet (fail)
        go_wp2
        go_ret
        exact ret_eq HX (below_drewN hbw _)
      | true =>
        have HY : Hid (eqL tgE xs ys = eqL tgE (xs.drop (j + 1)) (ys.drop (j + 1))) := by rw [HR.out, hpq]; rfl
        rw [hpq] at hneq
        clear HR
        go_wp2
        go_quiet (fail)
        go_wp2
        go_roundw
        case rel => exact ⟨j + 1, by omega, by go_num, below_drewN hbw _, HY⟩
        case measure => simp [intOf]; omega
    · have HX : Hid (eqL tgE xs ys = true) := by rw [hr.out, List.drop_of_length_le (by rw [HXN.out]; omega), List.drop_of_length_le (by rw [HYN.out]; omega)]; rfl
      go_wp2
      go_ret
      exact ret_eq HX hbw
set_option maxHeartbeats 4000000 in
set_option maxRecDepth 100000 in
theorem texts_any (A A' : Option Addr) (n n' c c' : Nat) (xs ys : List (List UInt8)) (w : World) (hx : Rd w w.heap.size 1 A n (strs xs)) (hy : Rd w w.heap.size 1 A' n' (strs ys)) (hn : n ≤ 1000000) (hn' : n' ≤ 1000000) :
    Calls Tryz.prog 38 #[.slice A n c, .slice A' n' c'] w (EqPost (eqL stE xs ys) w) := by
  have hxn := hx.strs_length
  have hyn := hy.strs_length
  have HXN := Lib.hid hxn
  have HYN := Lib.hid hyn
  clear hxn hyn
  by_cases h : n = n'
  rotate_left
  · have HX : Hid (eqL stE xs ys = false) := eqL_len (by rw [HXN.out, HYN.out]; exact h)
    have d5 : ((n : Int) != (n' : Int)) = true := by rw [bne_iff_ne]; omega
    have d5b : (n != n') = true := by rw [bne_iff_ne]; exact h
    have d5c : ((n : Int) == (n' : Int)) = false := by rw [beq_eq_false_iff_ne]; omega
    have d5d : (n == n') = false := by rw [beq_eq_false_iff_ne]; exact h
    go_enter Tryz.func38, Tryz.ntmps38
    go_wp2
    go_ret
    exact ret_eq HX (Below.refl _ _)
  subst h
  have d5 : ((n : Int) != (n : Int)) = false := by simp
  have d5b : ((n : Int) == (n : Int)) = true := by simp
  go_enter Tryz.func38, Tryz.ntmps38
  go_wp2
  go_loopw [5] (fun i wr => ∃ j : Nat, j ≤ n ∧ i = .int .i64 j ∧ Below w.heap.size w wr ∧ Hid (eqL stE xs ys = eqL stE (xs.drop j) (ys.drop j))) (fun i _ => n - (intOf i).toNat)
  case atStart => exact ⟨0, Nat.zero_le _, rfl, Below.refl _ _, rfl⟩
  case round =>
    obtain ⟨j, hj, rfl, hbw, hr⟩ := hrel
    by_cases hlt : j < n
    · obtain ⟨p, hp⟩ := get_of (l := xs) (k := j) (by rw [HXN.out]; exact hlt)
      obtain ⟨q, hq⟩ := get_of (l := ys) (k := j) (by rw [HYN.out]; exact hlt)
      have HR : Hid (eqL stE xs ys = (stE p q && eqL stE (xs.drop (j + 1)) (ys.drop (j + 1)))) := by rw [hr.out, drop_get hp, drop_get hq]; rfl
      have hgp : xs.getD j [] = p := by rw [List.getD_eq_getElem?_getD, hp]; rfl
      have hgq : ys.getD j [] = q := by rw [List.getD_eq_getElem?_getD, hq]; rfl
      obtain ⟨ad, rfl, c0⟩ := (hx.below hbw).str hlt
      obtain ⟨ad2, rfl, e0⟩ := (hy.below hbw).str hlt
      rw [hgp] at c0
      rw [hgq] at e0
      clear hgp hgq
      have i1 : (0 : Int) ≤ (j : Int) := by omega
      have i2 : (j : Int) < (n : Int) := by omega
      clear hp hq hr
      cases hpq : stE p q with
      | false =>
        have HX : Hid (eqL stE xs ys = false) := by rw [HR.out, hpq]; rfl
        have hpq : (p == q) = false := hpq
        clear HR
        go_wp2
        go_quiet (fail)
        go_wp2
        go_ret
        exact ret_eq HX (below_drewN hbw _)
      | true =>
        have HY : Hid (eqL stE xs ys = eqL stE (xs.drop (j + 1)) (ys.drop (j + 1))) := by rw [HR.out, hpq]; rfl
        have hpq : (p == q) = true := hpq
        clear HR
        go_wp2
        go_quiet (fail)
        go_wp2
        go_roundw
        case rel => exact ⟨j + 1, by omega, by go_num, below_drewN hbw _, HY⟩
        case measure => simp [intOf]; omega
    · have HX : Hid (eqL stE xs ys = true) := by rw [hr.out, List.drop_of_length_le (by rw [HXN.out]; omega), List.drop_of_length_le (by rw [HYN.out]; omega)]; rfl
      go_wp2
      go_ret
      exact ret_eq HX hbw
end Go.Proofs.YtmkenekngaihhaaGreatDoor
namespace Go.Proofs.YtmkenekngaihhaaGreatDoor
open Go.RowKit
set_option linter.unusedVariables false
set_option linter.unusedSimpArgs false
attribute [local go_sem] B_data B_size

set_option maxHeartbeats 8000000 in
set_option maxRecDepth 100000 in
theorem rsame_any (p q : Pj) (c d : PC) (w : World) (hs : PjSm p) (ht : PjSm q) (hp : PjAt w w.heap.size p c) (hq : PjAt w w.heap.size q d) :
    Calls Tryz.prog 14 #[.agg #[.string (B p.ti), .string (B p.la), .string (B p.ma), .string (B p.so), .string (B p.st), .slice c.A c.na c.ca, .slice c.F c.nf c.cf, .slice c.T c.nt c.ct], .agg #[.string (B q.ti), .string (B q.la), .string (B q.ma), .string (B q.so), .string (B q.st), .slice d.A d.na d.ca, .slice d.F d.nf d.cf, .slice d.T d.nt d.ct]] w (EqPost (sameB p q) w) := by
  obtain ⟨A, na, ca, F, nf, cf, T, nt, ct⟩ := c
  obtain ⟨A2, na2, ca2, F2, nf2, cf2, T2, nt2, ct2⟩ := d
  obtain ⟨hv, hf, hT⟩ := hp
  obtain ⟨hv2, hf2, hT2⟩ := hq
  have hv : Rd w w.heap.size 2 A na (p.vs.flatMap prF) := hv
  have hf : Rd w w.heap.size 1 F nf (strs p.fs) := hf
  have hT : Rd w w.heap.size 4 T nt (p.ts.flatMap tgF) := hT
  have hv2 : Rd w w.heap.size 2 A2 na2 (q.vs.flatMap prF) := hv2
  have hf2 : Rd w w.heap.size 1 F2 nf2 (strs q.fs) := hf2
  have hT2 : Rd w w.heap.size 4 T2 nt2 (q.ts.flatMap tgF) := hT2
  have l1 := hv.count prF 2 prF_len (by omega)
  have l2 := hf.strs_length
  have l3 := hT.count tgF 4 tgF_len (by omega)
  have m1 := hv2.count prF 2 prF_len (by omega)
  have m2 := hf2.strs_length
  have m3 := hT2.count tgF 4 tgF_len (by omega)
  have k1 : na ≤ 1000000 := by have := hs.nv; omega
  have k2 : nf ≤ 1000000 := by have := hs.nf; omega
  have k3 : nt ≤ 1000000 := by have := hs.nt; omega
  have j1 : na2 ≤ 1000000 := by have := ht.nv; omega
  have j2 : nf2 ≤ 1000000 := by have := ht.nf; omega
  have j3 : nt2 ≤ 1000000 := by have := ht.nt; omega
  have L1 := Lib.hid l1
  have L3 := Lib.hid l3
  have M1 := Lib.hid m1
  have M3 := Lib.hid m3
  clear l1 l2 l3 m1 m2 m3 hs ht
  have hbW0 := below_alloc w (.cells #[.string (B p.ti), .string (B p.la), .string (B p.ma), .string (B p.so), .string (B p.st), .slice A na ca, .slice F nf cf, .slice T nt ct] 26)
  have hbW := hbW0.alloc hbW0.size (.cells #[.string (B q.ti), .string (B q.la), .string (B q.ma), .string (B q.so), .string (B q.st), .slice A2 na2 ca2, .slice F2 nf2 cf2, .slice T2 nt2 ct2] 26)
  have hP : PB w.heap.size p (.slice A na ca) (.slice F nf cf) (.slice T nt ct) ((w.alloc (.cells #[.string (B p.ti), .string (B p.la), .string (B p.ma), .string (B p.so), .string (B p.st), .slice A na ca, .slice F nf cf, .slice T nt ct] 26)).alloc (.cells #[.string (B q.ti), .string (B q.la), .string (B q.ma), .string (B q.so), .string (B q.st), .slice A2 na2 ca2, .slice F2 nf2 cf2, .slice T2 nt2 ct2] 26)) := PB.step (heap_alloc_new w _) (below_alloc _ _)
  have hQ : PB (w.heap.size + 1) q (.slice A2 na2 ca2) (.slice F2 nf2 cf2) (.slice T2 nt2 ct2) ((w.alloc (.cells #[.string (B p.ti), .string (B p.la), .string (B p.ma), .string (B p.so), .string (B p.st), .slice A na ca, .slice F nf cf, .slice T nt ct] 26)).alloc (.cells #[.string (B q.ti), .string (B q.la), .string (B q.ma), .string (B q.so), .string (B q.st), .slice A2 na2 ca2, .slice F2 nf2 cf2, .slice T2 nt2 ct2] 26)) := by
    have := heap_alloc_new (w.alloc (.cells #[.string (B p.ti), .string (B p.la), .string (B p.ma), .string (B p.so), .string (B p.st), .slice A na ca, .slice F nf cf, .slice T nt ct] 26)) (.cells #[.string (B q.ti), .string (B q.la), .string (B q.ma), .string (B q.so), .string (B q.st), .slice A2 na2 ca2, .slice F2 nf2 cf2, .slice T2 nt2 ct2] 26)
    have e : (w.alloc (.cells #[.string (B p.ti), .string (B p.la), .string (B p.ma), .string (B p.so), .string (B p.st), .slice A na ca, .slice F nf cf, .slice T nt ct] 26)).heap.size = w.heap.size + 1 := by simp
    rw [e] at this
    exact this
  clear hbW0
  by_cases q0 : p.ti = q.ti
  rotate_left
  · have HX : Hid (sameB p q = false) := by
      have x0 : (p.ti == q.ti) = false := by simpa using q0
      show sameB p q = false
      unfold sameB; rw [x0]; simp
    have x0 : (p.ti == q.ti) = false := by simpa using q0
    have y0 : (p.ti != q.ti) = true := by simpa using q0
    clear q0 hP hQ
    go_enter Tryz.func14, Tryz.ntmps14
    go_wp2
    go_ret
    exact ret_eq HX hbW
  have x0 : (p.ti == q.ti) = true := by simpa using q0
  have y0 : (p.ti != q.ti) = false := by simpa using q0
  clear q0
  by_cases q1 : p.la = q.la
  rotate_left
  · have HX : Hid (sameB p q = false) := by
      have x1 : (p.la == q.la) = false := by simpa using q1
      show sameB p q = false
      unfold sameB; rw [x1]; simp
    have x1 : (p.la == q.la) = false := by simpa using q1
    have y1 : (p.la != q.la) = true := by simpa using q1
    clear q1 hP hQ
    go_enter Tryz.func14, Tryz.ntmps14
    go_wp2
    go_ret
    exact ret_eq HX hbW
  have x1 : (p.la == q.la) = true := by simpa using q1
  have y1 : (p.la != q.la) = false := by simpa using q1
  clear q1
  by_cases q2 : p.ma = q.ma
  rotate_left
  · have HX : Hid (sameB p q = false) := by
      have x2 : (p.ma == q.ma) = false := by simpa using q2
      show sameB p q = false
      unfold sameB; rw [x2]; simp
    have x2 : (p.ma == q.ma) = false := by simpa using q2
    have y2 : (p.ma != q.ma) = true := by simpa using q2
    clear q2 hP hQ
    go_enter Tryz.func14, Tryz.ntmps14
    go_wp2
    go_ret
    exact ret_eq HX hbW
  have x2 : (p.ma == q.ma) = true := by simpa using q2
  have y2 : (p.ma != q.ma) = false := by simpa using q2
  clear q2
  by_cases q3 : p.so = q.so
  rotate_left
  · have HX : Hid (sameB p q = false) := by
      have x3 : (p.so == q.so) = false := by simpa using q3
      show sameB p q = false
      unfold sameB; rw [x3]; simp
    have x3 : (p.so == q.so) = false := by simpa using q3
    have y3 : (p.so != q.so) = true := by simpa using q3
    clear q3 hP hQ
    go_enter Tryz.func14, Tryz.ntmps14
    go_wp2
    go_ret
    exact ret_eq HX hbW
  have x3 : (p.so == q.so) = true := by simpa using q3
  have y3 : (p.so != q.so) = false := by simpa using q3
  clear q3
  by_cases q4 : p.st = q.st
  rotate_left
  · have HX : Hid (sameB p q = false) := by
      have x4 : (p.st == q.st) = false := by simpa using q4
      show sameB p q = false
      unfold sameB; rw [x4]; simp
    have x4 : (p.st == q.st) = false := by simpa using q4
    have y4 : (p.st != q.st) = true := by simpa using q4
    clear q4 hP hQ
    go_enter Tryz.func14, Tryz.ntmps14
    go_wp2
    go_ret
    exact ret_eq HX hbW
  have x4 : (p.st == q.st) = true := by simpa using q4
  have y4 : (p.st != q.st) = false := by simpa using q4
  clear q4
  have HE : Hid (sameB p q = (eqL prE p.vs q.vs && (eqL stE p.fs q.fs && eqL tgE p.ts q.ts))) := by
    show sameB p q = _
    unfold sameB; rw [x0, x1, x2, x3, x4]; simp
  by_cases h1 : na = na2
  rotate_left
  · have HX : Hid (sameB p q = false) := by
      rw [HE.out, eqL_len (by rw [L1.out, M1.out]; exact h1)]; rfl
    have z1 : ((na : Int) != (na2 : Int)) = true := by rw [bne_iff_ne]; omega
    have z2 : (na != na2) = true := by rw [bne_iff_ne]; exact h1
    have z3 : ((na : Int) == (na2 : Int)) = false := by rw [beq_eq_false_iff_ne]; omega
    clear hP hQ
    go_enter Tryz.func14, Tryz.ntmps14
    go_wp2
    go_ret
    exact ret_eq HX hbW
  subst h1
  have z1 : ((na : Int) != (na : Int)) = false := by simp
  have hwz := hbW.size
  go_enter Tryz.func14, Tryz.ntmps14
  go_wp2_with fail
  refine (texts_any F F2 nf nf2 cf cf2 p.fs q.fs _ ((hf.below hbW).more hwz) ((hf2.below hbW).more hwz) k2 j2).mono ?_
  rintro e w2 ⟨rfl, hb2⟩
  have hbW2 := hbW.trans (hb2.mono hwz)
  replace hP := hP.step hb2
  replace hQ := hQ.step hb2
  clear hb2 hbW hwz
  have p7 := hP.c7
  have w7 := hQ.c7
  cases hfe : eqL stE p.fs q.fs with
  | false =>
    have HX : Hid (sameB p q = false) := by rw [HE.out, hfe]; simp [Hid]
    clear HE hfe
    go_wp2
    go_ret
    exact ret_eq HX hbW2
  | true =>
    have HE2 : Hid (sameB p q = (eqL prE p.vs q.vs && eqL tgE p.ts q.ts)) := by rw [HE.out, hfe]; simp [Hid]
    clear HE hfe
    by_cases h3 : nt = nt2
    rotate_left
    · have HX : Hid (sameB p q = false) := by
        rw [HE2.out, eqL_len (a := p.ts) (b := q.ts) (by rw [L3.out, M3.out]; exact h3)]; simp [Hid]
      have z4 : ((nt : Int) != (nt2 : Int)) = true := by rw [bne_iff_ne]; omega
      have z5 : (nt != nt2) = true := by rw [bne_iff_ne]; exact h3
      go_wp2
      go_ret
      exact ret_eq HX hbW2
    subst h3
    have z4 : ((nt : Int) != (nt : Int)) = false := by simp
    go_wp2
    have hQl := hQ.lt
    clear p7 w7
    go_loopw [5] (fun i wr => ∃ j : Nat, j ≤ na ∧ i = .int .i64 j ∧ Below w.heap.size w wr ∧ Hid (PB w.heap.size p (.slice A na ca) (.slice F nf cf) (.slice T nt ct) wr) ∧ Hid (PB (w.heap.size + 1) q (.slice A2 na ca2) (.slice F2 nf2 cf2) (.slice T2 nt ct2) wr) ∧ Hid (eqL prE p.vs q.vs = eqL prE (p.vs.drop j) (q.vs.drop j))) (fun i _ => na - (intOf i).toNat)
    case atStart => exact ⟨0, Nat.zero_le _, rfl, hbW2, hP, hQ, rfl⟩
    case round =>
      clear hP hQ hbW2 hQl
      obtain ⟨j, hj, rfl, hbw, hP, hQ, hr⟩ := hrel
      have hP := hP.out
      have hQ := hQ.out
      have HPP := Lib.hid hP
      have HQQ := Lib.hid hQ
      have p5 := hP.c5
      have w5 := hQ.c5
      by_cases hlt : j < na
      · obtain ⟨x, hx⟩ := get_of (l := p.vs) (k := j) (by rw [L1.out]; exact hlt)
        obtain ⟨y, hy⟩ := get_of (l := q.vs) (k := j) (by rw [M1.out]; exact hlt)
        have HR : Hid (eqL prE p.vs q.vs = (prE x y && eqL prE (p.vs.drop (j + 1)) (q.vs.drop (j + 1)))) := by rw [hr.out, drop_get hx, drop_get hy]; rfl
        obtain ⟨b, o, rfl, hbm, hcell⟩ := (hv.below hbw).elem prF 2 prF_len (by omega) hx
        obtain ⟨b2, o2, rfl, hbm2, hcell2⟩ := (hv2.below hbw).elem prF 2 prF_len (by omega) hy
        have c0 : wr.cell? ⟨b, o + j * 2, none⟩ = some (.string (B x.1)) := hcell 0 _ rfl
        have c1 : wr.cell? ⟨b, o + j * 2 + 1, none⟩ = some (.string (B x.2)) := hcell 1 _ rfl
        have e0 : wr.cell? ⟨b2, o2 + j * 2, none⟩ = some (.string (B y.1)) := hcell2 0 _ rfl
        have e1 : wr.cell? ⟨b2, o2 + j * 2 + 1, none⟩ = some (.string (B y.2)) := hcell2 1 _ rfl
        have hneq := pair_neqP x y
        have i1 : (0 : Int) ≤ (j : Int) := by omega
        have i2 : (j : Int) < (na : Int) := by omega
        have hB3 := hbw
        clear hcell hcell2 hx hy hr hP hQ
        cases hxy : prE x y with
        | false =>
          have HX : Hid (sameB p q = false) := by rw [HE2.out, HR.out, hxy]; simp [Hid]
          rw [hxy] at hneq
          clear HR
          go_wp2
          go_quiet (fail)
          go_wp2
          go_ret
          exact ret_eq HX (below_drewN hB3 _)
        | true =>
          have HY : Hid (eqL prE p.vs q.vs = eqL prE (p.vs.drop (j + 1)) (q.vs.drop (j + 1))) := by rw [HR.out, hxy]; rfl
          rw [hxy] at hneq
          clear HR
          go_wp2
          go_quiet (fail)
          go_wp2
          go_roundw
          case rel => exact ⟨j + 1, by omega, by go_num, below_drewN hB3 _, HPP.out, HQQ.out, HY⟩
          case measure => simp [intOf]; omega
      · have HE3 : Hid (sameB p q = eqL tgE p.ts q.ts) := by
          have : eqL prE p.vs q.vs = true := by rw [hr.out, List.drop_of_length_le (by rw [L1.out]; omega), List.drop_of_length_le (by rw [M1.out]; omega)]; rfl
          rw [HE2.out, this]; simp [Hid]
        clear HE2 hr
        go_wp2
        clear p5 w5 HPP HQQ
        go_loopw [6] (fun i wr => ∃ j : Nat, j ≤ nt ∧ i = .int .i64 j ∧ Below w.heap.size w wr ∧ Hid (PB w.heap.size p (.slice A na ca) (.slice F nf cf) (.slice T nt ct) wr) ∧ Hid (PB (w.heap.size + 1) q (.slice A2 na ca2) (.slice F2 nf2 cf2) (.slice T2 nt ct2) wr) ∧ Hid (eqL tgE p.ts q.ts = eqL tgE (p.ts.drop j) (q.ts.drop j))) (fun i _ => nt - (intOf i).toNat)
        case atStart => exact ⟨0, Nat.zero_le _, rfl, hbw, hP, hQ, rfl⟩
        case round =>
          clear hP hQ hbw
          obtain ⟨j, hj, rfl, hbw, hP, hQ, hr⟩ := hrel
          have hP := hP.out
          have hQ := hQ.out
          have HPP := Lib.hid hP
          have HQQ := Lib.hid hQ
          have p7 := hP.c7
          have w7 := hQ.c7
          by_cases hlt : j < nt
          · obtain ⟨x, hx⟩ := get_of (l := p.ts) (k := j) (by rw [L3.out]; exact hlt)
            obtain ⟨y, hy⟩ := get_of (l := q.ts) (k := j) (by rw [M3.out]; exact hlt)
            have HR : Hid (eqL tgE p.ts q.ts = (tgE x y && eqL tgE (p.ts.drop (j + 1)) (q.ts.drop (j + 1)))) := by rw [hr.out, drop_get hx, drop_get hy]; rfl
            obtain ⟨b, o, rfl, hbm, hcell⟩ := (hT.below hbw).elem tgF 4 tgF_len (by omega) hx
            obtain ⟨b2, o2, rfl, hbm2, hcell2⟩ := (hT2.below hbw).elem tgF 4 tgF_len (by omega) hy
            have c0 : wr.cell? ⟨b, o + j * 4, none⟩ = some (.string (B x.nm)) := hcell 0 _ rfl
            have c1 : wr.cell? ⟨b, o + j * 4 + 1, none⟩ = some (.string (B x.kd)) := hcell 1 _ rfl
            have c2 : wr.cell? ⟨b, o + j * 4 + 2, none⟩ = some (.int .i64 x.pg) := hcell 2 _ rfl
            have c3 : wr.cell? ⟨b, o + j * 4 + 3, none⟩ = some (.int .i64 x.wd) := hcell 3 _ rfl
            have e0 : wr.cell? ⟨b2, o2 + j * 4, none⟩ = some (.string (B y.nm)) := hcell2 0 _ rfl
            have e1 : wr.cell? ⟨b2, o2 + j * 4 + 1, none⟩ = some (.string (B y.kd)) := hcell2 1 _ rfl
            have e2 : wr.cell? ⟨b2, o2 + j * 4 + 2, none⟩ = some (.int .i64 y.pg) := hcell2 2 _ rfl
            have e3 : wr.cell? ⟨b2, o2 + j * 4 + 3, none⟩ = some (.int .i64 y.wd) := hcell2 3 _ rfl
            have hneq := tg_neqP x y
            have i1 : (0 : Int) ≤ (j : Int) := by omega
            have i2 : (j : Int) < (nt : Int) := by omega
            have hB3 := hbw
            clear hcell hcell2 hx hy hr hP hQ
            cases hxy : tgE x y with
            | false =>
              have HX : Hid (sameB p q = false) := by rw [HE3.out, HR.out, hxy]; simp [Hid]
              rw [hxy] at hneq
              clear HR
              go_wp2
              go_quiet (fail)
              go_wp2
              go_ret
              exact ret_eq HX (below_drewN hB3 _)
            | true =>
              have HY : Hid (eqL tgE p.ts q.ts = eqL tgE (p.ts.drop (j + 1)) (q.ts.drop (j + 1))) := by rw [HR.out, hxy]; rfl
              rw [hxy] at hneq
              clear HR
              go_wp2
              go_quiet (fail)
              go_wp2
              go_roundw
              case rel => exact ⟨j + 1, by omega, by go_num, below_drewN hB3 _, HPP.out, HQQ.out, HY⟩
              case measure => simp [intOf]; omega

          · have HX : Hid (sameB p q = true) := by rw [HE3.out, hr.out, List.drop_of_length_le (by rw [L3.out]; omega), List.drop_of_length_le (by rw [M3.out]; omega)]; rfl
            have hB3 := hbw
            clear hP hQ
            go_wp2
            go_ret
            exact ret_eq HX hB3
set_option maxHeartbeats 8000000 in
set_option maxRecDepth 100000 in
theorem psame_any (p q : Pj) (c d : PC) (w : World) (hs : PjSm p) (ht : PjSm q) (hp : PjAt w w.heap.size p c) (hq : PjAt w w.heap.size q d) :
    Calls Tryz.prog 16 #[.agg #[.string (B p.ti), .string (B p.la), .string (B p.ma), .string (B p.so), .string (B p.st), .slice c.A c.na c.ca, .slice c.F c.nf c.cf, .slice c.T c.nt c.ct], .agg #[.string (B q.ti), .string (B q.la), .string (B q.ma), .string (B q.so), .string (B q.st), .slice d.A d.na d.ca, .slice d.F d.nf d.cf, .slice d.T d.nt d.ct]] w (EqPost (sameB p q) w) := by
  obtain ⟨A, na, ca, F, nf, cf, T, nt, ct⟩ := c
  obtain ⟨A2, na2, ca2, F2, nf2, cf2, T2, nt2, ct2⟩ := d
  obtain ⟨hv, hf, hT⟩ := hp
  obtain ⟨hv2, hf2, hT2⟩ := hq
  have hv : Rd w w.heap.size 2 A na (p.vs.flatMap prF) := hv
  have hf : Rd w w.heap.size 1 F nf (strs p.fs) := hf
  have hT : Rd w w.heap.size 4 T nt (p.ts.flatMap tgF) := hT
  have hv2 : Rd w w.heap.size 2 A2 na2 (q.vs.flatMap prF) := hv2
  have hf2 : Rd w w.heap.size 1 F2 nf2 (strs q.fs) := hf2
  have hT2 : Rd w w.heap.size 4 T2 nt2 (q.ts.flatMap tgF) := hT2
  have l1 := hv.count prF 2 prF_len (by omega)
  have l2 := hf.strs_length
  have l3 := hT.count tgF 4 tgF_len (by omega)
  have m1 := hv2.count prF 2 prF_len (by omega)
  have m2 := hf2.strs_length
  have m3 := hT2.count tgF 4 tgF_len (by omega)
  have k1 : na ≤ 1000000 := by have := hs.nv; omega
  have k2 : nf ≤ 1000000 := by have := hs.nf; omega
  have k3 : nt ≤ 1000000 := by have := hs.nt; omega
  have j1 : na2 ≤ 1000000 := by have := ht.nv; omega
  have j2 : nf2 ≤ 1000000 := by have := ht.nf; omega
  have j3 : nt2 ≤ 1000000 := by have := ht.nt; omega
  have L1 := Lib.hid l1
  have L3 := Lib.hid l3
  have M1 := Lib.hid m1
  have M3 := Lib.hid m3
  clear l1 l2 l3 m1 m2 m3 hs ht
  have hbW0 := below_alloc w (.cells #[.string (B p.ti), .string (B p.la), .string (B p.ma), .string (B p.so), .string (B p.st), .slice A na ca, .slice F nf cf, .slice T nt ct] 26)
  have hbW := hbW0.alloc hbW0.size (.cells #[.string (B q.ti), .string (B q.la), .string (B q.ma), .string (B q.so), .string (B q.st), .slice A2 na2 ca2, .slice F2 nf2 cf2, .slice T2 nt2 ct2] 26)
  have hP : PB w.heap.size p (.slice A na ca) (.slice F nf cf) (.slice T nt ct) ((w.alloc (.cells #[.string (B p.ti), .string (B p.la), .string (B p.ma), .string (B p.so), .string (B p.st), .slice A na ca, .slice F nf cf, .slice T nt ct] 26)).alloc (.cells #[.string (B q.ti), .string (B q.la), .string (B q.ma), .string (B q.so), .string (B q.st), .slice A2 na2 ca2, .slice F2 nf2 cf2, .slice T2 nt2 ct2] 26)) := PB.step (heap_alloc_new w _) (below_alloc _ _)
  have hQ : PB (w.heap.size + 1) q (.slice A2 na2 ca2) (.slice F2 nf2 cf2) (.slice T2 nt2 ct2) ((w.alloc (.cells #[.string (B p.ti), .string (B p.la), .string (B p.ma), .string (B p.so), .string (B p.st), .slice A na ca, .slice F nf cf, .slice T nt ct] 26)).alloc (.cells #[.string (B q.ti), .string (B q.la), .string (B q.ma), .string (B q.so), .string (B q.st), .slice A2 na2 ca2, .slice F2 nf2 cf2, .slice T2 nt2 ct2] 26)) := by
    have := heap_alloc_new (w.alloc (.cells #[.string (B p.ti), .string (B p.la), .string (B p.ma), .string (B p.so), .string (B p.st), .slice A na ca, .slice F nf cf, .slice T nt ct] 26)) (.cells #[.string (B q.ti), .string (B q.la), .string (B q.ma), .string (B q.so), .string (B q.st), .slice A2 na2 ca2, .slice F2 nf2 cf2, .slice T2 nt2 ct2] 26)
    have e : (w.alloc (.cells #[.string (B p.ti), .string (B p.la), .string (B p.ma), .string (B p.so), .string (B p.st), .slice A na ca, .slice F nf cf, .slice T nt ct] 26)).heap.size = w.heap.size + 1 := by simp
    rw [e] at this
    exact this
  clear hbW0
  by_cases q0 : p.ti = q.ti
  rotate_left
  · have HX : Hid (sameB p q = false) := by
      have x0 : (p.ti == q.ti) = false := by simpa using q0
      show sameB p q = false
      unfold sameB; rw [x0]; simp
    have x0 : (p.ti == q.ti) = false := by simpa using q0
    have y0 : (p.ti != q.ti) = true := by simpa using q0
    clear q0 hP hQ
    go_enter Tryz.func16, Tryz.ntmps16
    go_wp2
    go_ret
    exact ret_eq HX hbW
  have x0 : (p.ti == q.ti) = true := by simpa using q0
  have y0 : (p.ti != q.ti) = false := by simpa using q0
  clear q0
  by_cases q1 : p.la = q.la
  rotate_left
  · have HX : Hid (sameB p q = false) := by
      have x1 : (p.la == q.la) = false := by simpa using q1
      show sameB p q = false
      unfold sameB; rw [x1]; simp
    have x1 : (p.la == q.la) = false := by simpa using q1
    have y1 : (p.la != q.la) = true := by simpa using q1
    clear q1 hP hQ
    go_enter Tryz.func16, Tryz.ntmps16
    go_wp2
    go_ret
    exact ret_eq HX hbW
  have x1 : (p.la == q.la) = true := by simpa using q1
  have y1 : (p.la != q.la) = false := by simpa using q1
  clear q1
  by_cases q2 : p.ma = q.ma
  rotate_left
  · have HX : Hid (sameB p q = false) := by
      have x2 : (p.ma == q.ma) = false := by simpa using q2
      show sameB p q = false
      unfold sameB; rw [x2]; simp
    have x2 : (p.ma == q.ma) = false := by simpa using q2
    have y2 : (p.ma != q.ma) = true := by simpa using q2
    clear q2 hP hQ
    go_enter Tryz.func16, Tryz.ntmps16
    go_wp2
    go_ret
    exact ret_eq HX hbW
  have x2 : (p.ma == q.ma) = true := by simpa using q2
  have y2 : (p.ma != q.ma) = false := by simpa using q2
  clear q2
  by_cases q3 : p.so = q.so
  rotate_left
  · have HX : Hid (sameB p q = false) := by
      have x3 : (p.so == q.so) = false := by simpa using q3
      show sameB p q = false
      unfold sameB; rw [x3]; simp
    have x3 : (p.so == q.so) = false := by simpa using q3
    have y3 : (p.so != q.so) = true := by simpa using q3
    clear q3 hP hQ
    go_enter Tryz.func16, Tryz.ntmps16
    go_wp2
    go_ret
    exact ret_eq HX hbW
  have x3 : (p.so == q.so) = true := by simpa using q3
  have y3 : (p.so != q.so) = false := by simpa using q3
  clear q3
  by_cases q4 : p.st = q.st
  rotate_left
  · have HX : Hid (sameB p q = false) := by
      have x4 : (p.st == q.st) = false := by simpa using q4
      show sameB p q = false
      unfold sameB; rw [x4]; simp
    have x4 : (p.st == q.st) = false := by simpa using q4
    have y4 : (p.st != q.st) = true := by simpa using q4
    clear q4 hP hQ
    go_enter Tryz.func16, Tryz.ntmps16
    go_wp2
    go_ret
    exact ret_eq HX hbW
  have x4 : (p.st == q.st) = true := by simpa using q4
  have y4 : (p.st != q.st) = false := by simpa using q4
  clear q4
  have HE : Hid (sameB p q = (eqL prE p.vs q.vs && (eqL stE p.fs q.fs && eqL tgE p.ts q.ts))) := by
    show sameB p q = _
    unfold sameB; rw [x0, x1, x2, x3, x4]; simp
  have hwz := hbW.size
  go_enter Tryz.func16, Tryz.ntmps16
  go_wp2_with fail
  refine (eqV_any A A2 na na2 ca ca2 p.vs q.vs _ ((hv.below hbW).more hwz) ((hv2.below hbW).more hwz) k1 j1).mono ?_
  rintro e w2 ⟨rfl, hb2⟩
  have hbW2 := hbW.trans (hb2.mono hwz)
  replace hP := hP.step hb2
  replace hQ := hQ.step hb2
  clear hb2 hbW hwz
  cases hve : eqL prE p.vs q.vs with
  | false =>
    have HX : Hid (sameB p q = false) := by rw [HE.out, hve]; rfl
    clear HE hve hP hQ
    go_wp2
    go_ret
    exact ret_eq HX hbW2
  | true =>
    have HE2 : Hid (sameB p q = (eqL stE p.fs q.fs && eqL tgE p.ts q.ts)) := by rw [HE.out, hve]; rfl
    have HPP := Lib.hid hP
    have HQQ := Lib.hid hQ
    have hwz := hbW2.size
    have p6 := hP.c6
    have w6 := hQ.c6
    clear HE hve hP hQ
    go_wp2_with fail
    refine (eqF_any F F2 nf nf2 cf cf2 p.fs q.fs w2 ((hf.below hbW2).more hwz) ((hf2.below hbW2).more hwz) k2 j2).mono ?_
    rintro e w3 ⟨rfl, hb3⟩
    have hbW3 := hbW2.trans (hb3.mono hwz)
    have hP := HPP.out.step hb3
    have hQ := HQQ.out.step hb3
    clear hb3 hbW2 hwz p6 w6
    cases hfe : eqL stE p.fs q.fs with
    | false =>
      have HX : Hid (sameB p q = false) := by rw [HE2.out, hfe]; rfl
      clear HE2 hfe hP hQ
      go_wp2
      go_ret
      exact ret_eq HX hbW3
    | true =>
      have HE3 : Hid (sameB p q = eqL tgE p.ts q.ts) := by rw [HE2.out, hfe]; rfl
      have hwz := hbW3.size
      have p7 := hP.c7
      have w7 := hQ.c7
      clear HE2 hfe hP hQ HPP HQQ
      go_wp2_with fail
      refine (eqT_any T T2 nt nt2 ct ct2 p.ts q.ts w3 ((hT.below hbW3).more hwz) ((hT2.below hbW3).more hwz) k3 j3).mono ?_
      rintro e w4 ⟨rfl, hb4⟩
      have hbW4 := hbW3.trans (hb4.mono hwz)
      go_wp2
      go_ret
      exact ret_eq HE3 hbW4
end Go.Proofs.YtmkenekngaihhaaGreatDoor
namespace Go.Proofs.YtmkenekngaihhaaGreatDoor
open Go.RowKit
set_option linter.unusedVariables false
set_option linter.unusedSimpArgs false
attribute [local go_sem] B_data B_size

/-- strings and lists have the lengths that a machine can hold -/
structure PjMx (p : Pj) : Prop where
  ti : p.ti.length ≤ 140737488355328
  la : p.la.length ≤ 140737488355328
  ma : p.ma.length ≤ 140737488355328
  so : p.so.length ≤ 140737488355328
  st : p.st.length ≤ 140737488355328
  vs : ∀ v ∈ p.vs, v.1.length ≤ 140737488355328 ∧ v.2.length ≤ 140737488355328
  fs : ∀ v ∈ p.fs, v.length ≤ 140737488355328
  ts : ∀ v ∈ p.ts, v.nm.length ≤ 140737488355328 ∧ v.kd.length ≤ 140737488355328
  nv : p.vs.length ≤ 140737488355328
  nf : p.fs.length ≤ 140737488355328
  nt : p.ts.length ≤ 140737488355328
/-- a light project -/
structure Light (p : Pj) : Prop where
  sum : p.ti.length + p.la.length + p.ma.length + p.so.length + p.st.length ≤ 900
  vs : ∀ v ∈ p.vs, v.1.length + v.2.length ≤ 200
  fs : ∀ v ∈ p.fs, v.length ≤ 100
  ts : ∀ v ∈ p.ts, v.nm.length + v.kd.length ≤ 200
  nv : p.vs.length ≤ 40
  nf : p.fs.length ≤ 40
  nt : p.ts.length ≤ 12
theorem Light.sm {p : Pj} (h : Light p) : PjSm p where
  ti := by have := h.sum; omega
  la := by have := h.sum; omega
  ma := by have := h.sum; omega
  so := by have := h.sum; omega
  st := by have := h.sum; omega
  vs := fun v hv => by have := h.vs v hv; exact ⟨by omega, by omega⟩
  fs := fun v hv => by have := h.fs v hv; omega
  ts := fun v hv => by have := h.ts v hv; exact ⟨by omega, by omega⟩
  nv := by have := h.nv; omega
  nf := by have := h.nf; omega
  nt := by have := h.nt; omega
def LiPost (p : Pj) (w : World) (e : Ending) (w' : World) : Prop := ∃ b, e = .returned (.bool b) ∧ Below w.heap.size w w' ∧ (b = true → Light p)
theorem li_no {p : Pj} {w w' : World} (h : Below w.heap.size w w') : LiPost p w (.returned (.bool false)) w' := ⟨false, rfl, h, fun h => by cases h⟩
theorem take_get {α : Type} {l : List α} {k : Nat} {x : α} (h : l[k]? = some x) : l.take (k + 1) = l.take k ++ [x] := by
  obtain ⟨hk, e⟩ := List.getElem?_eq_some_iff.1 h
  rw [List.take_succ_eq_append_getElem hk, e]
theorem all_take {α : Type} {l : List α} {k : Nat} {x : α} {q : α → Prop} (h : l[k]? = some x) (ha : ∀ a ∈ l.take k, q a) (hx : q x) : ∀ a ∈ l.take (k + 1), q a := by
  rw [take_get h]
  intro a hm
  rcases List.mem_append.1 hm with hm | hm
  · exact ha a hm
  · rw [List.mem_singleton.1 hm]; exact hx
set_option maxHeartbeats 8000000 in
set_option maxRecDepth 100000 in
theorem light_any (p : Pj) (c : PC) (w : World) (hs : PjMx p) (hp : PjAt w w.heap.size p c) :
    Calls Tryz.prog 7 #[.agg #[.string (B p.ti), .string (B p.la), .string (B p.ma), .string (B p.so), .string (B p.st), .slice c.A c.na c.ca, .slice c.F c.nf c.cf, .slice c.T c.nt c.ct]] w (LiPost p w) := by
  obtain ⟨A, na, ca, F, nf, cf, T, nt, ct⟩ := c
  obtain ⟨hv, hf, hT⟩ := hp
  have hv : Rd w w.heap.size 2 A na (p.vs.flatMap prF) := hv
  have hf : Rd w w.heap.size 1 F nf (strs p.fs) := hf
  have hT : Rd w w.heap.size 4 T nt (p.ts.flatMap tgF) := hT
  have l1 := hv.count prF 2 prF_len (by omega)
  have l2 := hf.strs_length
  have l3 := hT.count tgF 4 tgF_len (by omega)
  have k1 : na ≤ 140737488355328 := by have := hs.nv; omega
  have k2 : nf ≤ 140737488355328 := by have := hs.nf; omega
  have k3 : nt ≤ 140737488355328 := by have := hs.nt; omega
  have s0 := hs.ti
  have s1 := hs.la
  have s2 := hs.ma
  have s3 := hs.so
  have s4 := hs.st
  have HS := Lib.hid hs
  have L1 := Lib.hid l1
  have L2 := Lib.hid l2
  have L3 := Lib.hid l3
  clear l1 l2 l3 hs
  have hbW := below_alloc w (.cells #[.string (B p.ti), .string (B p.la), .string (B p.ma), .string (B p.so), .string (B p.st), .slice A na ca, .slice F nf cf, .slice T nt ct] 26)
  have hP : PB w.heap.size p (.slice A na ca) (.slice F nf cf) (.slice T nt ct) (w.alloc (.cells #[.string (B p.ti), .string (B p.la), .string (B p.ma), .string (B p.so), .string (B p.st), .slice A na ca, .slice F nf cf, .slice T nt ct] 26)) := heap_alloc_new w _
  have j1 : IntKind.i64.wrap ((p.ti.length : Int) + (p.la.length : Int)) = (p.ti.length : Int) + (p.la.length : Int) := IntWalk.i64_in _ (by omega)
  have j2 : IntKind.i64.wrap ((p.ti.length : Int) + (p.la.length : Int) + (p.ma.length : Int)) = (p.ti.length : Int) + (p.la.length : Int) + (p.ma.length : Int) := IntWalk.i64_in _ (by omega)
  have j3 : IntKind.i64.wrap ((p.ti.length : Int) + (p.la.length : Int) + (p.ma.length : Int) + (p.so.length : Int)) = (p.ti.length : Int) + (p.la.length : Int) + (p.ma.length : Int) + (p.so.length : Int) := IntWalk.i64_in _ (by omega)
  have j4 : IntKind.i64.wrap ((p.ti.length : Int) + (p.la.length : Int) + (p.ma.length : Int) + (p.so.length : Int) + (p.st.length : Int)) = (p.ti.length : Int) + (p.la.length : Int) + (p.ma.length : Int) + (p.so.length : Int) + (p.st.length : Int) := IntWalk.i64_in _ (by omega)
  by_cases h1 : 900 < p.ti.length + p.la.length + p.ma.length + p.so.length + p.st.length
  · have i1 : (900 : Int) < (p.ti.length : Int) + (p.la.length : Int) + (p.ma.length : Int) + (p.so.length : Int) + (p.st.length : Int) := by omega
    go_enter Tryz.func7, Tryz.ntmps7
    go_wp2
    go_ret
    exact li_no hbW
  have i1 : ¬ (900 : Int) < (p.ti.length : Int) + (p.la.length : Int) + (p.ma.length : Int) + (p.so.length : Int) + (p.st.length : Int) := by omega
  have H1 := Lib.hid h1
  clear h1
  by_cases h2 : 40 < na
  · have i2 : (40 : Int) < (na : Int) := by omega
    go_enter Tryz.func7, Tryz.ntmps7
    go_wp2
    go_ret
    exact li_no hbW
  have i2 : ¬ (40 : Int) < (na : Int) := by omega
  by_cases h3 : 40 < nf
  · have i3 : (40 : Int) < (nf : Int) := by omega
    go_enter Tryz.func7, Tryz.ntmps7
    go_wp2
    go_ret
    exact li_no hbW
  have i3 : ¬ (40 : Int) < (nf : Int) := by omega
  by_cases h4 : 12 < nt
  · have i4 : (12 : Int) < (nt : Int) := by omega
    go_enter Tryz.func7, Tryz.ntmps7
    go_wp2
    go_ret
    exact li_no hbW
  have i4 : ¬ (12 : Int) < (nt : Int) := by omega
  go_enter Tryz.func7, Tryz.ntmps7
  go_wp2
  clear i1 i2 i3 i4 j1 j2 j3 j4 s0 s1 s2 s3 s4
  go_loopw [3] (fun i wr => ∃ j : Nat, j ≤ na ∧ i = .int .i64 j ∧ Below w.heap.size w wr ∧ Hid (PB w.heap.size p (.slice A na ca) (.slice F nf cf) (.slice T nt ct) wr) ∧ Hid (∀ v ∈ p.vs.take j, (fun v => v.1.length + v.2.length ≤ 200) v)) (fun i _ => na - (intOf i).toNat)
  case atStart => exact ⟨0, Nat.zero_le _, rfl, hbW, hP, by simp [Hid]⟩
  case round =>
    clear hP hbW
    obtain ⟨j, hj, rfl, hbw, hP, hr⟩ := hrel
    replace hP := hP.out
    have HPP := Lib.hid hP
    have p5 := hP.c5
    by_cases hlt : j < na
    · obtain ⟨x, hx⟩ := get_of (l := p.vs) (k := j) (by rw [L1.out]; exact hlt)
      have hxl := HS.out.vs x (List.mem_of_getElem? hx)
      have i1 : (0 : Int) ≤ (j : Int) := by omega
      have i2 : (j : Int) < (na : Int) := by omega
      obtain ⟨b, o, rfl, hbm, hcell⟩ := (hv.below hbw).elem prF 2 prF_len (by omega) hx
      have c0 : wr.cell? ⟨b, o + j * 2, none⟩ = some (.string (B x.1)) := hcell 0 _ rfl
      have c1 : wr.cell? ⟨b, o + j * 2 + 1, none⟩ = some (.string (B x.2)) := hcell 1 _ rfl
      have j1 : IntKind.i64.wrap ((x.1.length : Int) + (x.2.length : Int)) = (x.1.length : Int) + (x.2.length : Int) := IntWalk.i64_in _ (by omega)
      clear hcell hbm
      have hbw3 := hbw
      by_cases hb : 200 < x.1.length + x.2.length
      · have i3 : (200 : Int) < (x.1.length : Int) + (x.2.length : Int) := by omega
        clear hP hr hx hxl
        go_wp2
        go_quiet (fail)
        go_wp2
        go_ret
        exact li_no (below_drewN hbw3 _)
      have i3 : ¬ (200 : Int) < (x.1.length : Int) + (x.2.length : Int) := by omega
      have HR : Hid (∀ v ∈ p.vs.take (j + 1), (fun v => v.1.length + v.2.length ≤ 200) v) := Lib.hid (all_take (q := fun v => v.1.length + v.2.length ≤ 200) hx hr.out (by show _ ≤ _; omega))
      clear hP hr hx hxl
      go_wp2
      go_quiet (fail)
      go_wp2
      go_roundw
      case rel => exact ⟨j + 1, by omega, by go_num, below_drewN hbw3 _, HPP.out, HR⟩
      case measure => simp [intOf]; omega
    · have HV1 : Hid (∀ v ∈ p.vs, (fun v => v.1.length + v.2.length ≤ 200) v) := by
        have h := hr.out
        rw [List.take_of_length_le (by rw [L1.out]; omega)] at h
        exact h
      clear hr
      go_wp2
      clear p5
      go_loopw [4] (fun i wr => ∃ j : Nat, j ≤ nf ∧ i = .int .i64 j ∧ Below w.heap.size w wr ∧ Hid (PB w.heap.size p (.slice A na ca) (.slice F nf cf) (.slice T nt ct) wr) ∧ Hid (∀ v ∈ p.fs.take j, (fun v => v.length ≤ 100) v)) (fun i _ => nf - (intOf i).toNat)
      case atStart => exact ⟨0, Nat.zero_le _, rfl, hbw, hP, by simp [Hid]⟩
      case round =>
        clear hP hbw
        obtain ⟨j, hj, rfl, hbw, hP, hr⟩ := hrel
        replace hP := hP.out
        have HPP := Lib.hid hP
        have p6 := hP.c6
        by_cases hlt : j < nf
        · obtain ⟨x, hx⟩ := get_of (l := p.fs) (k := j) (by rw [L2.out]; exact hlt)
          have hxl := HS.out.fs x (List.mem_of_getElem? hx)
          have i1 : (0 : Int) ≤ (j : Int) := by omega
          have i2 : (j : Int) < (nf : Int) := by omega
          have hgx : p.fs.getD j [] = x := by rw [List.getD_eq_getElem?_getD, hx]; rfl
          obtain ⟨ad, rfl, c0⟩ := (hf.below hbw).str hlt
          rw [hgx] at c0
          clear hgx
          by_cases hb : 100 < x.length
          · have i3 : (100 : Int) < (x.length : Int) := by omega
            clear hP hr hx
            go_wp2
            go_ret
            exact li_no hbw
          have i3 : ¬ (100 : Int) < (x.length : Int) := by omega
          have HR : Hid (∀ v ∈ p.fs.take (j + 1), (fun v => v.length ≤ 100) v) := Lib.hid (all_take (q := fun v => v.length ≤ 100) hx hr.out (by show _ ≤ _; omega))
          clear hP hr hx
          have hbw3 := hbw
          go_wp2
          go_roundw
          case rel => exact ⟨j + 1, by omega, by go_num, hbw3, HPP.out, HR⟩
          case measure => simp [intOf]; omega
        · have HV2 : Hid (∀ v ∈ p.fs, (fun v => v.length ≤ 100) v) := by
            have h := hr.out
            rw [List.take_of_length_le (by rw [L2.out]; omega)] at h
            exact h
          clear hr
          go_wp2
          clear p6
          go_loopw [5] (fun i wr => ∃ j : Nat, j ≤ nt ∧ i = .int .i64 j ∧ Below w.heap.size w wr ∧ Hid (PB w.heap.size p (.slice A na ca) (.slice F nf cf) (.slice T nt ct) wr) ∧ Hid (∀ v ∈ p.ts.take j, (fun v => v.nm.length + v.kd.length ≤ 200) v)) (fun i _ => nt - (intOf i).toNat)
          case atStart => exact ⟨0, Nat.zero_le _, rfl, hbw, hP, by simp [Hid]⟩
          case round =>
            clear hP hbw
            obtain ⟨j, hj, rfl, hbw, hP, hr⟩ := hrel
            replace hP := hP.out
            have HPP := Lib.hid hP
            have p7 := hP.c7
            by_cases hlt : j < nt
            · obtain ⟨x, hx⟩ := get_of (l := p.ts) (k := j) (by rw [L3.out]; exact hlt)
              have hxl := HS.out.ts x (List.mem_of_getElem? hx)
              have i1 : (0 : Int) ≤ (j : Int) := by omega
              have i2 : (j : Int) < (nt : Int) := by omega
              obtain ⟨b, o, rfl, hbm, hcell⟩ := (hT.below hbw).elem tgF 4 tgF_len (by omega) hx
              have c0 : wr.cell? ⟨b, o + j * 4, none⟩ = some (.string (B x.nm)) := hcell 0 _ rfl
              have c1 : wr.cell? ⟨b, o + j * 4 + 1, none⟩ = some (.string (B x.kd)) := hcell 1 _ rfl
              have j1 : IntKind.i64.wrap ((x.nm.length : Int) + (x.kd.length : Int)) = (x.nm.length : Int) + (x.kd.length : Int) := IntWalk.i64_in _ (by omega)
              clear hcell hbm
              have hbw3 := hbw
              by_cases hb : 200 < x.nm.length + x.kd.length
              · have i3 : (200 : Int) < (x.nm.length : Int) + (x.kd.length : Int) := by omega
                clear hP hr hx hxl
                go_wp2
                go_quiet (fail)
                go_wp2
                go_ret
                exact li_no (below_drewN hbw3 _)
              have i3 : ¬ (200 : Int) < (x.nm.length : Int) + (x.kd.length : Int) := by omega
              have HR : Hid (∀ v ∈ p.ts.take (j + 1), (fun v => v.nm.length + v.kd.length ≤ 200) v) := Lib.hid (all_take (q := fun v => v.nm.length + v.kd.length ≤ 200) hx hr.out (by show _ ≤ _; omega))
              clear hP hr hx hxl
              go_wp2
              go_quiet (fail)
              go_wp2
              go_roundw
              case rel => exact ⟨j + 1, by omega, by go_num, below_drewN hbw3 _, HPP.out, HR⟩
              case measure => simp [intOf]; omega
            · have HV3 : Hid (∀ v ∈ p.ts, (fun v => v.nm.length + v.kd.length ≤ 200) v) := by
                have h := hr.out
                rw [List.take_of_length_le (by rw [L3.out]; omega)] at h
                exact h
              clear hr
              have HLL : Hid (Light p) := ⟨by have := H1.out; omega, HV1.out, HV2.out, HV3.out, by rw [L1.out]; omega, by rw [L2.out]; omega, by rw [L3.out]; omega⟩
              have hbw3 := hbw
              clear hP
              go_wp2
              go_ret
              exact ⟨_, rfl, hbw3, fun _ => HLL.out⟩
end Go.Proofs.YtmkenekngaihhaaGreatDoor
namespace Go.Proofs.YtmkenekngaihhaaGreatDoor
open Go.RowKit
set_option linter.unusedVariables false
set_option linter.unusedSimpArgs false

def pX0 : Pj := ⟨[65, 32, 98], [101, 110], [97, 46, 109, 100], [], [], [], [], []⟩
def tX : List Tg := [⟨[119, 101, 98], [104, 116, 109, 108], 0, 0⟩, ⟨[112, 114, 105, 110, 116], [112, 97, 103, 101, 115], 40, 4000⟩]
def pX1 : Pj := ⟨[65, 32, 98], [101, 110], [97, 46, 109, 100], [], [], [], [], tX⟩
def wantX : List UInt8 := [116, 105, 116, 108, 101, 32, 61, 32, 65, 32, 98, 10, 108, 97, 110, 103, 32, 61, 32, 101, 110, 10, 109, 97, 105, 110, 32, 61, 32, 97, 46, 109, 100, 10, 115, 111, 117, 114, 99, 101, 115, 32, 61, 10, 115, 116, 121, 108, 101, 32, 61, 10, 116, 97, 114, 103, 101, 116, 32, 119, 101, 98, 32, 104, 116, 109, 108, 10, 116, 97, 114, 103, 101, 116, 32, 112, 114, 105, 110, 116, 32, 112, 97, 103, 101, 115, 32, 52, 48, 32, 52, 48, 48, 48, 10]
theorem ckX0 : checkE pkG pX0 = 8 := by kernel_rfl
theorem ckX1 : checkE pkG pX1 = 0 := by kernel_rfl
theorem txX1 : textP pX1 = wantX := by
  have h1 : numS 40 = [52, 48] := by rw [numS, dif_neg (by decide), numS, dif_pos (by decide)]; rfl
  have h2 : numS 4000 = [52, 48, 48, 48] := by rw [numS, dif_neg (by decide), numS, dif_neg (by decide), numS, dif_neg (by decide), numS, dif_pos (by decide)]; rfl
  simp [textP, pX1, tX, wantX, linesP, targetL, setL, eqTail, kPages, h1, h2]
theorem paX0 : parseL pkG (split []) = (pj0, 1, 5) := rfl
theorem paX1 : parseL pkG (split wantX) = (pX1, 0, 0) := by kernel_rfl
theorem smX0 : PjSm pX0 := ⟨by decide, by decide, by decide, by decide, by decide, (by intro v h; cases h), (by intro v h; cases h), (by intro v h; cases h), by decide, by decide, by decide⟩
theorem smX1 : PjSm pX1 := ⟨by decide, by decide, by decide, by decide, by decide, (by intro v h; cases h), (by intro v h; cases h), by
  intro v h
  simp only [pX1, tX, List.mem_cons, List.not_mem_nil, or_false] at h
  rcases h with rfl | rfl
  · exact ⟨by decide, by decide⟩
  · exact ⟨by decide, by decide⟩, by decide, by decide, by decide⟩
end Go.Proofs.YtmkenekngaihhaaGreatDoor
namespace Go.Proofs.YtmkenekngaihhaaGreatDoor
open Go.RowKit
set_option linter.unusedVariables false
set_option linter.unusedSimpArgs false
attribute [local go_sem] B_data B_size

/-- what is known while the examples run -/
structure AW (w : World) (q : Nat) (T : Option Addr) (W : World) : Prop where
  b : Below w.heap.size w W
  pb : PB q pX1 (.slice none 0 0) (.slice none 0 0) (.slice T 2 2) W
  rd : Rd W W.heap.size 4 T 2 (tX.flatMap tgF)
  g : GlobL W
theorem AW.step {w : World} {q : Nat} {T : Option Addr} {W W' : World} (h : AW w q T W) (hb : Below W.heap.size W W') : AW w q T W' :=
  ⟨h.b.trans (hb.mono h.b.size), h.pb.step hb, (h.rd.below hb).more hb.size, h.g.below hb⟩
theorem AW.at1 {w : World} {q : Nat} {T : Option Addr} {W : World} (h : AW w q T W) : PjAt W W.heap.size pX1 ⟨none, 0, 0, none, 0, 0, T, 2, 2⟩ := ⟨Rd.nil, Rd.nil, h.rd⟩
/-- the project that was read, in its block -/
structure AZ (q : Nat) (A G H : Option Addr) (a g h : Nat) (W : World) : Prop where
  pb : PB q pX1 (.slice A pX1.vs.length a) (.slice G pX1.fs.length g) (.slice H pX1.ts.length h) W
  r1 : Rd W W.heap.size 2 A pX1.vs.length (pX1.vs.flatMap prF)
  r2 : Rd W W.heap.size 1 G pX1.fs.length (strs pX1.fs)
  r3 : Rd W W.heap.size 4 H pX1.ts.length (pX1.ts.flatMap tgF)
theorem AZ.step {q : Nat} {A G H : Option Addr} {a g h : Nat} {W W' : World} (z : AZ q A G H a g h W) (hb : Below W.heap.size W W') : AZ q A G H a g h W' :=
  ⟨z.pb.step hb, (z.r1.below hb).more hb.size, (z.r2.below hb).more hb.size, (z.r3.below hb).more hb.size⟩
theorem AZ.at1 {q : Nat} {A G H : Option Addr} {a g h : Nat} {W : World} (z : AZ q A G H a g h W) : PjAt W W.heap.size pX1 ⟨A, pX1.vs.length, a, G, pX1.fs.length, g, H, pX1.ts.length, h⟩ := ⟨z.r1, z.r2, z.r3⟩
theorem txE1 : txtE pX1 = wantX := by unfold txtE; rw [ckX1, if_pos rfl, txX1]
theorem want_beq : (wantX == [116, 105, 116, 108, 101, 32, 61, 32, 65, 32, 98, 10, 108, 97, 110, 103, 32, 61, 32, 101, 110, 10, 109, 97, 105, 110, 32, 61, 32, 97, 46, 109, 100, 10, 115, 111, 117, 114, 99, 101, 115, 32, 61, 10, 115, 116, 121, 108, 101, 32, 61, 10, 116, 97, 114, 103, 101, 116, 32, 119, 101, 98, 32, 104, 116, 109, 108, 10, 116, 97, 114, 103, 101, 116, 32, 112, 114, 105, 110, 116, 32, 112, 97, 103, 101, 115, 32, 52, 48, 32, 52, 48, 48, 48, 10]) = true := rfl
set_option maxHeartbeats 8000000 in
set_option maxRecDepth 100000 in
theorem awake_any (w : World) (hG : GlobL w) : Calls Tryz.prog 8 #[] w (EqPost true w) := by
  have hbw := below_alloc w (.cells #[.string ⟨#[65, 32, 98]⟩, .string ⟨#[101, 110]⟩, .string ⟨#[97, 46, 109, 100]⟩, .string ⟨#[]⟩, .string ⟨#[]⟩, .slice none 0 0, .slice none 0 0, .slice none 0 0] 26)
  have hB : PB w.heap.size pX0 (.slice none 0 0) (.slice none 0 0) (.slice none 0 0) (w.alloc (.cells #[.string ⟨#[65, 32, 98]⟩, .string ⟨#[101, 110]⟩, .string ⟨#[97, 46, 109, 100]⟩, .string ⟨#[]⟩, .string ⟨#[]⟩, .slice none 0 0, .slice none 0 0, .slice none 0 0] 26)) := heap_alloc_new w _
  have hG1 := hG.below hbw
  have HC := Lib.hid (fun (V : World) (hV : Fil.Glob V) => check_any pX0 ⟨none, 0, 0, none, 0, 0, none, 0, 0⟩ V smX0 ⟨Rd.nil, Rd.nil, Rd.nil⟩ hV)
  go_enter Tryz.func8, Tryz.ntmps8
  go_wp2_with fail
  refine (HC.out _ hG1.1).mono ?_
  rintro e w1 ⟨rfl, hb1⟩
  rw [ckX0]
  have hB1 := hB.step hb1
  have hb2 := hbw.trans (hb1.mono hbw.size)
  have hG2 := hG1.below hb1
  clear hbw hB hG1 HC hb1
  have hba := below_alloc w1 (.cells #[.string ⟨#[119, 101, 98]⟩, .string ⟨#[104, 116, 109, 108]⟩, .int .i64 0, .int .i64 0, .string ⟨#[112, 114, 105, 110, 116]⟩, .string ⟨#[112, 97, 103, 101, 115]⟩, .int .i64 40, .int .i64 4000] 38)
  have hql := hB1.lt
  have hBa := hB1.step hba
  have f7 := hBa.ff (i := 7)
  have g7 := hBa.c7
  have esz : (w1.setCell ⟨w.heap.size, 7, none⟩ (.slice (some ⟨w1.heap.size, 0, none⟩) 2 2)).heap.size = w1.heap.size := by simp [World.setCell]
  have hg := grown_setC (i := 7) (u := (.slice (some ⟨w1.heap.size, 0, none⟩) 2 2)) (World.grownBy.refl w1 (some w.heap.size))
  have hbs : Below w.heap.size w1 (w1.setCell ⟨w.heap.size, 7, none⟩ (.slice (some ⟨w1.heap.size, 0, none⟩) 2 2)) := below_of_grown hg hb2.size (fun k hk => by injection hk with hk; omega)
  have hbl := below_alloc (w1.setCell ⟨w.heap.size, 7, none⟩ (.slice (some ⟨w1.heap.size, 0, none⟩) 2 2)) (.cells #[.string ⟨#[119, 101, 98]⟩, .string ⟨#[104, 116, 109, 108]⟩, .int .i64 0, .int .i64 0, .string ⟨#[112, 114, 105, 110, 116]⟩, .string ⟨#[112, 97, 103, 101, 115]⟩, .int .i64 40, .int .i64 4000] 38)
  have hO : ((w1.setCell ⟨w.heap.size, 7, none⟩ (.slice (some ⟨w1.heap.size, 0, none⟩) 2 2)).alloc (.cells #[.string ⟨#[119, 101, 98]⟩, .string ⟨#[104, 116, 109, 108]⟩, .int .i64 0, .int .i64 0, .string ⟨#[112, 114, 105, 110, 116]⟩, .string ⟨#[112, 97, 103, 101, 115]⟩, .int .i64 40, .int .i64 4000] 38)).ownsRow w1.heap.size 38 4 (.slice (some ⟨w1.heap.size, 0, none⟩) 2 2) 2 (tX.flatMap tgF) := by
    have h := World.ownsRow_lit (base := w1.heap.size) (e := 38) (size := 4) (w1.setCell ⟨w.heap.size, 7, none⟩ (.slice (some ⟨w1.heap.size, 0, none⟩) 2 2)) #[.string ⟨#[119, 101, 98]⟩, .string ⟨#[104, 116, 109, 108]⟩, .int .i64 0, .int .i64 0, .string ⟨#[112, 114, 105, 110, 116]⟩, .string ⟨#[112, 97, 103, 101, 115]⟩, .int .i64 40, .int .i64 4000] 2 (by omega) (by decide) rfl
    rw [esz] at h
    exact h
  have hb3 := (hb2.trans hbs).trans (hbl.mono (by omega))
  have hAW : AW w w.heap.size (some ⟨w1.heap.size, 0, none⟩) ((w1.setCell ⟨w.heap.size, 7, none⟩ (.slice (some ⟨w1.heap.size, 0, none⟩) 2 2)).alloc (.cells #[.string ⟨#[119, 101, 98]⟩, .string ⟨#[104, 116, 109, 108]⟩, .int .i64 0, .int .i64 0, .string ⟨#[112, 114, 105, 110, 116]⟩, .string ⟨#[112, 97, 103, 101, 115]⟩, .int .i64 40, .int .i64 4000] 38)) := ⟨hb3, (hB1.set7 tX).step hbl, Rd.of_own hO, hG.below hb3⟩
  have p0 := hAW.pb.d0
  have p1 := hAW.pb.d1
  have p2 := hAW.pb.d2
  have p3 := hAW.pb.d3
  have p4 := hAW.pb.d4
  have p5 := hAW.pb.c5
  have p6 := hAW.pb.c6
  have p7 := hAW.pb.c7
  clear hb2 hB1 hG2 hBa hba hO hg hbs hb3 hbl esz
  go_wp2_with fail
  refine (text_any pX1 _ _ smX1 hAW.at1 hAW.g).mono ?_
  rintro e w3 ⟨rfl, hb3⟩
  rw [ckX1, txE1]
  have hA3 := hAW.step hb3
  clear f7 g7 hAW hb3 p0 p1 p2 p3 p4 p5 p6 p7
  go_wp2_with fail
  refine (parse_any (B wantX) _ (by rw [B_size]; decide) hA3.g.1).mono ?_
  rintro e w4 ⟨p, line, err, A, G, H, a, g, h, hpl, rfl, hb4, hv4⟩
  rw [B_data, paX1] at hpl
  obtain ⟨rfl, rfl, rfl⟩ : p = pX1 ∧ line = 0 ∧ err = 0 := by injection hpl with h1 h2; injection h2 with h2 h3; exact ⟨h1.symm, h2.symm, h3.symm⟩
  clear hpl
  have hA4 := hA3.step hb4
  have hba := below_alloc w4 (.cells #[.string (B pX1.ti), .string (B pX1.la), .string (B pX1.ma), .string (B pX1.so), .string (B pX1.st), .slice A pX1.vs.length a, .slice G pX1.fs.length g, .slice H pX1.ts.length h] 26)
  have hZ5 : AZ w4.heap.size A G H a g h (w4.alloc (.cells #[.string (B pX1.ti), .string (B pX1.la), .string (B pX1.ma), .string (B pX1.so), .string (B pX1.st), .slice A pX1.vs.length a, .slice G pX1.fs.length g, .slice H pX1.ts.length h] 26)) :=
    ⟨heap_alloc_new w4 _, ((Rd.of_own hv4.ov).below hba).more hba.size, ((Rd.of_own hv4.of).below hba).more hba.size, ((Rd.of_own hv4.ot).below hba).more hba.size⟩
  have hA5 := hA4.step hba
  clear hA3 hb4 hv4 hA4 hba
  go_wp2_with fail
  refine (parse_any (B []) _ (by decide) hA5.g.1).mono ?_
  rintro e w6 ⟨p, line, err, A', G', H', a', g', h', hpl, rfl, hb6, hv6⟩
  rw [B_data, paX0] at hpl
  obtain ⟨rfl, rfl, rfl⟩ : p = pj0 ∧ line = 1 ∧ err = 5 := by injection hpl with h1 h2; injection h2 with h2 h3; exact ⟨h1.symm, h2.symm, h3.symm⟩
  have hba := below_alloc w6 (.cells #[.string (B pj0.ti), .string (B pj0.la), .string (B pj0.ma), .string (B pj0.so), .string (B pj0.st), .slice A' pj0.vs.length a', .slice G' pj0.fs.length g', .slice H' pj0.ts.length h'] 26)
  have hA7 := (hA5.step hb6).step hba
  have hZ7 := (hZ5.step hb6).step hba
  clear hpl hb6 hv6 hba hA5 hZ5
  have p0 := hA7.pb.d0
  have p1 := hA7.pb.d1
  have p2 := hA7.pb.d2
  have p3 := hA7.pb.d3
  have p4 := hA7.pb.d4
  have p5 := hA7.pb.c5
  have p6 := hA7.pb.c6
  have p7 := hA7.pb.c7
  have wb := want_beq
  go_wp2_with fail
  refine (check_any pX1 _ _ smX1 hA7.at1 hA7.g.1).mono ?_
  rintro e w8 ⟨rfl, hb8⟩
  rw [ckX1]
  have hA8 := hA7.step hb8
  have hZ8 := hZ7.step hb8
  clear hb8 hA7 hZ7 p0 p1 p2 p3 p4 p5 p6 p7
  have p0 := hA8.pb.d0
  have p1 := hA8.pb.d1
  have p2 := hA8.pb.d2
  have p3 := hA8.pb.d3
  have p4 := hA8.pb.d4
  have p5 := hA8.pb.c5
  have p6 := hA8.pb.c6
  have p7 := hA8.pb.c7
  have z0 := hZ8.pb.d0
  have z1 := hZ8.pb.d1
  have z2 := hZ8.pb.d2
  have z3 := hZ8.pb.d3
  have z4 := hZ8.pb.d4
  have z5 := hZ8.pb.c5
  have z6 := hZ8.pb.c6
  have z7 := hZ8.pb.c7
  go_wp2_with fail
  refine (psame_any pX1 pX1 _ _ _ smX1 smX1 hA8.at1 hZ8.at1).mono ?_
  rintro e w9 ⟨rfl, hb9⟩
  rw [sameB_refl]
  have hb10 := hA8.b.trans (hb9.mono hA8.b.size)
  clear p0 p1 p2 p3 p4 p5 p6 p7 z0 z1 z2 z3 z4 z5 z6 z7 hA8 hZ8 hb9
  go_wp2
  go_ret
  exact ⟨rfl, hb10⟩
end Go.Proofs.YtmkenekngaihhaaGreatDoor
namespace Go.Proofs.YtmkenekngaihhaaGreatDoor
open Go.RowKit
set_option linter.unusedVariables false
set_option linter.unusedSimpArgs false
attribute [local go_sem] B_data B_size

/-- a project in its block, its rows, what the library's variables hold -/
structure LW (w : World) (p : Pj) (c : PC) (q : Nat) (W : World) : Prop where
  b : Below w.heap.size w W
  pb : PB q p (.slice c.A c.na c.ca) (.slice c.F c.nf c.cf) (.slice c.T c.nt c.ct) W
  at1 : PjAt W W.heap.size p c
  g : GlobL W
theorem LW.step {w : World} {p : Pj} {c : PC} {q : Nat} {W W' : World} (h : LW w p c q W) (hb : Below W.heap.size W W') : LW w p c q W' :=
  ⟨h.b.trans (hb.mono h.b.size), h.pb.step hb, h.at1.step hb, h.g.below hb⟩
theorem LW.new {w : World} {p : Pj} {c : PC} (hp : PjAt w w.heap.size p c) (hG : GlobL w) : LW w p c w.heap.size (w.alloc (.cells #[.string (B p.ti), .string (B p.la), .string (B p.ma), .string (B p.so), .string (B p.st), .slice c.A c.na c.ca, .slice c.F c.nf c.cf, .slice c.T c.nt c.ct] 26)) := by
  have hb := below_alloc w (.cells #[.string (B p.ti), .string (B p.la), .string (B p.ma), .string (B p.so), .string (B p.st), .slice c.A c.na c.ca, .slice c.F c.nf c.cf, .slice c.T c.nt c.ct] 26)
  exact ⟨hb, heap_alloc_new w _, hp.step hb, hG.below hb⟩
theorem LW.drew {w : World} {p : Pj} {c : PC} {q : Nat} {W : World} (h : LW w p c q W) : LW w p c q W.drew := h.step (Below.refl _ W).drew
theorem LW.alloc {w : World} {p : Pj} {c : PC} {q : Nat} {W : World} (h : LW w p c q W) (o : Obj) : LW w p c q (W.alloc o) := h.step (below_alloc W o)
theorem LW.c8 {w : World} {p : Pj} {c : PC} {q : Nat} {W : World} (h : LW w p c q W) : W.cell? ⟨q, 0, none⟩ = some (.string (B p.ti)) ∧ W.cell? ⟨q, 1, none⟩ = some (.string (B p.la)) ∧ W.cell? ⟨q, 2, none⟩ = some (.string (B p.ma)) ∧ W.cell? ⟨q, 3, none⟩ = some (.string (B p.so)) ∧ W.cell? ⟨q, 4, none⟩ = some (.string (B p.st)) ∧ W.cell? ⟨q, 5, none⟩ = some (.slice c.A c.na c.ca) ∧ W.cell? ⟨q, 6, none⟩ = some (.slice c.F c.nf c.cf) ∧ W.cell? ⟨q, 7, none⟩ = some (.slice c.T c.nt c.ct) := ⟨h.pb.d0, h.pb.d1, h.pb.d2, h.pb.d3, h.pb.d4, h.pb.c5, h.pb.c6, h.pb.c7⟩
theorem sm_pj0 : PjSm pj0 := ⟨by decide, by decide, by decide, by decide, by decide, (by intro v h; cases h), (by intro v h; cases h), (by intro v h; cases h), by decide, by decide, by decide⟩
/-- what is read from a short text is short -/
theorem parse_sm {s : ByteArray} {p : Pj} {line : Nat} {err : Int} (h : parseL pkG (split s.toList) = (p, line, err)) (hs : s.size ≤ 900000) : PjSm p := by
  unfold parseL at h
  split at h
  · injection h with h _; subst h; exact sm_pj0
  · rename_i vs r hh
    split at h
    · injection h with h _; subst h; exact sm_pj0
    · rename_i q ht
      split at h
      · injection h with h _; subst h; exact sm_pj0
      · injection h with h _
        subst h
        refine read_sm hh ht (fun l hl => ?_) ?_
        · have := split_lens hl; rw [len_toList] at this; omega
        · have := split_le s.toList; rw [len_toList] at this; omega
end Go.Proofs.YtmkenekngaihhaaGreatDoor
namespace Go.Proofs.YtmkenekngaihhaaGreatDoor
open Go.RowKit
set_option linter.unusedVariables false
set_option linter.unusedSimpArgs false

theorem mem_join {c : UInt8} {sep : List UInt8} : ∀ {ls : List (List UInt8)}, c ∈ Lib.join ls sep → c ∈ sep ∨ ∃ l ∈ ls, c ∈ l := by
  intro ls
  induction ls with
  | nil => intro h; exact absurd h (by simp [Lib.join, List.intercalate])
  | cons a r ih =>
    intro h
    cases r with
    | nil => rw [Lib.join_one] at h; exact .inr ⟨a, List.mem_cons_self .., h⟩
    | cons b r =>
      have e : Lib.join (a :: b :: r) sep = a ++ sep ++ Lib.join (b :: r) sep := by simp [Lib.join, List.intercalate]
      rw [e, List.mem_append, List.mem_append] at h
      rcases h with (h | h) | h
      · exact .inr ⟨a, List.mem_cons_self .., h⟩
      · exact .inl h
      · rcases ih h with h | ⟨l, h1, h2⟩
        · exact .inl h
        · exact .inr ⟨l, List.mem_cons_of_mem _ h1, h2⟩
theorem clean_no : ∀ (r kept ks : List (List UInt8)), (∀ k ∈ kept, 10 ∉ k) → Fil.cleanGo kept r = some ks → ∀ k ∈ ks, 10 ∉ k := by
  intro r
  induction r with
  | nil => intro kept ks h e; cases e; exact h
  | cons p r ih =>
    intro kept ks h e
    rw [Fil.cleanGo] at e
    split at e
    · exact ih _ _ h e
    · split at e
      · split at e
        · cases e
        · exact ih _ _ (fun k hk => h k (List.dropLast_subset _ hk)) e
      · split at e
        · cases e
        · rename_i hn
          refine ih _ _ (fun k hk => ?_) e
          rcases List.mem_append.1 hk with hk | hk
          · exact h k hk
          · rw [List.mem_singleton.1 hk]
            intro hm
            have hn : Fil.nameB p = true := by simpa using hn
            unfold Fil.nameB at hn
            simp only [Bool.and_eq_true] at hn
            have := List.all_eq_true.1 hn.2 10 hm
            revert this; decide
theorem path_no {s : List UInt8} (h : pathB s = true) : 10 ∉ s := by
  unfold pathB at h
  simp only [Bool.and_eq_true, decide_eq_true_eq, beq_iff_eq] at h
  obtain ⟨h1, h2⟩ := h
  have key : 10 ∉ Fil.clean s := by
    unfold Fil.clean
    cases hc : Fil.cleanGo [] (Fil.parts s) with
    | none => simp [Fil.cleanK]
    | some ks =>
      have hn := clean_no _ _ _ (by simp) hc
      show 10 ∉ if (Fil.joinSl ks).length ≤ 200 then Fil.joinSl ks else []
      split
      · intro hm
        rcases mem_join hm with h | ⟨l, h1, h2⟩
        · revert h; decide
        · exact hn l h1 h2
      · simp
  rwa [h2] at key
theorem pk_ok : PkOk pkG where
  tr := fun s h => by
    have h : trimB s = true := h
    unfold trimB at h
    simp only [Bool.and_eq_true, Bool.not_eq_true', decide_eq_false_iff_not] at h
    exact h.1.2
  pa := fun s h => path_no h
  la := fun s h => by
    have h : langB s = true := h
    unfold langB at h
    simp only [Bool.or_eq_true, beq_iff_eq] at h
    rcases h with ((h | h) | h) | h <;> rw [h] <;> decide
  nm := fun s h => ⟨(nm3_facts h).1, (nm3_facts h).2.1, (nm3_facts h).2.2.1⟩
theorem split_text {p : Pj} (h : checkE pkG p = 0) : split (textP p) = linesP p := split_join (linesP p) (lines_no pk_ok h)
theorem parse_text {p : Pj} (h : checkE pkG p = 0) : parseL pkG (split (textP p)) = (p, 0, 0) := by rw [split_text h]; exact parse_back pk_ok h
theorem flat_len {α : Type} (f : α → List UInt8) (m : Nat) : ∀ l : List α, (∀ x ∈ l, (f x).length ≤ m) → (l.flatMap f).length ≤ l.length * m := by
  intro l
  induction l with
  | nil => intro _; simp
  | cons a r ih =>
    intro h
    have h1 := h a (List.mem_cons_self ..)
    have h2 := ih (fun x hx => h x (List.mem_cons_of_mem _ hx))
    rw [List.flatMap_cons, List.length_append, List.length_cons, Nat.succ_mul]
    omega
theorem targets_kind : ∀ (ts : List Tg) (seen : List (List UInt8)), targetsE pkG seen ts = 0 → ∀ t ∈ ts, kindE t = 0 := by
  intro ts
  induction ts with
  | nil => intro _ _ t h; cases h
  | cons a r ih =>
    intro seen h t ht
    rw [targetsE] at h
    split at h
    · omega
    · split at h
      · omega
      · split at h
        · rename_i hk; exact absurd h hk
        · rename_i hk
          rcases List.mem_cons.1 ht with rfl | ht
          · exact Classical.not_not.1 hk
          · exact ih _ h t ht
theorem text_len {p : Pj} (hl : Light p) (h : checkE pkG p = 0) : (textP p).length ≤ 900000 := by
  obtain ⟨_, _, _, h4, n1, n2, n3, _⟩ := check_parts h
  have b1 := lnL_len [116, 105, 116, 108, 101] p.ti
  have b2 := lnL_len [108, 97, 110, 103] p.la
  have b3 := lnL_len [109, 97, 105, 110] p.ma
  have b4 := lnL_len [115, 111, 117, 114, 99, 101, 115] p.so
  have b5 := lnL_len [115, 116, 121, 108, 101] p.st
  have b6 := hl.sum
  have c1 := flat_len varL 300 p.vs (fun v hv => by
    have := lnL_len ([118, 97, 114, 32] ++ v.1) v.2
    have := hl.vs v hv
    unfold varL
    simp only [List.length_append, List.length_cons, List.length_nil] at *
    omega)
  have c2 := flat_len flL 200 p.fs (fun v hv => by
    have := hl.fs v hv
    unfold flL
    simp only [List.length_append, List.length_cons, List.length_nil] at *
    omega)
  have c3 := flat_len tgL 105000 p.ts (fun t ht => by
    have hk := targets_kind _ _ h4 t ht
    have := hl.ts t ht
    by_cases hp : t.kd = kPages
    · obtain ⟨a, b, _, _, ha, hb, e⟩ := pages_num hk hp
      have := numS_len a
      have := numS_len b
      have h5 : kPages.length = 5 := rfl
      rw [e]
      simp only [List.length_append, List.length_cons, List.length_nil]
      omega
    · rw [other_tgL hp]
      simp only [List.length_append, List.length_cons, List.length_nil]
      omega)
  rw [textP_eq]
  unfold hd5
  simp only [List.length_append, List.length_cons, List.length_nil] at *
  have d1 : p.vs.length * 300 ≤ 32 * 300 := Nat.mul_le_mul_right _ n1
  have d2 : p.fs.length * 200 ≤ 32 * 200 := Nat.mul_le_mul_right _ n2
  have d3 : p.ts.length * 105000 ≤ 8 * 105000 := Nat.mul_le_mul_right _ n3
  omega
end Go.Proofs.YtmkenekngaihhaaGreatDoor
