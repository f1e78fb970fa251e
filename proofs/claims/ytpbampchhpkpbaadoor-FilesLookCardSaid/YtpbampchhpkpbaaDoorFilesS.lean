/-
  Layer 16 (files): lists of files in memory: find, Get, Same.
-/
import Derived.Test.YtpbampchhpkpbaaDoorFilesH
import Derived.Laws.StructEq
namespace Go.Proofs.YtpbampchhpkpbaaDoor
set_option linter.unusedSimpArgs false
open Go.RowKit
set_option linter.unusedVariables false
attribute [local go_sem] B_data B_size

/-- files, as cells -/
def fls (fs : List (List UInt8 × List UInt8)) : List Value := fs.flatMap fun f => [.string (B f.1), .string (B f.2)]
theorem fls_len (fs : List (List UInt8 × List UInt8)) : (fls fs).length = 2 * fs.length := by
  induction fs with
  | nil => rfl
  | cons f r ih => simp only [fls, List.flatMap_cons, List.length_append, List.length_cons] at ih ⊢; simp at ih ⊢; omega
theorem fls_at (fs : List (List UInt8 × List UInt8)) (k : Nat) (h : k < fs.length) : (fls fs)[k * 2]? = some (.string (B (fs[k]?.getD ([], [])).1)) ∧ (fls fs)[k * 2 + 1]? = some (.string (B (fs[k]?.getD ([], [])).2)) := by
  induction fs generalizing k with
  | nil => simp at h
  | cons f r ih =>
    cases k with
    | zero => simp [fls]
    | succ k =>
      have := ih k (by simpa using h)
      have e : fls (f :: r) = [.string (B f.1), .string (B f.2)] ++ fls r := by simp [fls]
      rw [e]
      have e1 : (k + 1) * 2 = 2 + k * 2 := by omega
      have e2 : (k + 1) * 2 + 1 = 2 + (k * 2 + 1) := by omega
      rw [e2, e1, List.getElem?_append_right (by simp), List.getElem?_append_right (by simp)]
      simpa using this
theorem Rd.file {w : World} {M n k : Nat} {A : Option Addr} {fs : List (List UInt8 × List UInt8)} (h : Rd w M 2 A n (fls fs)) (hk : k < n) :
    ∃ b o, A = some ⟨b, o, none⟩ ∧ b < M ∧ w.cell? ⟨b, o + k * 2, none⟩ = some (.string (B (fs[k]?.getD ([], [])).1)) ∧ w.cell? ⟨b, o + k * 2 + 1, none⟩ = some (.string (B (fs[k]?.getD ([], [])).2)) := by
  obtain ⟨ad, e, hb, hc⟩ := h.2 (by omega)
  have hl : k < fs.length := by have := h.1; rw [fls_len] at this; omega
  obtain ⟨h1, h2⟩ := fls_at fs k hl
  obtain ⟨b, o, spot⟩ := ad
  have hx0 := hc 0 _ (List.getElem?_eq_getElem (by rw [fls_len]; omega))
  have hsp : spot = none := by simpa [Addr.add] using World.cell?_spot hx0
  subst hsp
  have c1 := hc _ _ h1
  have c2 := hc _ _ h2
  rw [addr_lit] at c1 c2
  exact ⟨b, o, e, hb, c1, c2⟩
theorem Rd.fls_length {w : World} {M n : Nat} {A : Option Addr} {fs : List (List UInt8 × List UInt8)} (h : Rd w M 2 A n (fls fs)) : fs.length = n := by
  have := h.1; rw [fls_len] at this; omega

/-- the index of the first file with a name, or -1 -/
def findL (name : List UInt8) : List (List UInt8 × List UInt8) → Nat → Int
  | [], _ => -1
  | f :: r, i => if f.1 = name then i else findL name r (i + 1)

theorem fdrop (fs : List (List UInt8 × List UInt8)) (k : Nat) (h : k < fs.length) : fs.drop k = fs[k]?.getD ([], []) :: fs.drop (k + 1) := by
  rw [List.drop_eq_getElem_cons h]; simp [h]
theorem findL_cases (name : List UInt8) (fs : List (List UInt8 × List UInt8)) (i : Nat) : findL name fs i = -1 ∨ ∃ k : Nat, k < fs.length ∧ findL name fs i = ((i + k : Nat) : Int) ∧ (fs[k]?.getD ([], [])).1 = name := by
  induction fs generalizing i with
  | nil => left; rfl
  | cons f r ih =>
    rw [findL]
    by_cases h : f.1 = name
    · right; exact ⟨0, by simp, by rw [if_pos h]; simp, by simpa using h⟩
    · rw [if_neg h]
      rcases ih (i + 1) with h' | ⟨k, hk, h', hn⟩
      · left; exact h'
      · right; exact ⟨k + 1, by simp; omega, by rw [h']; omega, by simpa using hn⟩
/-- what Get returns -/
def GetRet (fs : List (List UInt8 × List UInt8)) (name : List UInt8) : Ending :=
  if findL name fs 0 < 0 then .returned (.tuple #[.string ⟨#[]⟩, .bool false]) else .returned (.tuple #[.string (B (fs[(findL name fs 0).toNat]?.getD ([], [])).2), .bool true])
theorem fl_ext {xs ys : List (List UInt8 × List UInt8)} (hl : xs.length = ys.length) (h : ∀ j, j < xs.length → xs[j]?.getD ([], []) = ys[j]?.getD ([], [])) : xs = ys := by
  apply List.ext_getElem hl
  intro i h1 h2
  have := h i h1
  simpa [h1, h2] using this
theorem ret_fl_true {xs ys : List (List UInt8 × List UInt8)} (h : xs = ys) : Ending.returned (.bool true) = .returned (.bool (xs == ys)) := by simp [h]
theorem ret_fl_false {xs ys : List (List UInt8 × List UInt8)} (h : xs ≠ ys) : Ending.returned (.bool false) = .returned (.bool (xs == ys)) := by
  have : (xs == ys) = false := by simpa using h
  rw [this]
theorem file_eq (f g : List UInt8 × List UInt8) (W : World) : (Op.equalIn 10000 36 (.agg #[.string (B f.1), .string (B f.2)]) (.agg #[.string (B g.1), .string (B g.2)])).run Tryd.prog W = .ok (f.1 == g.1 && f.2 == g.2) W := by
  have u3 := Tryd.underlying9
  have a3 := Tryd.isAgg9
  have z3 := Tryd.sizeOf9
  have hS : Tryd.prog.underlying 36 = some (.struct (Tryd.prog.fieldsOf 36)) := by kernel_rfl
  have hp : Tryd.prog.stoodInHeld 36 = false := by kernel_rfl
  rw [show (10000 : Nat) = 9999 + 1 from rfl, run_equalIn_agg W 9999 36 _ _ hS hp]
  simp only [Program.fieldsOf, Tryd.underlying36]
  go_simp
  by_cases h1 : f.1 = g.1 <;> by_cases h2 : f.2 = g.2 <;> simp [h1, h2]
theorem file_neq (f g : List UInt8 × List UInt8) (W : World) : (binOp .neq 36 (.agg #[.string (B f.1), .string (B f.2)]) (.agg #[.string (B g.1), .string (B g.2)])).run Tryd.prog W = .ok (.bool (!(f.1 == g.1 && f.2 == g.2))) W := by
  rw [run_neq_struct, file_eq]; rfl

set_option maxHeartbeats 1000000 in
theorem find_any (A : Option Addr) (n c : Nat) (fs : List (List UInt8 × List UInt8)) (name : ByteArray) (w : World) (hx : Rd w w.heap.size 2 A n (fls fs)) (hn : n ≤ 1000000) :
    Calls Tryd.prog 42 #[.slice A n c, .string name] w fun e w' => e = .returned (.int .i64 (findL name.toList fs 0)) ∧ Below w.heap.size w w' := by
  have HL := Lib.hid hx.fls_length
  go_enter Tryd.func42, Tryd.ntmps42
  go_wp2
  go_loopw [9] (fun i wr => ∃ k : Nat, k ≤ n ∧ i = .int .i64 k ∧ Below w.heap.size w wr ∧ Hid (findL name.toList fs 0 = findL name.toList (fs.drop k) k)) (fun i _ => n - (intOf i).toNat)
  case atStart => exact ⟨0, Nat.zero_le _, rfl, Below.refl _ _, rfl⟩
  case round =>
    obtain ⟨k, hk, rfl, hbw, hr⟩ := hrel
    by_cases hlt : k < n
    · obtain ⟨b, o, rfl, hm, h0, h1⟩ := (hx.below hbw).file hlt
      have HD := Lib.hid (fdrop fs k (by rw [HL.out]; exact hlt))
      generalize fs[k]?.getD ([], []) = f at *
      by_cases hf : f.1 = name.toList
      · have HE : Hid (findL name.toList fs 0 = k) := by rw [hr.out, HD.out, findL, if_pos hf]; rfl
        have ef : (f.1 == name.toList) = true := by simp [hf]
        clear hf
        go_wp2
        go_ret
        exact ⟨ret_int (by rw [HE.out]), hbw.alloc hbw.size _⟩
      · have HE : Hid (findL name.toList fs 0 = findL name.toList (fs.drop (k + 1)) (k + 1)) := by rw [hr.out, HD.out, findL, if_neg hf]; rfl
        have ef : (f.1 == name.toList) = false := by simpa using hf
        clear hf
        go_wp2
        go_roundw
        case rel => exact ⟨k + 1, by omega, by go_num, hbw.alloc hbw.size _, HE.out⟩
        case measure => simp [intOf]; omega
    · go_wp2
      go_ret
      exact ⟨ret_int (by rw [hr.out, List.drop_of_length_le (by rw [HL.out]; omega)]; rfl), hbw⟩

set_option maxHeartbeats 1000000 in
theorem rfind_any (A : Option Addr) (n c : Nat) (fs : List (List UInt8 × List UInt8)) (name : ByteArray) (w : World) (hx : Rd w w.heap.size 2 A n (fls fs)) (hn : n ≤ 1000000) :
    Calls Tryd.prog 43 #[.slice A n c, .string name] w fun e w' => e = .returned (.int .i64 (findL name.toList fs 0)) ∧ Below w.heap.size w w' := by
  have HL := Lib.hid hx.fls_length
  go_enter Tryd.func43, Tryd.ntmps43
  go_wp2
  go_loopw [5] (fun i wr => ∃ k : Nat, k ≤ n ∧ i = .int .i64 k ∧ Below w.heap.size w wr ∧ Hid (findL name.toList fs 0 = findL name.toList (fs.drop k) k)) (fun i _ => n - (intOf i).toNat)
  case atStart => exact ⟨0, Nat.zero_le _, rfl, Below.refl _ _, rfl⟩
  case round =>
    obtain ⟨k, hk, rfl, hbw, hr⟩ := hrel
    by_cases hlt : k < n
    · obtain ⟨b, o, rfl, hm, h0, h1⟩ := (hx.below hbw).file hlt
      have HD := Lib.hid (fdrop fs k (by rw [HL.out]; exact hlt))
      generalize fs[k]?.getD ([], []) = f at *
      by_cases hf : f.1 = name.toList
      · have HE : Hid (findL name.toList fs 0 = k) := by rw [hr.out, HD.out, findL, if_pos hf]; rfl
        have ef : (f.1 == name.toList) = true := by simp [hf]
        clear hf
        go_wp2
        go_ret
        exact ⟨ret_int (by rw [HE.out]), hbw⟩
      · have HE : Hid (findL name.toList fs 0 = findL name.toList (fs.drop (k + 1)) (k + 1)) := by rw [hr.out, HD.out, findL, if_neg hf]; rfl
        have ef : (f.1 == name.toList) = false := by simpa using hf
        clear hf
        go_wp2
        go_roundw
        case rel => exact ⟨k + 1, by omega, by go_num, hbw, HE.out⟩
        case measure => simp [intOf]; omega
    · go_wp2
      go_ret
      exact ⟨ret_int (by rw [hr.out, List.drop_of_length_le (by rw [HL.out]; omega)]; rfl), hbw⟩

set_option maxHeartbeats 1000000 in
theorem get_any (A : Option Addr) (n c : Nat) (fs : List (List UInt8 × List UInt8)) (name : ByteArray) (w : World) (hx : Rd w w.heap.size 2 A n (fls fs)) (hn : n ≤ 1000000) :
    Calls Tryd.prog 23 #[.slice A n c, .string name] w fun e w' => e = GetRet fs name.toList ∧ Below w.heap.size w w' := by
  have HL := Lib.hid hx.fls_length
  have C := Lib.hid (find_any A n c fs name w hx hn)
  unfold GetRet
  rcases findL_cases name.toList fs 0 with h | ⟨k, hk, h, hnm⟩
  · rw [h] at C
    rw [h]
    go_enter Tryd.func23, Tryd.ntmps23
    go_wp2_with fail
    refine C.out.mono ?_
    rintro e w1 ⟨rfl, hb1⟩
    go_wp2
    go_ret2
    exact ⟨rfl, hb1⟩
  · have hkn : k < n := by rw [← HL.out]; exact hk
    rw [h] at C
    rw [h]
    have e0 : ((0 : Nat) : Int) + (k : Int) = (k : Int) := by omega
    simp only [Int.natCast_add, e0] at C ⊢
    rw [if_neg (by omega), Int.toNat_natCast]
    clear h hnm e0 hk
    go_enter Tryd.func23, Tryd.ntmps23
    go_wp2_with fail
    refine C.out.mono ?_
    rintro e w1 ⟨rfl, hb1⟩
    obtain ⟨b, o, rfl, hm, h0, h1⟩ := (hx.below hb1).file hkn
    go_wp2
    go_ret2
    exact ⟨rfl, hb1⟩

set_option maxHeartbeats 1000000 in
theorem rget_any (A : Option Addr) (n c : Nat) (fs : List (List UInt8 × List UInt8)) (name : ByteArray) (w : World) (hx : Rd w w.heap.size 2 A n (fls fs)) (hn : n ≤ 1000000) :
    Calls Tryd.prog 24 #[.slice A n c, .string name] w fun e w' => e = GetRet fs name.toList ∧ Below w.heap.size w w' := by
  have HL := Lib.hid hx.fls_length
  have C := Lib.hid (rfind_any A n c fs name w hx hn)
  unfold GetRet
  rcases findL_cases name.toList fs 0 with h | ⟨k, hk, h, hnm⟩
  · rw [h] at C
    rw [h]
    go_enter Tryd.func24, Tryd.ntmps24
    go_wp2_with fail
    refine C.out.mono ?_
    rintro e w1 ⟨rfl, hb1⟩
    go_wp2
    go_ret2
    exact ⟨rfl, hb1⟩
  · have hkn : k < n := by rw [← HL.out]; exact hk
    rw [h] at C
    rw [h]
    have e0 : ((0 : Nat) : Int) + (k : Int) = (k : Int) := by omega
    simp only [Int.natCast_add, e0] at C ⊢
    rw [if_neg (by omega), Int.toNat_natCast]
    clear h hnm e0 hk
    go_enter Tryd.func24, Tryd.ntmps24
    go_wp2_with fail
    refine C.out.mono ?_
    rintro e w1 ⟨rfl, hb1⟩
    obtain ⟨b, o, rfl, hm, h0, h1⟩ := (hx.below hb1).file hkn
    go_wp2
    go_ret2
    exact ⟨rfl, hb1⟩

set_option maxHeartbeats 1000000 in
theorem same_any (A A' : Option Addr) (n n' c c' : Nat) (xs ys : List (List UInt8 × List UInt8)) (w : World) (M : Nat) (hx : Rd w M 2 A n (fls xs)) (hy : Rd w M 2 A' n' (fls ys)) (hn : n ≤ 1000000) (hn' : n' ≤ 1000000) :
    Calls Tryd.prog 22 #[.slice A n c, .slice A' n' c'] w fun e w' => e = .returned (.bool (xs == ys)) ∧ ∃ q, w' = w.drewN q := by
  have lx := hx.fls_length
  have ly := hy.fls_length
  by_cases he : n = n'
  · subst he
    have HL := Lib.hid (And.intro lx ly); clear lx ly
    have hne : ((n : Int) != (n : Int)) = false := by simp
    go_enter Tryd.func22, Tryd.ntmps22
    go_wp2
    go_loopw [13] (fun i wr => ∃ k q : Nat, k ≤ n ∧ i = .int .i64 k ∧ wr = w.drewN q ∧ Hid (∀ j, j < k → xs[j]?.getD ([], []) = ys[j]?.getD ([], []))) (fun i _ => n - (intOf i).toNat)
    case atStart => exact ⟨0, 0, Nat.zero_le _, rfl, rfl, fun j h => absurd h (by omega)⟩
    case round =>
      obtain ⟨k, q, hk, rfl, rfl, hr⟩ := hrel
      by_cases hlt : k < n
      · obtain ⟨b, o, rfl, hm, h0, h1⟩ := hx.file hlt
        obtain ⟨b', o', rfl, hm', h0', h1'⟩ := hy.file hlt
        have HF : Hid (xs[k]?.getD ([], []) = xs[k]?.getD ([], []) ∧ ys[k]?.getD ([], []) = ys[k]?.getD ([], [])) := ⟨rfl, rfl⟩
        generalize hf : xs[k]?.getD ([], []) = f at h0 h1
        generalize hg : ys[k]?.getD ([], []) = g at h0' h1'
        have HFG := Lib.hid (And.intro hf hg); clear hf hg HF
        have hneq : ∀ W : World, (binOp .neq 36 (.agg #[.string (B f.1), .string (B f.2)]) (.agg #[.string (B g.1), .string (B g.2)])).run Tryd.prog W = .ok (.bool (!(f.1 == g.1 && f.2 == g.2))) W := file_neq f g
        by_cases hfg : f = g
        · subst hfg
          have eb : (!(f.1 == f.1 && f.2 == f.2)) = false := by simp
          rw [eb] at hneq
          clear eb
          go_wp2
          go_quiet (fail)
          go_wp2
          go_roundw
          case rel =>
            refine ⟨k + 1, _, by omega, by go_num, rfl, fun j hj => ?_⟩
            by_cases e : j = k
            · rw [e, HFG.out.1, HFG.out.2]
            · exact hr.out j (by omega)
          case measure => simp [intOf]; omega
        · have eb : (!(f.1 == g.1 && f.2 == g.2)) = true := by
            simp only [Bool.not_eq_true', Bool.and_eq_false_iff, beq_eq_false_iff_ne]
            by_cases e1 : f.1 = g.1
            · right; intro e2; exact hfg (Prod.ext e1 e2)
            · left; exact e1
          rw [eb] at hneq
          have HN := Lib.hid hfg
          clear eb hfg
          go_wp2
          go_quiet (fail)
          go_wp2
          go_ret
          exact ⟨ret_fl_false (fun e => HN.out (by rw [← HFG.out.1, ← HFG.out.2, e])), _, World.drewN_drewN ..⟩
      · go_wp2
        go_ret
        exact ⟨ret_fl_true (fl_ext (by rw [HL.out.1, HL.out.2]) (fun j hj => hr.out j (by have := HL.out.1; omega))), _, rfl⟩
  · have hne : ((n : Int) != (n' : Int)) = true := by simp; omega
    go_enter Tryd.func22, Tryd.ntmps22
    go_wp2
    go_ret
    exact ⟨ret_fl_false (fun e => he (by rw [← lx, ← ly, e])), 0, rfl⟩

set_option maxHeartbeats 1000000 in
theorem rsame_any (A A' : Option Addr) (n n' c c' : Nat) (xs ys : List (List UInt8 × List UInt8)) (w : World) (M : Nat) (hx : Rd w M 2 A n (fls xs)) (hy : Rd w M 2 A' n' (fls ys)) (hn : n ≤ 1000000) (hn' : n' ≤ 1000000) :
    Calls Tryd.prog 25 #[.slice A n c, .slice A' n' c'] w fun e w' => e = .returned (.bool (xs == ys)) ∧ ∃ q, w' = w.drewN q := by
  have lx := hx.fls_length
  have ly := hy.fls_length
  by_cases he : n = n'
  · subst he
    have HL := Lib.hid (And.intro lx ly); clear lx ly
    have hne : ((n : Int) != (n : Int)) = false := by simp
    go_enter Tryd.func25, Tryd.ntmps25
    go_wp2
    go_loopw [5] (fun i wr => ∃ k q : Nat, k ≤ n ∧ i = .int .i64 k ∧ wr = w.drewN q ∧ Hid (∀ j, j < k → xs[j]?.getD ([], []) = ys[j]?.getD ([], []))) (fun i _ => n - (intOf i).toNat)
    case atStart => exact ⟨0, 0, Nat.zero_le _, rfl, rfl, fun j h => absurd h (by omega)⟩
    case round =>
      obtain ⟨k, q, hk, rfl, rfl, hr⟩ := hrel
      by_cases hlt : k < n
      · obtain ⟨b, o, rfl, hm, h0, h1⟩ := hx.file hlt
        obtain ⟨b', o', rfl, hm', h0', h1'⟩ := hy.file hlt
        have HF : Hid (xs[k]?.getD ([], []) = xs[k]?.getD ([], []) ∧ ys[k]?.getD ([], []) = ys[k]?.getD ([], [])) := ⟨rfl, rfl⟩
        generalize hf : xs[k]?.getD ([], []) = f at h0 h1
        generalize hg : ys[k]?.getD ([], []) = g at h0' h1'
        have HFG := Lib.hid (And.intro hf hg); clear hf hg HF
        have hneq : ∀ W : World, (binOp .neq 36 (.agg #[.string (B f.1), .string (B f.2)]) (.agg #[.string (B g.1), .string (B g.2)])).run Tryd.prog W = .ok (.bool (!(f.1 == g.1 && f.2 == g.2))) W := file_neq f g
        by_cases hfg : f = g
        · subst hfg
          have eb : (!(f.1 == f.1 && f.2 == f.2)) = false := by simp
          rw [eb] at hneq
          clear eb
          go_wp2
          go_quiet (fail)
          go_wp2
          go_roundw
          case rel =>
            refine ⟨k + 1, _, by omega, by go_num, rfl, fun j hj => ?_⟩
            by_cases e : j = k
            · rw [e, HFG.out.1, HFG.out.2]
            · exact hr.out j (by omega)
          case measure => simp [intOf]; omega
        · have eb : (!(f.1 == g.1 && f.2 == g.2)) = true := by
            simp only [Bool.not_eq_true', Bool.and_eq_false_iff, beq_eq_false_iff_ne]
            by_cases e1 : f.1 = g.1
            · right; intro e2; exact hfg (Prod.ext e1 e2)
            · left; exact e1
          rw [eb] at hneq
          have HN := Lib.hid hfg
          clear eb hfg
          go_wp2
          go_quiet (fail)
          go_wp2
          go_ret
          exact ⟨ret_fl_false (fun e => HN.out (by rw [← HFG.out.1, ← HFG.out.2, e])), _, World.drewN_drewN ..⟩
      · go_wp2
        go_ret
        exact ⟨ret_fl_true (fl_ext (by rw [HL.out.1, HL.out.2]) (fun j hj => hr.out j (by have := HL.out.1; omega))), _, rfl⟩
  · have hne : ((n : Int) != (n' : Int)) = true := by simp; omega
    go_enter Tryd.func25, Tryd.ntmps25
    go_wp2
    go_ret
    exact ⟨ret_fl_false (fun e => he (by rw [← lx, ← ly, e])), 0, rfl⟩

end Go.Proofs.YtpbampchhpkpbaaDoor
