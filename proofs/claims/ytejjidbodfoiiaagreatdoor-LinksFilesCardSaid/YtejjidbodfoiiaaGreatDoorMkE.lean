/-
  Rows of elements of several cells; layer 1 (chars), the chapter's: at, Points, Valid.
-/
import Derived.Test.YtejjidbodfoiiaaGreatDoorMkD
namespace Go.Proofs.YtejjidbodfoiiaaGreatDoor
open Go.RowKit
set_option linter.unusedVariables false
set_option linter.unusedSimpArgs false
attribute [local go_sem] B_data B_size

theorem addr_lit (b o j : Nat) : (⟨b, o, none⟩ : Addr).add j = ⟨b, o + j, none⟩ := by unfold Addr.add; split <;> simp_all
section
variable {α : Type} (f : α → List Value) (sz : Nat) (hf : ∀ a, (f a).length = sz)
include hf
theorem row_len (l : List α) : (l.flatMap f).length = l.length * sz := by
  induction l with
  | nil => simp
  | cons a r ih => rw [List.flatMap_cons, List.length_append, ih, hf, List.length_cons, Nat.succ_mul]; omega
theorem row_at (l : List α) (k j : Nat) (x : α) (hk : l[k]? = some x) (hj : j < sz) : (l.flatMap f)[k * sz + j]? = (f x)[j]? := by
  induction l generalizing k with
  | nil => simp at hk
  | cons a r ih =>
    rw [List.flatMap_cons]
    cases k with
    | zero =>
      have e : a = x := by simpa using hk
      subst e
      rw [Nat.zero_mul, Nat.zero_add, List.getElem?_append_left (by rw [hf]; exact hj)]
    | succ k =>
      have hk : r[k]? = some x := by simpa using hk
      rw [List.getElem?_append_right (by rw [hf, Nat.succ_mul]; omega), hf, ← ih k hk]
      congr 1
      rw [Nat.succ_mul]; omega
theorem Rd.elem {w : World} {M n k : Nat} {A : Option Addr} {l : List α} {x : α} (h : Rd w M sz A n (l.flatMap f)) (hsz : 0 < sz) (hk : l[k]? = some x) :
    ∃ b o, A = some ⟨b, o, none⟩ ∧ b < M ∧ ∀ j u, (f x)[j]? = some u → w.cell? ⟨b, o + k * sz + j, none⟩ = some u := by
  have hkl : k < l.length := (List.getElem?_eq_some_iff.1 hk).1
  have hl := h.1
  rw [row_len f sz hf] at hl
  have hn : l.length = n := Nat.eq_of_mul_eq_mul_right hsz hl
  obtain ⟨ad, e, hb, hc⟩ := h.2 (by omega)
  obtain ⟨b, o, spot⟩ := ad
  have hpos : 0 < (l.flatMap f).length := by
    rw [row_len f sz hf]
    exact Nat.mul_pos (by omega) hsz
  have hx0 := hc 0 _ (List.getElem?_eq_getElem hpos)
  have hsp : spot = none := by simpa [Addr.add] using World.cell?_spot hx0
  subst hsp
  refine ⟨b, o, e, hb, fun j u hj => ?_⟩
  have hjs : j < sz := by have := (List.getElem?_eq_some_iff.1 hj).1; rw [hf] at this; exact this
  have := hc (k * sz + j) u (by rw [row_at f sz hf l k j x hk hjs]; exact hj)
  rw [addr_lit] at this
  rw [Nat.add_assoc]
  exact this
theorem Rd.count {w : World} {M n : Nat} {A : Option Addr} {l : List α} (h : Rd w M sz A n (l.flatMap f)) (hsz : 0 < sz) : l.length = n := by
  have hl := h.1
  rw [row_len f sz hf] at hl
  exact Nat.eq_of_mul_eq_mul_right hsz hl
end
theorem drop_get {α : Type} {l : List α} {k : Nat} {x : α} (h : l[k]? = some x) : l.drop k = x :: l.drop (k + 1) := by
  obtain ⟨hk, e⟩ := List.getElem?_eq_some_iff.1 h
  rw [List.drop_eq_getElem_cons hk, e]
theorem get_of {α : Type} {l : List α} {k : Nat} (h : k < l.length) : ∃ x, l[k]? = some x := ⟨l[k], List.getElem?_eq_getElem h⟩

set_option maxHeartbeats 2000000 in
set_option maxRecDepth 100000 in
theorem at_any (s : ByteArray) (i : Nat) (w : World) (hs : s.size ≤ 9223372036854775000) (hi : i < s.size) :
    Calls Tryz.prog 158 #[.string s, .int .i64 (i : Int)] w (RPost (s.toList.drop i) w) := by
  have hbt : s[i].toNat < 256 := s[i].toNat_lt
  have HD := Lib.hid (drop_byte s i hi)
  by_cases h1 : s[i].toNat < 128
  · go_enter Tryz.func158, Tryz.ntmps158
    go_wp2
    exact bodyPost_ret (v := .agg #[.int .i64 (s[i].toNat : Int), .int .i64 1]) (by simp [results, Tryz.results158, go_sem]) rfl ⟨_, 1, .inr (.inl ⟨_, _, HD.out, h1, rfl, rfl⟩), rfl, below_alloc _ _⟩
  by_cases h2 : 194 ≤ s[i].toNat ∧ s[i].toNat ≤ 223
  · obtain ⟨h2a, h2b⟩ := h2
    have hw2 : wid s[i].toNat = 2 := by
      unfold wid; rw [if_neg h1, if_neg (by omega), if_pos h2b]
    have HW := Lib.hid hw2
    have N := Lib.hid (fun h hj => more_no (s := s) (j := i + 1) (lo := 128) (hi := 191) (by omega) h hj)
    have O := Lib.hid (fun h => more_ok (s := s) (j := i + 1) (lo := 128) (hi := 191) (by omega) h)
    have C := Lib.hid (fun W => more_any s (i + 1) ((i : Int) + 1) 128 191 W (by omega) hs)
    clear hw2
    generalize moreV s (i + 1) 128 191 = X at *
    by_cases hX : X < 0
    · have HQ : Hid (sq (s.toList.drop i) = 0) := by
        by_cases hz : i + 1 < s.size
        · rw [drop_byte s i hi, drop_byte s (i + 1) hz, sq_w2 _ _ _ HW.out, if_neg]
          · rfl
          · intro hh
            exact N.out hX hz (by omega)
        · rw [drop_byte s i hi]
          exact sq_short _ _ (by rw [← drop_byte s i hi, drop_len, HW.out]; omega)
      go_enter Tryz.func158, Tryz.ntmps158
      go_wp2_with fail
      refine (C.out _).mono ?_
      rintro e w' ⟨rfl, rfl⟩
      go_wp2
      exact bodyPost_ret (v := .agg #[.int .i64 65533, .int .i64 1]) (by simp [results, Tryz.results158, go_sem]) rfl ⟨_, 1, Nx.bad HQ.out, rfl, below_alloc _ _⟩
    · obtain ⟨j, l, u, e⟩ := O.out (by omega)
      have HQ : Hid (sq (s.toList.drop i) = 2) := by
        rw [drop_byte s i hi, drop_byte s (i + 1) j, sq_w2 _ _ _ HW.out, if_pos]
        · rfl
        · omega
      have hx1 : 0 ≤ X := by omega
      have hx2 : X < 64 := by omega
      clear e l u N O
      go_enter Tryz.func158, Tryz.ntmps158
      go_wp2_with fail
      refine (C.out _).mono ?_
      rintro e w' ⟨rfl, rfl⟩
      go_wp2
      exact bodyPost_ret (v := .agg #[.int .i64 (((s[i].toNat : Int) - 192) * 64 + X), .int .i64 2]) (by simp [results, Tryz.results158, go_sem] <;> omega) rfl ⟨_, 2, .inr (.inr ⟨by rw [HQ.out]; omega, HQ.out.symm, by omega, by omega⟩), rfl, below_alloc _ _⟩
  by_cases h3 : 224 ≤ s[i].toNat ∧ s[i].toNat ≤ 239
  · obtain ⟨h3a, h3b⟩ := h3
    have hw3 : wid s[i].toNat = 3 := by
      unfold wid; rw [if_neg h1, if_neg (by omega), if_neg (by omega), if_pos h3b]
    have C := Lib.hid (fun W => three_any s i W hs hi hw3)
    clear hw3
    go_enter Tryz.func158, Tryz.ntmps158
    go_wp2_with fail
    refine (C.out _).mono ?_
    rintro e w' ⟨c, n, hx, rfl, hb⟩
    have HX := Lib.hid hx
    have hk := (below_alloc w (.cells #[.int .i64 0, .int .i64 0] 187)).trans (hb.mono (by simp))
    obtain ⟨q0, hq0⟩ : ∃ q, w'.heap[w.heap.size]? = some q ∧ q = (.cells #[.int .i64 0, .int .i64 0] 187 (0, 0)) := ⟨_, (hb.block _ (by simp)).trans (heap_alloc_new w _), rfl⟩
    obtain ⟨hq, rfl⟩ := hq0
    have z0 : w'.cell? ⟨w.heap.size, 0, none⟩ = some (.int .i64 0) := by simp [World.cell?, hq]
    have z1 : w'.cell? ⟨w.heap.size, 1, none⟩ = some (.int .i64 0) := by simp [World.cell?, hq]
    have y0 : w'.frozen? ⟨w.heap.size, 0, none⟩ = false := by simp [World.frozen?, hq]
    have y1 : w'.frozen? ⟨w.heap.size, 1, none⟩ = false := by simp [World.frozen?, hq]
    clear hx hq
    go_wp2
    exact bodyPost_ret (v := .agg #[.int .i64 c, .int .i64 ((n : Nat) : Int)]) (by simp [results, Tryz.results158, go_sem, z0, z1]) rfl ⟨_, n, HX.out, rfl, (hk.setCell (p := ⟨w.heap.size, 0, none⟩) (Nat.le_refl _) _).setCell (p := ⟨w.heap.size, 1, none⟩) (Nat.le_refl _) _⟩
  by_cases h4 : 240 ≤ s[i].toNat ∧ s[i].toNat ≤ 244
  · obtain ⟨h4a, h4b⟩ := h4
    have hw3 : wid s[i].toNat = 4 := by
      unfold wid; rw [if_neg h1, if_neg (by omega), if_neg (by omega), if_neg (by omega), if_pos h4b]
    have C := Lib.hid (fun W => four_any s i W hs hi hw3)
    clear hw3
    go_enter Tryz.func158, Tryz.ntmps158
    go_wp2_with fail
    refine (C.out _).mono ?_
    rintro e w' ⟨c, n, hx, rfl, hb⟩
    have HX := Lib.hid hx
    have hk := (below_alloc w (.cells #[.int .i64 0, .int .i64 0] 187)).trans (hb.mono (by simp))
    obtain ⟨q0, hq0⟩ : ∃ q, w'.heap[w.heap.size]? = some q ∧ q = (.cells #[.int .i64 0, .int .i64 0] 187 (0, 0)) := ⟨_, (hb.block _ (by simp)).trans (heap_alloc_new w _), rfl⟩
    obtain ⟨hq, rfl⟩ := hq0
    have z0 : w'.cell? ⟨w.heap.size, 0, none⟩ = some (.int .i64 0) := by simp [World.cell?, hq]
    have z1 : w'.cell? ⟨w.heap.size, 1, none⟩ = some (.int .i64 0) := by simp [World.cell?, hq]
    have y0 : w'.frozen? ⟨w.heap.size, 0, none⟩ = false := by simp [World.frozen?, hq]
    have y1 : w'.frozen? ⟨w.heap.size, 1, none⟩ = false := by simp [World.frozen?, hq]
    clear hx hq
    go_wp2
    exact bodyPost_ret (v := .agg #[.int .i64 c, .int .i64 ((n : Nat) : Int)]) (by simp [results, Tryz.results158, go_sem, z0, z1]) rfl ⟨_, n, HX.out, rfl, (hk.setCell (p := ⟨w.heap.size, 0, none⟩) (Nat.le_refl _) _).setCell (p := ⟨w.heap.size, 1, none⟩) (Nat.le_refl _) _⟩
  have HQ : Hid (sq (s.toList.drop i) = 0) := by
    rw [drop_byte s i hi]
    refine sq_w0 _ _ ?_
    unfold wid
    rw [if_neg h1]
    repeat' split
    all_goals omega
  go_enter Tryz.func158, Tryz.ntmps158
  go_wp2
  all_goals first | (exfalso; omega) | skip
  all_goals exact bodyPost_ret (v := .agg #[.int .i64 65533, .int .i64 1]) (by simp [results, Tryz.results158, go_sem]) rfl ⟨_, 1, Nx.bad HQ.out, rfl, below_alloc _ _⟩
end Go.Proofs.YtejjidbodfoiiaaGreatDoor
