/-
  Layer 1 (chars), the chapter's: the code points of texts whose sequences have one or two bytes.
-/
import Derived.Test.YtkndgkiglaacnaaDoorLocG
namespace Go.Proofs.YtkndgkiglaacnaaDoor
open Go.RowKit
set_option linter.unusedVariables false
set_option linter.unusedSimpArgs false
attribute [local go_sem] B_data B_size

/-- the code points of a text of sequences of one or two bytes -/
def dec2 : List UInt8 → Option (List Nat)
  | [] => some []
  | [b] => if b.toNat < 128 then some [b.toNat] else none
  | b :: x :: r =>
    if b.toNat < 128 then (dec2 (x :: r)).map (b.toNat :: ·)
    else if 194 ≤ b.toNat ∧ b.toNat ≤ 223 ∧ 128 ≤ x.toNat ∧ x.toNat ≤ 191 then (dec2 r).map (((b.toNat - 192) * 64 + (x.toNat - 128)) :: ·)
    else none
theorem dec2_inv {l : List UInt8} {c : Nat} {ps : List Nat} (h : dec2 l = some (c :: ps)) :
    (∃ b r, l = b :: r ∧ b.toNat < 128 ∧ c = b.toNat ∧ dec2 r = some ps) ∨
    (∃ b x r, l = b :: x :: r ∧ 194 ≤ b.toNat ∧ b.toNat ≤ 223 ∧ 128 ≤ x.toNat ∧ x.toNat ≤ 191 ∧ c = (b.toNat - 192) * 64 + (x.toNat - 128) ∧ dec2 r = some ps) := by
  match l, h with
  | [], h => simp [dec2] at h
  | [b], h =>
    unfold dec2 at h
    split at h
    · simp at h
      exact .inl ⟨b, [], rfl, by assumption, h.1.symm, by simp [dec2, h.2]⟩
    · cases h
  | b :: x :: r, h =>
    unfold dec2 at h
    split at h
    · simp at h
      exact .inl ⟨b, x :: r, rfl, by assumption, h.2.symm, h.1⟩
    · split at h
      · rename_i hh
        simp at h
        exact .inr ⟨b, x, r, rfl, hh.1, hh.2.1, hh.2.2.1, hh.2.2.2, h.2.symm, h.1⟩
      · cases h
theorem dec2_nil {l : List UInt8} (h : dec2 l = some []) : l = [] := by
  match l, h with
  | [], h => rfl
  | [b], h => unfold dec2 at h; split at h <;> simp at h
  | b :: x :: r, h =>
    unfold dec2 at h
    split at h
    · simp at h
    · split at h <;> simp at h
theorem dec2_end {l : List UInt8} {ps : List Nat} (h : dec2 l = some ps) (hl : l = []) : ps = [] := by
  subst hl; simpa [dec2] using h.symm
/-- the code point at a byte -/
theorem dec2_at {s : ByteArray} {i c : Nat} {ps : List Nat} (h : dec2 (s.toList.drop i) = some (c :: ps)) :
    ∃ hi : i < s.size, (s[i].toNat < 128 ∧ c = s[i].toNat ∧ dec2 (s.toList.drop (i + 1)) = some ps) ∨
      (194 ≤ s[i].toNat ∧ s[i].toNat ≤ 223 ∧ ∃ hj : i + 1 < s.size, 128 ≤ s[i + 1].toNat ∧ s[i + 1].toNat ≤ 191 ∧ c = (s[i].toNat - 192) * 64 + (s[i + 1].toNat - 128) ∧ dec2 (s.toList.drop (i + 2)) = some ps) := by
  have hi : i < s.size := by
    rcases Nat.lt_or_ge i s.size with h1 | h1
    · exact h1
    · rw [List.drop_of_length_le (by rw [len_toList]; exact h1)] at h; simp [dec2] at h
  refine ⟨hi, ?_⟩
  rw [drop_byte s i hi] at h
  rcases dec2_inv h with ⟨b, r, e, h1, h2, h3⟩ | ⟨b, x, r, e, h1, h2, h3, h4, h5, h6⟩
  · injection e with e1 e2
    subst e1 e2
    exact .inl ⟨h1, h2, h3⟩
  · injection e with e1 e2
    subst e1
    have hj : i + 1 < s.size := by
      rcases Nat.lt_or_ge (i + 1) s.size with h1 | h1
      · exact h1
      · rw [List.drop_of_length_le (by rw [len_toList]; exact h1)] at e2; cases e2
    rw [drop_byte s (i + 1) hj] at e2
    injection e2 with e3 e4
    subst e3 e4
    exact .inr ⟨h1, h2, hj, h3, h4, h5, h6⟩

set_option maxHeartbeats 1000000 in
set_option maxRecDepth 100000 in
theorem more_in (s : ByteArray) (j : Nat) (a : Int) (w : World) (ha : a = (j : Int)) (hs : s.size ≤ 1000000) (hj : j < s.size) (h1 : 128 ≤ s[j].toNat) (h2 : s[j].toNat ≤ 191) :
    Calls Tryd.prog 81 #[.string s, .int .i64 a, .int .i64 128, .int .i64 191] w fun e w' => e = .returned (.int .i64 ((s[j].toNat - 128 : Nat) : Int)) ∧ w = w' := by
  subst ha
  have hbt : s[j].toNat < 256 := s[j].toNat_lt
  go_enter Tryd.func81, Tryd.ntmps81
  go_wp2
  go_ret
  exact ⟨ret_int (by omega), rfl⟩
/-- what a code point at i is -/
def AtPost (s : ByteArray) (i c : Nat) (ps : List Nat) (w : World) (e : Ending) (w' : World) : Prop :=
  ∃ n : Nat, e = .returned (.agg #[.int .i64 (c : Int), .int .i64 (n : Int)]) ∧ 1 ≤ n ∧ i + n ≤ s.size ∧ dec2 (s.toList.drop (i + n)) = some ps ∧ Below w.heap.size w w'
set_option maxHeartbeats 2000000 in
set_option maxRecDepth 100000 in
theorem at_ok (s : ByteArray) (i c : Nat) (ps : List Nat) (w : World) (hs : s.size ≤ 1000000) (h : dec2 (s.toList.drop i) = some (c :: ps)) :
    Calls Tryd.prog 67 #[.string s, .int .i64 (i : Int)] w (AtPost s i c ps w) := by
  obtain ⟨hi, ⟨h1, rfl, h3⟩ | ⟨h1, h2, hj, h3, h4, rfl, h5⟩⟩ := dec2_at h
  · clear h
    have H3 := Lib.hid h3
    clear h3
    go_enter Tryd.func67, Tryd.ntmps67
    go_wp2
    exact bodyPost_ret (v := .agg #[.int .i64 (s[i].toNat : Int), .int .i64 1]) (by simp [results, Tryd.results67, go_sem]) rfl ⟨1, rfl, by omega, by omega, H3.out, below_alloc _ _⟩
  · clear h
    have H5 := Lib.hid h5
    clear h5
    have h0 : ¬ s[i].toNat < 128 := by omega
    have C := Lib.hid (fun W => more_in s (i + 1) ((i : Int) + 1) W (by omega) hs hj h3 h4)
    generalize hX : s[i + 1].toNat - 128 = X at *
    have hX1 : X < 64 := by omega
    clear hX h3 h4
    go_enter Tryd.func67, Tryd.ntmps67
    go_wp2_with fail
    refine (C.out _).mono ?_
    rintro e w' ⟨rfl, rfl⟩
    go_wp2
    exact bodyPost_ret (v := .agg #[.int .i64 (((s[i].toNat : Int) - 192) * 64 + (X : Int)), .int .i64 2]) (by simp [results, Tryd.results67, go_sem] <;> omega) rfl ⟨2, by rw [show (((s[i].toNat : Int) - 192) * 64 + (X : Int)) = (((s[i].toNat - 192) * 64 + X : Nat) : Int) from by omega]; rfl, by omega, by omega, H5.out, below_alloc _ _⟩
set_option maxHeartbeats 1000000 in
set_option maxRecDepth 100000 in
theorem next_ok (s : ByteArray) (i c : Nat) (ps : List Nat) (w : World) (hs : s.size ≤ 1000000) (h : dec2 (s.toList.drop i) = some (c :: ps)) :
    Calls Tryd.prog 57 #[.string s, .int .i64 (i : Int)] w fun e w' =>
      ∃ n : Nat, e = .returned (.tuple #[.int .i64 (c : Int), .int .i64 (n : Int)]) ∧ 1 ≤ n ∧ i + n ≤ s.size ∧ dec2 (s.toList.drop (i + n)) = some ps ∧ Below w.heap.size w w' := by
  obtain ⟨hi, _⟩ := dec2_at h
  have C := Lib.hid (fun W => at_ok s i c ps W hs h)
  clear h
  go_enter Tryd.func57, Tryd.ntmps57
  go_wp2_with fail
  refine (C.out _).mono ?_
  rintro e w' ⟨n, rfl, h1, h2, h3, h4⟩
  have H3 := Lib.hid h3
  clear h3
  go_wp2
  go_quiet (fail)
  go_wp2
  go_ret2
  exact ⟨n, rfl, h1, h2, H3.out, below_drewN (h4.alloc h4.size _) _⟩
end Go.Proofs.YtkndgkiglaacnaaDoor
