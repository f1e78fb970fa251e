/-
  Layer 2 (lines): light, and the chapter's examples (awake).
-/
import Derived.Test.YtedijdllbfnapaaLinesB
namespace Go.Proofs.Ytedijdllbfnapaa
open Go.RowKit
set_option linter.unusedVariables false

def sizes (ls : List (List UInt8)) : Nat := (ls.map List.length).sum
theorem sizes_step (ls : List (List UInt8)) (k : Nat) (h : k < ls.length) : sizes (ls.take (k + 1)) = sizes (ls.take k) + (ls[k]?.getD []).length := by
  rw [take_getD ls k h]; simp [sizes]
theorem joinS_len (ls : List (List UInt8)) : (joinS ls).length = sizes ls + ls.length := by
  induction ls with
  | nil => rfl
  | cons a r ih => simp only [joinS, sizes, List.flatMap_cons, List.length_append, List.map_cons, List.sum_cons, List.length_cons] at ih ⊢; simp at ih ⊢; omega

/-- what light tells where it says yes -/
def Light (ls : List (List UInt8)) (w : World) (e : Ending) (w' : World) : Prop :=
  ∃ b : Bool, e = .returned (.bool b) ∧ w = w' ∧ (b = true → ls.length ≤ 60 ∧ sizes ls < 2000 ∧ ∀ l ∈ ls, l.length ≤ 400)

theorem light_yes {ls : List (List UInt8)} {n k m : Nat} (hl : ls.length = n) (hk : k ≤ n) (hr : m = sizes (ls.take k) ∧ ∀ j, j < k → (ls[j]?.getD []).length ≤ 400) (h1 : n ≤ k) (h2 : n ≤ 60) (h3 : m < 2000) :
    ls.length ≤ 60 ∧ sizes ls < 2000 ∧ ∀ l ∈ ls, l.length ≤ 400 := by
  have e : ls.take k = ls := List.take_of_length_le (by omega)
  rw [e] at hr
  refine ⟨by omega, by omega, fun l hm => ?_⟩
  obtain ⟨i, hi, rfl⟩ := List.mem_iff_getElem.1 hm
  have := hr.2 i (by omega)
  simpa [hi] using this

set_option maxHeartbeats 400000 in
set_option maxRecDepth 100000 in
theorem light_any (A : Option Addr) (n c : Nat) (ls : List (List UInt8)) (w : World) (hx : Rd w w.heap.size 1 A n (strs ls)) (hn : n ≤ 9223372036854775807) :
    Calls Try.prog 14 #[.slice A n c] w (Light ls w) := by
  have lx := hx.strs_length
  have HL := Lib.hid lx; clear lx
  go_enter Try.func14, Try.ntmps14
  go_wp2
  go_loop [3, 4] (fun s i => ∃ k m : Nat, k ≤ n ∧ m ≤ 2400 ∧ i = .int .i64 k ∧ s = .int .i64 m ∧ Hid (m = sizes (ls.take k) ∧ ∀ j, j < k → (ls[j]?.getD []).length ≤ 400)) (fun _ i => n - (intOf i).toNat)
  case atStart => exact ⟨0, 0, Nat.zero_le _, Nat.zero_le _, rfl, rfl, rfl, fun j h => absurd h (by omega)⟩
  case round =>
    obtain ⟨k, m, hk, hm, rfl, rfl, hr⟩ := hrel
    by_cases hlt : k < n
    · by_cases hm2 : m < 2000
      · obtain ⟨ad, rfl, ha⟩ := hx.str hlt
        by_cases h4 : (B (ls[k]?.getD [])).size ≤ 400
        · go_wp2
          go_round
          case rel =>
            refine ⟨k + 1, m + (B (ls[k]?.getD [])).size, by omega, by omega, by go_num, by go_num, by rw [sizes_step ls k (by rw [HL.out]; exact hlt), B_size, hr.out.1], fun j hj => ?_⟩
            by_cases e : j = k
            · subst e; rw [B_size] at h4; exact h4
            · exact hr.out.2 j (by omega)
          case measure => simp [intOf]; omega
        · go_wp2
          go_ret
          exact ⟨false, rfl, rfl, fun h => by cases h⟩
      · by_cases h6 : n ≤ 60
        · go_wp2
          go_ret
          exact ⟨false, ret_bool (by simp; omega), rfl, fun h => by cases h⟩
        · go_wp2
          go_ret
          exact ⟨false, rfl, rfl, fun h => by cases h⟩
    · by_cases h6 : n ≤ 60
      · by_cases hm2 : m < 2000
        · have HY := Lib.hid (light_yes HL.out hk hr.out (by omega) h6 hm2)
          go_wp2
          go_ret
          exact ⟨true, ret_bool (by simp; omega), rfl, fun _ => HY.out⟩
        · go_wp2
          go_ret
          exact ⟨false, ret_bool (by simp; omega), rfl, fun h => by cases h⟩
      · go_wp2
        go_ret
        exact ⟨false, rfl, rfl, fun h => by cases h⟩

theorem B_mk (l : List UInt8) : (⟨l.toArray⟩ : ByteArray) = B l := rfl
theorem aw_blank2 (w : World) : Calls Try.prog 19 #[.string ⟨#[32, 32]⟩] w fun e w' => e = .returned (.bool true) ∧ w = w' := by
  have h := blank_any (B [32, 32]) w (by decide)
  rw [B_data] at h
  exact h
theorem aw_blank1 (w : World) : Calls Try.prog 19 #[.string ⟨#[120]⟩] w fun e w' => e = .returned (.bool false) ∧ w = w' := by
  have h := blank_any (B [120]) w (by decide)
  rw [B_data] at h
  exact h
theorem aw_indent (w : World) : Calls Try.prog 18 #[.string ⟨#[32, 32]⟩] w fun e w' => e = .returned (.int .i64 2) ∧ w = w' := by
  have h := indent_any (B [32, 32]) w (by decide)
  rw [B_data] at h
  exact h
theorem aw_strip1 (w : World) : Calls Try.prog 22 #[.string ⟨#[32, 32, 97]⟩, .int .i64 1] w fun e w' => e = .returned (.string ⟨#[32, 97]⟩) ∧ w = w' := by
  have h := strip_any (B [32, 32, 97]) 1 w (by decide) (by decide) (by decide)
  rw [B_data] at h
  exact h
theorem aw_strip9 (w : World) : Calls Try.prog 22 #[.string ⟨#[32, 32, 97]⟩, .int .i64 9] w fun e w' => e = .returned (.string ⟨#[97]⟩) ∧ w = w' := by
  have h := strip_any (B [32, 32, 97]) 9 w (by decide) (by decide) (by decide)
  rw [B_data] at h
  exact h
theorem aw_trim (w : World) : Calls Try.prog 24 #[.string ⟨#[32, 97, 32, 98, 32, 32]⟩] w fun e w' => e = .returned (.string ⟨#[97, 32, 98]⟩) ∧ w = w' := by
  have h := trim_any (B [32, 97, 32, 98, 32, 32]) w (by decide)
  rw [B_data] at h
  exact h
theorem aw_number (w : World) : Calls Try.prog 26 #[.string ⟨#[97, 10, 98]⟩, .int .i64 2] w fun e w' => e = .returned (.tuple #[.int .i64 1, .int .i64 2]) ∧ w = w' := by
  have h := number_any (B [97, 10, 98]) 2 w (by decide)
  rw [B_data] at h
  exact h
theorem aw_split (w : World) : Calls Try.prog 12 #[.string ⟨#[97, 10, 10, 98, 10]⟩] w fun e w' => ∃ v, e = .returned v ∧ w'.ownsRow w.heap.size 9 1 v 3 (strs [[97], [], [98]]) ∧ Below w.heap.size w w' := by
  have h := split_any (B [97, 10, 10, 98, 10]) w (by decide)
  rw [B_data] at h
  exact h
theorem Rd.new (w : World) (M : Nat) (e : TypeId) (us : List Value) (hM : w.heap.size < M) : Rd (w.alloc (.cells us.toArray e)) M 1 (some ⟨w.heap.size, 0, none⟩) us.length us := by
  refine ⟨by omega, fun _ => ⟨_, rfl, hM, fun j u hj => ?_⟩⟩
  have e1 : (⟨w.heap.size, 0, none⟩ : Addr).add j = ⟨w.heap.size, j, none⟩ := by unfold Addr.add; split <;> simp_all
  rw [e1, cell_of_row (w.alloc (.cells us.toArray e)) w.heap.size j us.toArray e (0, 0) (heap_alloc_new w _)]
  simpa using hj

theorem texts_yes (A A' : Option Addr) (n n' c c' : Nat) (xs ys : List (List UInt8)) (he : xs = ys) (w : World) (M : Nat) (hx : Rd w M 1 A n (strs xs)) (hy : Rd w M 1 A' n' (strs ys)) (hn : n ≤ 9223372036854775807) (hn' : n' ≤ 9223372036854775807) :
    Calls Try.prog 11 #[.slice A n c, .slice A' n' c'] w fun e w' => e = .returned (.bool true) ∧ ∃ q, w' = w.drewN q :=
  (texts_any A A' n n' c c' xs ys w M hx hy hn hn').mono fun _ _ ⟨h, h'⟩ => ⟨by rw [h, he]; simp, h'⟩

set_option maxHeartbeats 1000000 in
set_option maxRecDepth 100000 in
theorem awake_any (w : World) : Calls Try.prog 10 #[] w fun e w' => e = .returned (.bool true) ∧ Below w.heap.size w w' := by
  go_enter Try.func10, Try.ntmps10
  go_wp2_with fail
  refine (aw_number _).mono ?_
  rintro e w' ⟨rfl, rfl⟩
  go_wp2_with fail
  refine (aw_split _).mono ?_
  rintro e w1 ⟨v, rfl, hown, hb1⟩
  obtain ⟨A, c, rfl, hc⟩ := own_form hown
  have hs1 := hb1.size
  have r1 : Rd (w1.alloc (.cells #[.string ⟨#[97]⟩, .string ⟨#[]⟩, .string ⟨#[98]⟩] 9)) (w1.heap.size + 1) 1 (some ⟨w1.heap.size, 0, none⟩) 3 (strs [[97], [], [98]]) := Rd.new w1 _ 9 [.string ⟨#[97]⟩, .string ⟨#[]⟩, .string ⟨#[98]⟩] (by omega)
  have r2 : Rd (w1.alloc (.cells #[.string ⟨#[97]⟩, .string ⟨#[]⟩, .string ⟨#[98]⟩] 9)) (w1.heap.size + 1) 1 A 3 (strs [[97], [], [98]]) := (Rd.of_own (hown.alloc _)).more (by simp)
  go_wp2_with fail
  with_reducible refine (texts_yes A _ 3 3 c 3 [[97], [], [98]] [[97], [], [98]] rfl _ (w1.heap.size + 1) r2 r1 (by omega) (by omega)).mono ?_
  rintro e w2 ⟨rfl, hq⟩
  have hB2 : Below w.heap.size w w2 := by obtain ⟨q, rfl⟩ := hq; exact below_drewN (hb1.alloc hs1 _) q
  have hs2 := hB2.size
  have r3 : Rd (w2.alloc (.cells #[.string ⟨#[97]⟩, .string ⟨#[98]⟩] 9)) (w2.alloc (.cells #[.string ⟨#[97]⟩, .string ⟨#[98]⟩] 9)).heap.size 1 (some ⟨w2.heap.size, 0, none⟩) 2 (strs [[97], [98]]) := Rd.new w2 _ 9 [.string ⟨#[97]⟩, .string ⟨#[98]⟩] (by simp)
  clear r1 r2 hq hown
  go_wp2_with fail
  with_reducible refine (join_any _ 2 2 [[97], [98]] _ r3 (by omega) (by decide)).mono ?_
  rintro e w3 ⟨rfl, hb3⟩
  have hB3 : Below w.heap.size w w3 := (hB2.alloc hs2 _).trans (hb3.mono (by simp; omega))
  have ej : B (joinS [[97], [98]]) = ⟨#[97, 10, 98, 10]⟩ := rfl
  rw [ej]
  clear ej r3 hb3
  go_wp2_with fail
  with_reducible refine (aw_blank2 _).mono ?_
  rintro e w' ⟨rfl, rfl⟩
  go_wp2_with fail
  with_reducible refine (aw_blank1 _).mono ?_
  rintro e w' ⟨rfl, rfl⟩
  go_wp2_with fail
  with_reducible refine (aw_indent _).mono ?_
  rintro e w' ⟨rfl, rfl⟩
  go_wp2_with fail
  with_reducible refine (aw_strip1 _).mono ?_
  rintro e w' ⟨rfl, rfl⟩
  go_wp2_with fail
  with_reducible refine (aw_strip9 _).mono ?_
  rintro e w' ⟨rfl, rfl⟩
  go_wp2_with fail
  with_reducible refine (aw_trim _).mono ?_
  rintro e w' ⟨rfl, rfl⟩
  go_wp2
  go_ret
  exact ⟨rfl, hB3⟩

end Go.Proofs.Ytedijdllbfnapaa
