/-
  Layer 48 (graph): the functions of rules; slices of texts compared and copied.
-/
import Derived.Test.YtbikldmhfaecpaaGrC
import Derived.Test.YtbikldmhfaecpaaGrQ
import Derived.Test.YtbikldmhfaecpaaShelf48
import Derived.StillTailTactics
namespace Go.Proofs.Ytbikldmhfaecpaa
open Go.RowKit
set_option linter.unusedVariables false
set_option linter.unusedSimpArgs false
attribute [local go_sem] B_data B_size

theorem flat_len {l : List Nm} {M : Nat} (h : ∀ x ∈ l, x.length ≤ M) : l.flatten.length ≤ l.length * M := by
  induction l with
  | nil => simp
  | cons a r ih =>
    have h1 := h a List.mem_cons_self
    have h2 := ih fun x hx => h x (List.mem_cons_of_mem _ hx)
    simp only [List.flatten_cons, List.length_append, List.length_cons, Nat.add_mul, Nat.one_mul]; omega
theorem flat_snoc {l : List Nm} {k : Nat} (h : k < l.length) : (l.take k).flatten ++ l[k] = (l.take (k + 1)).flatten := by
  rw [List.take_succ_eq_append_getElem h, List.flatten_append]; simp
theorem B_app (a b : List UInt8) : B (a ++ b) = B a ++ B b := by
  apply ByteArray.ext; simp [B]
theorem conv1R (c : UInt8) (W : World) : (convert 83 9 (.slice (some ⟨W.heap.size, 0, none⟩) 1 1)).run Try.prog (W.alloc (.cells #[.int .u8 (c.toNat : Int)] 5)) = .ok (.string (B [c])) (W.alloc (.cells #[.int .u8 (c.toNat : Int)] 5)) := by
  refine run_convert_bytes_back _ 83 9 5 ⟨W.heap.size, 0, none⟩ 1 [c] Try.underlying83 Try.underlying5 Try.underlying9 (fun j hj => ?_)
  rw [addr_lit, cell_of_row _ W.heap.size _ _ _ (0, 0) (heap_alloc_new W _)]
  have hj : j < 1 := hj
  obtain rfl : j = 0 := by omega
  rfl
theorem valueX_0 (inn : List Nm) : valueX 0 inn = (join50 inn.flatten, 0) := rfl
theorem valueX_1 (inn : List Nm) : valueX 1 inn = ([UInt8.ofNat (48 + inn.flatten.length % 3)], 0) := rfl
theorem valueX_2n : valueX 2 [] = ([108, 111, 115, 116], 5) := rfl
theorem valueX_2e (r : List Nm) : valueX 2 ([] :: r) = ([108, 111, 115, 116], 5) := rfl
theorem valueX_2 (x : Nm) (r : List Nm) (h : x ≠ []) : valueX 2 (x :: r) = (x.take 1, 0) := by simp [valueX, h]
theorem valueX_3 (inn : List Nm) : valueX 3 inn = ([120], 0) := rfl
def ResV (r : Res) : Value := .tuple #[.string (B r.1), .int .i64 (r.2 : Int)]
set_option maxHeartbeats 4000000 in
set_option maxRecDepth 100000 in
theorem value_any (f : Nat) (A : Option Addr) (n c : Nat) (inn : List Nm) (w : World) (hr : Rd w w.heap.size 1 A n (strs inn)) (hn : n ≤ 100000) (hs : ∀ x ∈ inn, x.length ≤ 1000) (hf : f ≤ 3) :
    Calls Try.prog 41 #[.int .i64 (f : Int), .slice A n c] w fun e w' => e = .returned (ResV (valueX f inn)) ∧ Below w.heap.size w w' := by
  have hl : inn.length = n := hr.strs_length
  have HS := Lib.hid hs
  have HR := Lib.hid hr
  have HV : Hid (valueX f inn = valueX f inn) := rfl
  generalize hVV : valueX f inn = V at HV ⊢
  have HVV := Lib.hid hVV
  clear hs hr HV hVV
  go_enter Try.func41, Try.ntmps41
  go_wp2
  go_loopg [6, 11] n (fun j s i wr => wr = w ∧ ∃ k : Nat, Hid (j = n - k) ∧ k ≤ n ∧ i = .int .i64 (k : Int) ∧ s = .string (B (inn.take k).flatten))
  case atStart => exact ⟨rfl, 0, rfl, Nat.zero_le _, rfl, rfl⟩
  case round =>
    obtain ⟨rfl, k, hj, hk, rfl, rfl⟩ := hrel
    by_cases hlt : k < n
    · have hlt2 : k < inn.length := by omega
      have hg : inn[k]? = some inn[k] := List.getElem?_eq_getElem hlt2
      have HF := Lib.hid (flat_snoc hlt2)
      have hx1 : (inn[k]).length ≤ 1000 := HS.out _ (List.getElem_mem hlt2)
      have hx2 : (inn.take k).flatten.length ≤ 100000000 := by
        have := flat_len (l := inn.take k) (M := 1000) fun x hx => HS.out x (List.mem_of_mem_take hx)
        rw [List.length_take] at this
        omega
      obtain ⟨b, o, rfl, _, hcx⟩ := rd_get HR.out hg
      generalize inn[k] = x at *
      generalize hq : (inn.take k).flatten = s at *
      have j1 : (0 : Int) ≤ (k : Int) := by omega
      have j2 : (k : Int) < (n : Int) := by omega
      have hBB : B s ++ B x = B (inn.take (k + 1)).flatten := by rw [← HF.out]; exact (B_app s x).symm
      go_wp2
      go_roundg (n - (k + 1))
      case rel => exact ⟨rfl, k + 1, rfl, by omega, by go_num, rfl⟩
      case measure => have := hj.out; omega
    · obtain rfl : k = n := by omega
      have HFL : Hid ((inn.take k).flatten = inn.flatten) := by rw [← hl, List.take_length]; rfl
      rw [HFL.out]
      have hfl : inn.flatten.length ≤ 100000000 := by have := flat_len HS.out; omega
      generalize hfs : inn.flatten = s at *
      have HFS := Lib.hid hfs
      clear hfs
      have hBs := B_size s
      match f, hf, HVV with
      | 0, _, HVV =>
        by_cases h50 : 50 < s.length
        · have HX : Hid (V = (s.take 50, 0)) := by rw [← HVV.out, valueX_0, HFS.out, join50, if_pos h50]; rfl
          have d1 : decide (s.length > 50) = true := by simpa using h50
          have d2 : (50 : Int) ≤ (s.length : Int) := by omega
          have d3 : (50 : Int) < (s.length : Int) := by omega
          have HE : (B s).extract 0 50 = B (s.take 50) := by rw [B_extract]; simp [B, ByteArray.toList_eq]
          go_wp2
          rw [HX.out]
          go_ret2
          exact ⟨rfl, Below.refl _ _⟩
        · have HX : Hid (V = (s, 0)) := by rw [← HVV.out, valueX_0, HFS.out, join50, if_neg h50]; rfl
          have d1 : decide (s.length > 50) = false := by simpa using h50
          have d3 : ¬ (50 : Int) < (s.length : Int) := by omega
          go_wp2
          rw [HX.out]
          go_ret2
          exact ⟨rfl, Below.refl _ _⟩
      | 1, _, HVV =>
        have HX : Hid (V = ([UInt8.ofNat (48 + s.length % 3)], 0)) := by rw [← HVV.out, valueX_1, HFS.out]; rfl
        have hm3 : s.length % 3 < 3 := Nat.mod_lt _ (by decide)
        have e1 : Int.tmod (s.length : Int) 3 = ((s.length % 3 : Nat) : Int) := (Int.ofNat_tmod s.length 3).symm
        have hu : (UInt8.ofNat (48 + s.length % 3)).toNat = 48 + s.length % 3 := by simp; omega
        have hcv := conv1R (UInt8.ofNat (48 + s.length % 3)) wr
        rw [hu] at hcv
        generalize s.length % 3 = q at *
        rw [show ((48 + q : Nat) : Int) = 48 + (q : Int) from by omega] at hcv
        clear hu
        generalize UInt8.ofNat (48 + q) = ch at hcv HX
        have e2 : IntKind.i64.wrap (48 + (q : Int)) = 48 + (q : Int) := IntWalk.i64_in _ (by omega)
        have e3 : IntKind.u8.wrap (48 + (q : Int)) = 48 + (q : Int) := IntWalk.u8_in _ (by omega)
        go_wp2
        rw [HX.out]
        go_ret2
        exact ⟨rfl, below_alloc _ _⟩
      | 2, _, HVV =>
        cases hi : inn with
        | nil =>
          have hz : k = 0 := by rw [← hl, hi]; rfl
          subst hz
          have HX : Hid (V = ([108, 111, 115, 116], 5)) := by rw [← HVV.out, hi, valueX_2n]; rfl
          go_wp2
          rw [HX.out]
          go_ret2
          exact ⟨rfl, Below.refl _ _⟩
        | cons x r =>
          have hk0 : 0 < k := by rw [← hl, hi]; simp
          obtain ⟨b, o, rfl, _, hcx⟩ := rd_get (k := 0) (x := x) HR.out (by rw [hi]; rfl)
          rw [Nat.add_zero] at hcx
          have j2 : (0 : Int) < (k : Int) := by omega
          have d0 : ((k : Int) == 0) = false := by simp; omega
          have d0' : ¬ ((k : Int) = 0) := by omega
          cases x with
          | nil =>
            have HX : Hid (V = ([108, 111, 115, 116], 5)) := by rw [← HVV.out, hi, valueX_2e]; rfl
            have hB0 : (B ([] : Nm) == ⟨#[]⟩) = true := rfl
            clear hi
            go_wp2
            rw [HX.out]
            go_ret2
            exact ⟨rfl, Below.refl _ _⟩
          | cons y z =>
            have HX : Hid (V = ([y], 0)) := by rw [← HVV.out, hi, valueX_2 _ _ (by simp)]; rfl
            have hB0 : (B (y :: z) == ⟨#[]⟩) = false := by rw [show (⟨#[]⟩ : ByteArray) = B [] from rfl, B_beq]; simp
            have HE : (B (y :: z)).extract 0 1 = B [y] := by rw [B_extract]; simp [B, ByteArray.toList_eq]
            have hsz : (B (y :: z)).size = z.length + 1 := by rw [B_size]; rfl
            have j4 : (1 : Int) ≤ (z.length : Int) + 1 := by omega
            clear hi
            go_wp2
            rw [HX.out]
            go_ret2
            exact ⟨rfl, Below.refl _ _⟩
      | 3, _, HVV =>
        have HX : Hid (V = ([120], 0)) := by rw [← HVV.out, valueX_3]; rfl
        go_wp2
        rw [HX.out]
        go_ret2
        exact ⟨rfl, Below.refl _ _⟩
set_option maxRecDepth 100000 in
theorem join_any (A : Option Addr) (n c : Nat) (inn : List Nm) (w : World) (hr : Rd w w.heap.size 1 A n (strs inn)) (hn : n ≤ 100000) (hs : ∀ x ∈ inn, x.length ≤ 1000) :
    Calls Try.prog 26 #[.slice A n c] w fun e w' => e = .returned (ResV (valueX 0 inn)) ∧ Below w.heap.size w w' := by
  have C := Lib.hid (value_any 0 A n c inn w hr hn hs (by omega))
  generalize valueX 0 inn = V at C ⊢
  clear hr hs
  go_enter Try.func26, Try.ntmps26
  go_wp2_with fail
  refine C.out.mono ?_
  rintro e w' ⟨rfl, hb⟩
  unfold ResV at *
  go_wp2
  go_ret2
  exact ⟨rfl, hb⟩
set_option maxRecDepth 100000 in
theorem size_fn (A : Option Addr) (n c : Nat) (inn : List Nm) (w : World) (hr : Rd w w.heap.size 1 A n (strs inn)) (hn : n ≤ 100000) (hs : ∀ x ∈ inn, x.length ≤ 1000) :
    Calls Try.prog 25 #[.slice A n c] w fun e w' => e = .returned (ResV (valueX 1 inn)) ∧ Below w.heap.size w w' := by
  have C := Lib.hid (value_any 1 A n c inn w hr hn hs (by omega))
  generalize valueX 1 inn = V at C ⊢
  clear hr hs
  go_enter Try.func25, Try.ntmps25
  go_wp2_with fail
  refine C.out.mono ?_
  rintro e w' ⟨rfl, hb⟩
  unfold ResV at *
  go_wp2
  go_ret2
  exact ⟨rfl, hb⟩
set_option maxRecDepth 100000 in
theorem first_any (A : Option Addr) (n c : Nat) (inn : List Nm) (w : World) (hr : Rd w w.heap.size 1 A n (strs inn)) (hn : n ≤ 100000) (hs : ∀ x ∈ inn, x.length ≤ 1000) :
    Calls Try.prog 31 #[.slice A n c] w fun e w' => e = .returned (ResV (valueX 2 inn)) ∧ Below w.heap.size w w' := by
  have C := Lib.hid (value_any 2 A n c inn w hr hn hs (by omega))
  generalize valueX 2 inn = V at C ⊢
  clear hr hs
  go_enter Try.func31, Try.ntmps31
  go_wp2_with fail
  refine C.out.mono ?_
  rintro e w' ⟨rfl, hb⟩
  unfold ResV at *
  go_wp2
  go_ret2
  exact ⟨rfl, hb⟩
set_option maxRecDepth 100000 in
theorem letter_any (A : Option Addr) (n c : Nat) (inn : List Nm) (w : World) (hr : Rd w w.heap.size 1 A n (strs inn)) (hn : n ≤ 100000) (hs : ∀ x ∈ inn, x.length ≤ 1000) :
    Calls Try.prog 32 #[.slice A n c] w fun e w' => e = .returned (ResV (valueX 3 inn)) ∧ Below w.heap.size w w' := by
  have C := Lib.hid (value_any 3 A n c inn w hr hn hs (by omega))
  generalize valueX 3 inn = V at C ⊢
  clear hr hs
  go_enter Try.func32, Try.ntmps32
  go_wp2_with fail
  refine C.out.mono ?_
  rintro e w' ⟨rfl, hb⟩
  unfold ResV at *
  go_wp2
  go_ret2
  exact ⟨rfl, hb⟩
/-- the number of a function value's function -/
def fnId (f : Nat) : FuncId := if f = 0 then 26 else if f = 1 then 25 else if f = 2 then 31 else 32
theorem fnV_eq (f : Nat) : fnV f = .func (.func (fnId f)) #[] #[] := by
  unfold fnV fnId
  split
  · rfl
  · split
    · rfl
    · split <;> rfl
theorem valueX_big {f : Nat} (h : 3 ≤ f) (inn : List Nm) : valueX f inn = valueX 3 inn := by
  unfold valueX
  rw [if_neg (by omega), if_neg (by omega), if_neg (by omega)]; rfl
theorem fn_any (f : Nat) (A : Option Addr) (n c : Nat) (inn : List Nm) (w : World) (hr : Rd w w.heap.size 1 A n (strs inn)) (hn : n ≤ 100000) (hs : ∀ x ∈ inn, x.length ≤ 1000) :
    Calls Try.prog (fnId f) #[.slice A n c] w fun e w' => e = .returned (ResV (valueX f inn)) ∧ Below w.heap.size w w' := by
  unfold fnId
  split
  · rename_i h; subst h; exact join_any A n c inn w hr hn hs
  · split
    · rename_i h; subst h; exact size_fn A n c inn w hr hn hs
    · split
      · rename_i h; subst h; exact first_any A n c inn w hr hn hs
      · rw [valueX_big (by omega)]; exact letter_any A n c inn w hr hn hs
theorem zs_get (xs : List Nm) (j : Nat) (hj : j < (xs.map B).length) : (xs.map B).getD j ByteArray.empty = B (xs.getD j []) := by
  rw [List.length_map] at hj; simp [hj]
/-- a slice of texts copied -/
theorem clone_any (A : Option Addr) (n c : Nat) (xs : List Nm) (w : World) (hr : Rd w w.heap.size 1 A n (strs xs)) (hn : n ≤ 100000) :
    Calls Try.prog 40 #[.slice A n c] w fun e w' => ∃ v, e = .returned v ∧ w'.ownsRow w.heap.size 9 1 v n (strs xs) ∧ Below w.heap.size w w' := by
  have hl : xs.length = n := hr.strs_length
  cases A with
  | none =>
    have h0 : n = 0 := by
      rcases Nat.eq_zero_or_pos n with h0 | h0
      · exact h0
      · obtain ⟨ad, h, _⟩ := hr.2 h0; cases h
    subst h0
    have hx : xs = [] := List.eq_nil_of_length_eq_zero hl
    subst hx
    refine (Try.slices_Clone_string_nil 0 c w).mono ?_
    rintro e w' ⟨rfl, rfl⟩
    exact ⟨_, rfl, ⟨rfl, .inl ⟨rfl, rfl⟩⟩, Below.refl _ _⟩
  | some a =>
    rcases Nat.eq_zero_or_pos n with h0 | h0
    · subst h0
      have hx : xs = [] := List.eq_nil_of_length_eq_zero hl
      subst hx
      refine (Try.slices_Clone_string_zero a c w).mono ?_
      rintro e w' ⟨v, rfl, h1, _, h3⟩
      exact ⟨v, rfl, h1, h3⟩
    · obtain ⟨x, hx⟩ : ∃ x, xs[0]? = some x := ⟨xs[0]'(by omega), List.getElem?_eq_getElem (by omega)⟩
      obtain ⟨b, o, e, _, _⟩ := rd_get hr hx
      injection e with e
      subst e
      refine (Try.slices_Clone_string b o n c (xs.map B) w (by rw [List.length_map, hl]; exact Nat.le_refl _) (by omega) (fun j hj => ?_)).mono ?_
      · rw [zs_get xs j hj]
        rw [List.length_map] at hj
        obtain ⟨b', o', e, _, h⟩ := rd_get (k := j) (x := xs[j]) hr (List.getElem?_eq_getElem hj)
        injection e with e; injection e with e1 e2
        subst e1; subst e2
        rw [h]; simp [hj]
      · rintro e w' ⟨v, rfl, h1, _, h3⟩
        refine ⟨v, rfl, ?_, h3⟩
        rw [List.take_of_length_le (by rw [List.length_map, hl]; exact Nat.le_refl _)] at h1
        have e : (xs.map B).map Value.string = strs xs := by unfold strs; rw [List.map_map]; rfl
        rwa [e] at h1
theorem map_B_inj {xs ys : List Nm} : xs.map B = ys.map B ↔ xs = ys := by
  constructor
  · intro h
    induction xs generalizing ys with
    | nil => cases ys with
      | nil => rfl
      | cons b s => simp at h
    | cons a r ih => cases ys with
      | nil => simp at h
      | cons b s =>
        simp only [List.map_cons, List.cons.injEq] at h
        rw [B_inj h.1, ih h.2]
  · intro h; rw [h]
/-- two slices of texts compared -/
theorem equal_any (A A' : Option Addr) (n c n' c' : Nat) (xs ys : List Nm) (w : World) (hx : Rd w w.heap.size 1 A n (strs xs)) (hy : Rd w w.heap.size 1 A' n' (strs ys)) (hn : n ≤ 100000) :
    Calls Try.prog 48 #[.slice A n c, .slice A' n' c'] w fun e w' => e = .returned (.bool (decide (xs = ys))) ∧ ∃ q, w' = w.drewN q := by
  have hl : xs.length = n := hx.strs_length
  have hl' : ys.length = n' := hy.strs_length
  by_cases he : n = n'
  · subst he
    rcases Nat.eq_zero_or_pos n with h0 | h0
    · subst h0
      have e1 : xs = [] := List.eq_nil_of_length_eq_zero hl
      have e2 : ys = [] := List.eq_nil_of_length_eq_zero hl'
      subst e1; subst e2
      refine (Try.slices_Equal_string_empty A A' c 0 c' w (by omega)).mono ?_
      rintro e w' ⟨rfl, rfl⟩
      exact ⟨by simp, 0, rfl⟩
    · obtain ⟨x, hx0⟩ : ∃ x, xs[0]? = some x := ⟨xs[0]'(by omega), List.getElem?_eq_getElem (by omega)⟩
      obtain ⟨y, hy0⟩ : ∃ y, ys[0]? = some y := ⟨ys[0]'(by omega), List.getElem?_eq_getElem (by omega)⟩
      obtain ⟨b, o, rfl, _, _⟩ := rd_get hx hx0
      obtain ⟨b2, o2, rfl, _, _⟩ := rd_get hy hy0
      refine (Try.slices_Equal_string b o n c b2 o2 n c' (xs.map B) (ys.map B) w (by rw [List.length_map, hl]; exact Nat.le_refl _) (by rw [List.length_map, hl']; exact Nat.le_refl _) (by omega) (by omega) (fun j hj => ?_) (fun j hj => ?_)).mono ?_
      · rw [zs_get xs j hj]
        rw [List.length_map] at hj
        obtain ⟨b', o', e, _, h⟩ := rd_get (k := j) (x := xs[j]) hx (List.getElem?_eq_getElem hj)
        injection e with e; injection e with e1 e2
        subst e1; subst e2
        rw [h]; simp [hj]
      · rw [zs_get ys j hj]
        rw [List.length_map] at hj
        obtain ⟨b', o', e, _, h⟩ := rd_get (k := j) (x := ys[j]) hy (List.getElem?_eq_getElem hj)
        injection e with e; injection e with e1 e2
        subst e1; subst e2
        rw [h]; simp [hj]
      · rintro e w' ⟨rfl, q, rfl⟩
        rw [List.take_of_length_le (by rw [List.length_map, hl]; exact Nat.le_refl _), List.take_of_length_le (by rw [List.length_map, hl']; exact Nat.le_refl _)]
        exact ⟨by simp only [map_B_inj], q, rfl⟩
  · refine (Try.slices_Equal_string_lens A A' n c n' c' w he).mono ?_
    rintro e w' ⟨rfl, rfl⟩
    have hne : xs ≠ ys := fun e => he (by rw [← hl, ← hl', e])
    exact ⟨by simp [hne], 0, rfl⟩
end Go.Proofs.Ytbikldmhfaecpaa
