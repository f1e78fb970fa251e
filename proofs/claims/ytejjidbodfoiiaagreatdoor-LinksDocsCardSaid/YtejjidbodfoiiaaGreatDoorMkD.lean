/-
  Layer 1 (chars), the chapter's: more, three, four, at.
-/
import Derived.Test.YtejjidbodfoiiaaGreatDoorMkABC
namespace Go.Proofs.YtejjidbodfoiiaaGreatDoor
open Go.RowKit
set_option linter.unusedVariables false
set_option linter.unusedSimpArgs false
attribute [local go_sem] B_data B_size

theorem below_alloc (w : World) (o : Obj) : Below w.heap.size w (w.alloc o) := (Below.refl _ _).alloc (Nat.le_refl _) _
/-- the value of a further byte, or -1 -/
def moreV (s : ByteArray) (j : Nat) (lo hi : Int) : Int := if h : j < s.size then (if lo ≤ (s[j].toNat : Int) ∧ (s[j].toNat : Int) ≤ hi then (s[j].toNat : Int) - 128 else -1) else -1
set_option maxHeartbeats 1000000 in
set_option maxRecDepth 100000 in
theorem more_any (s : ByteArray) (j : Nat) (a lo hi : Int) (w : World) (ha : a = (j : Int)) (hs : s.size ≤ 9223372036854775000) :
    Calls Tryz.prog 160 #[.string s, .int .i64 a, .int .i64 lo, .int .i64 hi] w fun e w' => e = .returned (.int .i64 (moreV s j lo hi)) ∧ w = w' := by
  subst ha
  by_cases hj : j < s.size
  · have hbt : s[j].toNat < 256 := s[j].toNat_lt
    by_cases hb : lo ≤ (s[j].toNat : Int) ∧ (s[j].toNat : Int) ≤ hi
    · have HV : Hid (moreV s j lo hi = (s[j].toNat : Int) - 128) := by unfold moreV Hid; rw [dif_pos hj, if_pos hb]
      obtain ⟨h1, h2⟩ := hb
      go_enter Tryz.func160, Tryz.ntmps160
      go_wp2
      go_ret
      exact ⟨ret_int HV.out.symm, rfl⟩
    · have HV : Hid (moreV s j lo hi = -1) := by unfold moreV Hid; rw [dif_pos hj, if_neg hb]
      go_enter Tryz.func160, Tryz.ntmps160
      go_wp2
      all_goals first | (exfalso; omega) | skip
      all_goals
        go_ret
        exact ⟨ret_int HV.out.symm, rfl⟩
  · have HV : Hid (moreV s j lo hi = -1) := by unfold moreV Hid; rw [dif_neg hj]
    go_enter Tryz.func160, Tryz.ntmps160
    go_wp2
    go_ret
    exact ⟨ret_int HV.out.symm, rfl⟩
theorem more_ok {s : ByteArray} {j : Nat} {lo hi : Int} (hlo : 128 ≤ lo) (h : 0 ≤ moreV s j lo hi) : ∃ hj : j < s.size, lo ≤ (s[j].toNat : Int) ∧ (s[j].toNat : Int) ≤ hi ∧ moreV s j lo hi = (s[j].toNat : Int) - 128 := by
  unfold moreV at h ⊢
  by_cases hj : j < s.size
  · rw [dif_pos hj] at h ⊢
    by_cases hb : lo ≤ (s[j].toNat : Int) ∧ (s[j].toNat : Int) ≤ hi
    · rw [if_pos hb]; exact ⟨hj, hb.1, hb.2, rfl⟩
    · rw [if_neg hb] at h; omega
  · rw [dif_neg hj] at h; omega
theorem more_no {s : ByteArray} {j : Nat} {lo hi : Int} (hlo : 128 ≤ lo) (h : moreV s j lo hi < 0) (hj : j < s.size) : ¬ (lo ≤ (s[j].toNat : Int) ∧ (s[j].toNat : Int) ≤ hi) := by
  intro hb
  unfold moreV at h
  rw [dif_pos hj, if_pos hb] at h
  omega
def RPost (l : List UInt8) (w : World) (e : Ending) (w' : World) : Prop := ∃ c n, Nx l c n ∧ e = .returned (.agg #[.int .i64 c, .int .i64 ((n : Nat) : Int)]) ∧ Below w.heap.size w w'
set_option maxHeartbeats 4000000 in
set_option maxRecDepth 100000 in
theorem rthree_a (s : ByteArray) (i : Nat) (w : World) (hs : s.size ≤ 9223372036854775000) (hi : i < s.size) (h2 : wid s[i].toNat = 3) (hb : s[i].toNat = 224) :
    Calls Tryz.prog 161 #[.string s, .int .i64 (i : Int)] w (RPost (s.toList.drop i) w) := by
  have hw := wid_thr h2
  have H2 := Lib.hid h2
  clear h2
  have d1 : ((s[i].toNat : Int) == 224) = true := by rw [hb]; rfl
  have d2 : ((s[i].toNat : Int) == 237) = false := by rw [hb]; rfl
  have hlo : ((loB s[i].toNat : Nat) : Int) = 160 := by subst_vars; rw [hb]; rfl
  have hhi : ((hiB s[i].toNat : Nat) : Int) = 191 := by subst_vars; rw [hb]; rfl
  have HLO := Lib.hid hlo
  have HHI := Lib.hid hhi
  clear hlo hhi
  have NX := Lib.hid (fun h hj => more_no (s := s) (j := i + 1) (lo := 160) (hi := 191) (by omega) h hj)
  have OX := Lib.hid (fun h => more_ok (s := s) (j := i + 1) (lo := 160) (hi := 191) (by omega) h)
  have NY := Lib.hid (fun h hj => more_no (s := s) (j := i + 2) (lo := 128) (hi := 191) (by omega) h hj)
  have OY := Lib.hid (fun h => more_ok (s := s) (j := i + 2) (lo := 128) (hi := 191) (by omega) h)
  have CX := Lib.hid (fun W => more_any s (i + 1) ((i : Int) + 1) 160 191 W (by omega) hs)
  have CY := Lib.hid (fun W => more_any s (i + 2) ((i : Int) + 2) 128 191 W (by omega) hs)
  generalize moreV s (i + 1) 160 191 = X at *
  generalize moreV s (i + 2) 128 191 = Y at *
  by_cases hX : X < 0
  · have HQ : Hid (sq (s.toList.drop i) = 0) := by
      by_cases hz : i + 2 < s.size
      · rw [drop_byte s i hi, drop_byte s (i + 1) (by omega), drop_byte s (i + 2) (by omega), sq_w3 _ _ _ _ H2.out, if_neg]
        · rfl
        · intro hh
          refine NX.out hX (by omega) ?_
          have hh := hh.1
          rw [← HLO.out, ← HHI.out]; omega
      · rw [drop_byte s i hi]
        exact sq_short _ _ (by rw [← drop_byte s i hi, drop_len, H2.out]; omega)
    go_enter Tryz.func161, Tryz.ntmps161
    go_wp2_with fail
    refine (CX.out _).mono ?_
    rintro e w' ⟨rfl, rfl⟩
    go_wp2_with fail
    refine (CY.out _).mono ?_
    rintro e w' ⟨rfl, rfl⟩
    go_wp2
    exact bodyPost_ret (v := .agg #[.int .i64 65533, .int .i64 1]) (by simp [results, Tryz.results161, go_sem]) rfl ⟨_, 1, Nx.bad HQ.out, rfl, below_alloc _ _⟩
  by_cases hY : Y < 0
  · have HQ : Hid (sq (s.toList.drop i) = 0) := by
      by_cases hz : i + 2 < s.size
      · rw [drop_byte s i hi, drop_byte s (i + 1) (by omega), drop_byte s (i + 2) (by omega), sq_w3 _ _ _ _ H2.out, if_neg]
        · rfl
        · intro hh
          refine NY.out hY (by omega) ?_
          have hh := hh.2
          omega
      · rw [drop_byte s i hi]
        exact sq_short _ _ (by rw [← drop_byte s i hi, drop_len, H2.out]; omega)
    go_enter Tryz.func161, Tryz.ntmps161
    go_wp2_with fail
    refine (CX.out _).mono ?_
    rintro e w' ⟨rfl, rfl⟩
    go_wp2_with fail
    refine (CY.out _).mono ?_
    rintro e w' ⟨rfl, rfl⟩
    go_wp2
    exact bodyPost_ret (v := .agg #[.int .i64 65533, .int .i64 1]) (by simp [results, Tryz.results161, go_sem]) rfl ⟨_, 1, Nx.bad HQ.out, rfl, below_alloc _ _⟩
  obtain ⟨jX, lX, uX, eX⟩ := OX.out (by omega)
  obtain ⟨jY, lY, uY, eY⟩ := OY.out (by omega)
  have HQ : Hid (sq (s.toList.drop i) = 3) := by
    rw [drop_byte s i hi, drop_byte s (i + 1) (by omega), drop_byte s (i + 2) (by omega), sq_w3 _ _ _ _ H2.out, if_pos]
    · rfl
    · have := HLO.out
      have := HHI.out
      exact ⟨⟨by omega, by omega⟩, by omega, by omega⟩
  have bX : 0 ≤ X ∧ X < 64 := by omega
  have bY : 0 ≤ Y ∧ Y < 64 := by omega
  have hc1 : 128 ≤ ((s[i].toNat : Int) - 224) * 4096 + X * 64 + Y := by omega
  have hc2 : ((s[i].toNat : Int) - 224) * 4096 + X * 64 + Y < 2097152 := by omega
  have EX := Lib.hid eX
  clear eX lX uX NX OX
  have EY := Lib.hid eY
  clear eY lY uY NY OY
  obtain ⟨qX, rX⟩ := bX
  obtain ⟨qY, rY⟩ := bY
  go_enter Tryz.func161, Tryz.ntmps161
  go_wp2_with fail
  refine (CX.out _).mono ?_
  rintro e w' ⟨rfl, rfl⟩
  go_wp2_with fail
  refine (CY.out _).mono ?_
  rintro e w' ⟨rfl, rfl⟩
  go_wp2
  exact bodyPost_ret (v := .agg #[.int .i64 (((s[i].toNat : Int) - 224) * 4096 + X * 64 + Y), .int .i64 3]) (by simp [results, Tryz.results161, go_sem] <;> omega) rfl ⟨_, 3, .inr (.inr ⟨by rw [HQ.out]; omega, HQ.out.symm, hc1, hc2⟩), rfl, below_alloc _ _⟩
set_option maxHeartbeats 4000000 in
set_option maxRecDepth 100000 in
theorem rthree_b (s : ByteArray) (i : Nat) (w : World) (hs : s.size ≤ 9223372036854775000) (hi : i < s.size) (h2 : wid s[i].toNat = 3) (hb : s[i].toNat = 237) :
    Calls Tryz.prog 161 #[.string s, .int .i64 (i : Int)] w (RPost (s.toList.drop i) w) := by
  have hw := wid_thr h2
  have H2 := Lib.hid h2
  clear h2
  have d1 : ((s[i].toNat : Int) == 224) = false := by rw [hb]; rfl
  have d2 : ((s[i].toNat : Int) == 237) = true := by rw [hb]; rfl
  have hlo : ((loB s[i].toNat : Nat) : Int) = 128 := by subst_vars; rw [hb]; rfl
  have hhi : ((hiB s[i].toNat : Nat) : Int) = 159 := by subst_vars; rw [hb]; rfl
  have HLO := Lib.hid hlo
  have HHI := Lib.hid hhi
  clear hlo hhi
  have NX := Lib.hid (fun h hj => more_no (s := s) (j := i + 1) (lo := 128) (hi := 159) (by omega) h hj)
  have OX := Lib.hid (fun h => more_ok (s := s) (j := i + 1) (lo := 128) (hi := 159) (by omega) h)
  have NY := Lib.hid (fun h hj => more_no (s := s) (j := i + 2) (lo := 128) (hi := 191) (by omega) h hj)
  have OY := Lib.hid (fun h => more_ok (s := s) (j := i + 2) (lo := 128) (hi := 191) (by omega) h)
  have CX := Lib.hid (fun W => more_any s (i + 1) ((i : Int) + 1) 128 159 W (by omega) hs)
  have CY := Lib.hid (fun W => more_any s (i + 2) ((i : Int) + 2) 128 191 W (by omega) hs)
  generalize moreV s (i + 1) 128 159 = X at *
  generalize moreV s (i + 2) 128 191 = Y at *
  by_cases hX : X < 0
  · have HQ : Hid (sq (s.toList.drop i) = 0) := by
      by_cases hz : i + 2 < s.size
      · rw [drop_byte s i hi, drop_byte s (i + 1) (by omega), drop_byte s (i + 2) (by omega), sq_w3 _ _ _ _ H2.out, if_neg]
        · rfl
        · intro hh
          refine NX.out hX (by omega) ?_
          have hh := hh.1
          rw [← HLO.out, ← HHI.out]; omega
      · rw [drop_byte s i hi]
        exact sq_short _ _ (by rw [← drop_byte s i hi, drop_len, H2.out]; omega)
    go_enter Tryz.func161, Tryz.ntmps161
    go_wp2_with fail
    refine (CX.out _).mono ?_
    rintro e w' ⟨rfl, rfl⟩
    go_wp2_with fail
    refine (CY.out _).mono ?_
    rintro e w' ⟨rfl, rfl⟩
    go_wp2
    exact bodyPost_ret (v := .agg #[.int .i64 65533, .int .i64 1]) (by simp [results, Tryz.results161, go_sem]) rfl ⟨_, 1, Nx.bad HQ.out, rfl, below_alloc _ _⟩
  by_cases hY : Y < 0
  · have HQ : Hid (sq (s.toList.drop i) = 0) := by
      by_cases hz : i + 2 < s.size
      · rw [drop_byte s i hi, drop_byte s (i + 1) (by omega), drop_byte s (i + 2) (by omega), sq_w3 _ _ _ _ H2.out, if_neg]
        · rfl
        · intro hh
          refine NY.out hY (by omega) ?_
          have hh := hh.2
          omega
      · rw [drop_byte s i hi]
        exact sq_short _ _ (by rw [← drop_byte s i hi, drop_len, H2.out]; omega)
    go_enter Tryz.func161, Tryz.ntmps161
    go_wp2_with fail
    refine (CX.out _).mono ?_
    rintro e w' ⟨rfl, rfl⟩
    go_wp2_with fail
    refine (CY.out _).mono ?_
    rintro e w' ⟨rfl, rfl⟩
    go_wp2
    exact bodyPost_ret (v := .agg #[.int .i64 65533, .int .i64 1]) (by simp [results, Tryz.results161, go_sem]) rfl ⟨_, 1, Nx.bad HQ.out, rfl, below_alloc _ _⟩
  obtain ⟨jX, lX, uX, eX⟩ := OX.out (by omega)
  obtain ⟨jY, lY, uY, eY⟩ := OY.out (by omega)
  have HQ : Hid (sq (s.toList.drop i) = 3) := by
    rw [drop_byte s i hi, drop_byte s (i + 1) (by omega), drop_byte s (i + 2) (by omega), sq_w3 _ _ _ _ H2.out, if_pos]
    · rfl
    · have := HLO.out
      have := HHI.out
      exact ⟨⟨by omega, by omega⟩, by omega, by omega⟩
  have bX : 0 ≤ X ∧ X < 64 := by omega
  have bY : 0 ≤ Y ∧ Y < 64 := by omega
  have hc1 : 128 ≤ ((s[i].toNat : Int) - 224) * 4096 + X * 64 + Y := by omega
  have hc2 : ((s[i].toNat : Int) - 224) * 4096 + X * 64 + Y < 2097152 := by omega
  have EX := Lib.hid eX
  clear eX lX uX NX OX
  have EY := Lib.hid eY
  clear eY lY uY NY OY
  obtain ⟨qX, rX⟩ := bX
  obtain ⟨qY, rY⟩ := bY
  go_enter Tryz.func161, Tryz.ntmps161
  go_wp2_with fail
  refine (CX.out _).mono ?_
  rintro e w' ⟨rfl, rfl⟩
  go_wp2_with fail
  refine (CY.out _).mono ?_
  rintro e w' ⟨rfl, rfl⟩
  go_wp2
  exact bodyPost_ret (v := .agg #[.int .i64 (((s[i].toNat : Int) - 224) * 4096 + X * 64 + Y), .int .i64 3]) (by simp [results, Tryz.results161, go_sem] <;> omega) rfl ⟨_, 3, .inr (.inr ⟨by rw [HQ.out]; omega, HQ.out.symm, hc1, hc2⟩), rfl, below_alloc _ _⟩
set_option maxHeartbeats 4000000 in
set_option maxRecDepth 100000 in
theorem rthree_c (s : ByteArray) (i : Nat) (w : World) (hs : s.size ≤ 9223372036854775000) (hi : i < s.size) (h2 : wid s[i].toNat = 3) (hb : s[i].toNat ≠ 224) (hb2 : s[i].toNat ≠ 237) :
    Calls Tryz.prog 161 #[.string s, .int .i64 (i : Int)] w (RPost (s.toList.drop i) w) := by
  have hw := wid_thr h2
  have H2 := Lib.hid h2
  clear h2
  have d1 : ((s[i].toNat : Int) == 224) = false := beq_eq_false_iff_ne.2 (by omega)
  have d2 : ((s[i].toNat : Int) == 237) = false := beq_eq_false_iff_ne.2 (by omega)
  have hlo : ((loB s[i].toNat : Nat) : Int) = 128 := by unfold loB; rw [if_neg (by omega), if_neg (by omega)]; rfl
  have hhi : ((hiB s[i].toNat : Nat) : Int) = 191 := by unfold hiB; rw [if_neg (by omega), if_neg (by omega)]; rfl
  have HLO := Lib.hid hlo
  have HHI := Lib.hid hhi
  clear hlo hhi
  have NX := Lib.hid (fun h hj => more_no (s := s) (j := i + 1) (lo := 128) (hi := 191) (by omega) h hj)
  have OX := Lib.hid (fun h => more_ok (s := s) (j := i + 1) (lo := 128) (hi := 191) (by omega) h)
  have NY := Lib.hid (fun h hj => more_no (s := s) (j := i + 2) (lo := 128) (hi := 191) (by omega) h hj)
  have OY := Lib.hid (fun h => more_ok (s := s) (j := i + 2) (lo := 128) (hi := 191) (by omega) h)
  have CX := Lib.hid (fun W => more_any s (i + 1) ((i : Int) + 1) 128 191 W (by omega) hs)
  have CY := Lib.hid (fun W => more_any s (i + 2) ((i : Int) + 2) 128 191 W (by omega) hs)
  generalize moreV s (i + 1) 128 191 = X at *
  generalize moreV s (i + 2) 128 191 = Y at *
  by_cases hX : X < 0
  · have HQ : Hid (sq (s.toList.drop i) = 0) := by
      by_cases hz : i + 2 < s.size
      · rw [drop_byte s i hi, drop_byte s (i + 1) (by omega), drop_byte s (i + 2) (by omega), sq_w3 _ _ _ _ H2.out, if_neg]
        · rfl
        · intro hh
          refine NX.out hX (by omega) ?_
          have hh := hh.1
          rw [← HLO.out, ← HHI.out]; omega
      · rw [drop_byte s i hi]
        exact sq_short _ _ (by rw [← drop_byte s i hi, drop_len, H2.out]; omega)
    go_enter Tryz.func161, Tryz.ntmps161
    go_wp2_with fail
    refine (CX.out _).mono ?_
    rintro e w' ⟨rfl, rfl⟩
    go_wp2_with fail
    refine (CY.out _).mono ?_
    rintro e w' ⟨rfl, rfl⟩
    go_wp2
    exact bodyPost_ret (v := .agg #[.int .i64 65533, .int .i64 1]) (by simp [results, Tryz.results161, go_sem]) rfl ⟨_, 1, Nx.bad HQ.out, rfl, below_alloc _ _⟩
  by_cases hY : Y < 0
  · have HQ : Hid (sq (s.toList.drop i) = 0) := by
      by_cases hz : i + 2 < s.size
      · rw [drop_byte s i hi, drop_byte s (i + 1) (by omega), drop_byte s (i + 2) (by omega), sq_w3 _ _ _ _ H2.out, if_neg]
        · rfl
        · intro hh
          refine NY.out hY (by omega) ?_
          have hh := hh.2
          omega
      · rw [drop_byte s i hi]
        exact sq_short _ _ (by rw [← drop_byte s i hi, drop_len, H2.out]; omega)
    go_enter Tryz.func161, Tryz.ntmps161
    go_wp2_with fail
    refine (CX.out _).mono ?_
    rintro e w' ⟨rfl, rfl⟩
    go_wp2_with fail
    refine (CY.out _).mono ?_
    rintro e w' ⟨rfl, rfl⟩
    go_wp2
    exact bodyPost_ret (v := .agg #[.int .i64 65533, .int .i64 1]) (by simp [results, Tryz.results161, go_sem]) rfl ⟨_, 1, Nx.bad HQ.out, rfl, below_alloc _ _⟩
  obtain ⟨jX, lX, uX, eX⟩ := OX.out (by omega)
  obtain ⟨jY, lY, uY, eY⟩ := OY.out (by omega)
  have HQ : Hid (sq (s.toList.drop i) = 3) := by
    rw [drop_byte s i hi, drop_byte s (i + 1) (by omega), drop_byte s (i + 2) (by omega), sq_w3 _ _ _ _ H2.out, if_pos]
    · rfl
    · have := HLO.out
      have := HHI.out
      exact ⟨⟨by omega, by omega⟩, by omega, by omega⟩
  have bX : 0 ≤ X ∧ X < 64 := by omega
  have bY : 0 ≤ Y ∧ Y < 64 := by omega
  have hc1 : 128 ≤ ((s[i].toNat : Int) - 224) * 4096 + X * 64 + Y := by omega
  have hc2 : ((s[i].toNat : Int) - 224) * 4096 + X * 64 + Y < 2097152 := by omega
  have EX := Lib.hid eX
  clear eX lX uX NX OX
  have EY := Lib.hid eY
  clear eY lY uY NY OY
  obtain ⟨qX, rX⟩ := bX
  obtain ⟨qY, rY⟩ := bY
  go_enter Tryz.func161, Tryz.ntmps161
  go_wp2_with fail
  refine (CX.out _).mono ?_
  rintro e w' ⟨rfl, rfl⟩
  go_wp2_with fail
  refine (CY.out _).mono ?_
  rintro e w' ⟨rfl, rfl⟩
  go_wp2
  exact bodyPost_ret (v := .agg #[.int .i64 (((s[i].toNat : Int) - 224) * 4096 + X * 64 + Y), .int .i64 3]) (by simp [results, Tryz.results161, go_sem] <;> omega) rfl ⟨_, 3, .inr (.inr ⟨by rw [HQ.out]; omega, HQ.out.symm, hc1, hc2⟩), rfl, below_alloc _ _⟩
set_option maxHeartbeats 4000000 in
set_option maxRecDepth 100000 in
theorem rfour_a (s : ByteArray) (i : Nat) (w : World) (hs : s.size ≤ 9223372036854775000) (hi : i < s.size) (h2 : wid s[i].toNat = 4) (hb : s[i].toNat = 240) :
    Calls Tryz.prog 162 #[.string s, .int .i64 (i : Int)] w (RPost (s.toList.drop i) w) := by
  have hw := wid_fou h2
  have H2 := Lib.hid h2
  clear h2
  have d1 : ((s[i].toNat : Int) == 240) = true := by rw [hb]; rfl
  have d2 : ((s[i].toNat : Int) == 244) = false := by rw [hb]; rfl
  have hlo : ((loB s[i].toNat : Nat) : Int) = 144 := by subst_vars; rw [hb]; rfl
  have hhi : ((hiB s[i].toNat : Nat) : Int) = 191 := by subst_vars; rw [hb]; rfl
  have HLO := Lib.hid hlo
  have HHI := Lib.hid hhi
  clear hlo hhi
  have NX := Lib.hid (fun h hj => more_no (s := s) (j := i + 1) (lo := 144) (hi := 191) (by omega) h hj)
  have OX := Lib.hid (fun h => more_ok (s := s) (j := i + 1) (lo := 144) (hi := 191) (by omega) h)
  have NY := Lib.hid (fun h hj => more_no (s := s) (j := i + 2) (lo := 128) (hi := 191) (by omega) h hj)
  have OY := Lib.hid (fun h => more_ok (s := s) (j := i + 2) (lo := 128) (hi := 191) (by omega) h)
  have NZ := Lib.hid (fun h hj => more_no (s := s) (j := i + 3) (lo := 128) (hi := 191) (by omega) h hj)
  have OZ := Lib.hid (fun h => more_ok (s := s) (j := i + 3) (lo := 128) (hi := 191) (by omega) h)
  have CX := Lib.hid (fun W => more_any s (i + 1) ((i : Int) + 1) 144 191 W (by omega) hs)
  have CY := Lib.hid (fun W => more_any s (i + 2) ((i : Int) + 2) 128 191 W (by omega) hs)
  have CZ := Lib.hid (fun W => more_any s (i + 3) ((i : Int) + 3) 128 191 W (by omega) hs)
  generalize moreV s (i + 1) 144 191 = X at *
  generalize moreV s (i + 2) 128 191 = Y at *
  generalize moreV s (i + 3) 128 191 = Z at *
  by_cases hX : X < 0
  · have HQ : Hid (sq (s.toList.drop i) = 0) := by
      by_cases hz : i + 3 < s.size
      · rw [drop_byte s i hi, drop_byte s (i + 1) (by omega), drop_byte s (i + 2) (by omega), drop_byte s (i + 3) (by omega), sq_w4 _ _ _ _ _ H2.out, if_neg]
        · rfl
        · intro hh
          refine NX.out hX (by omega) ?_
          have hh := hh.1
          rw [← HLO.out, ← HHI.out]; omega
      · rw [drop_byte s i hi]
        exact sq_short _ _ (by rw [← drop_byte s i hi, drop_len, H2.out]; omega)
    go_enter Tryz.func162, Tryz.ntmps162
    go_wp2_with fail
    refine (CX.out _).mono ?_
    rintro e w' ⟨rfl, rfl⟩
    go_wp2_with fail
    refine (CY.out _).mono ?_
    rintro e w' ⟨rfl, rfl⟩
    go_wp2_with fail
    refine (CZ.out _).mono ?_
    rintro e w' ⟨rfl, rfl⟩
    go_wp2
    exact bodyPost_ret (v := .agg #[.int .i64 65533, .int .i64 1]) (by simp [results, Tryz.results162, go_sem]) rfl ⟨_, 1, Nx.bad HQ.out, rfl, below_alloc _ _⟩
  by_cases hY : Y < 0
  · have HQ : Hid (sq (s.toList.drop i) = 0) := by
      by_cases hz : i + 3 < s.size
      · rw [drop_byte s i hi, drop_byte s (i + 1) (by omega), drop_byte s (i + 2) (by omega), drop_byte s (i + 3) (by omega), sq_w4 _ _ _ _ _ H2.out, if_neg]
        · rfl
        · intro hh
          refine NY.out hY (by omega) ?_
          have hh := hh.2.1
          omega
      · rw [drop_byte s i hi]
        exact sq_short _ _ (by rw [← drop_byte s i hi, drop_len, H2.out]; omega)
    go_enter Tryz.func162, Tryz.ntmps162
    go_wp2_with fail
    refine (CX.out _).mono ?_
    rintro e w' ⟨rfl, rfl⟩
    go_wp2_with fail
    refine (CY.out _).mono ?_
    rintro e w' ⟨rfl, rfl⟩
    go_wp2_with fail
    refine (CZ.out _).mono ?_
    rintro e w' ⟨rfl, rfl⟩
    go_wp2
    exact bodyPost_ret (v := .agg #[.int .i64 65533, .int .i64 1]) (by simp [results, Tryz.results162, go_sem]) rfl ⟨_, 1, Nx.bad HQ.out, rfl, below_alloc _ _⟩
  by_cases hZ : Z < 0
  · have HQ : Hid (sq (s.toList.drop i) = 0) := by
      by_cases hz : i + 3 < s.size
      · rw [drop_byte s i hi, drop_byte s (i + 1) (by omega), drop_byte s (i + 2) (by omega), drop_byte s (i + 3) (by omega), sq_w4 _ _ _ _ _ H2.out, if_neg]
        · rfl
        · intro hh
          refine NZ.out hZ (by omega) ?_
          have hh := hh.2.2
          omega
      · rw [drop_byte s i hi]
        exact sq_short _ _ (by rw [← drop_byte s i hi, drop_len, H2.out]; omega)
    go_enter Tryz.func162, Tryz.ntmps162
    go_wp2_with fail
    refine (CX.out _).mono ?_
    rintro e w' ⟨rfl, rfl⟩
    go_wp2_with fail
    refine (CY.out _).mono ?_
    rintro e w' ⟨rfl, rfl⟩
    go_wp2_with fail
    refine (CZ.out _).mono ?_
    rintro e w' ⟨rfl, rfl⟩
    go_wp2
    exact bodyPost_ret (v := .agg #[.int .i64 65533, .int .i64 1]) (by simp [results, Tryz.results162, go_sem]) rfl ⟨_, 1, Nx.bad HQ.out, rfl, below_alloc _ _⟩
  obtain ⟨jX, lX, uX, eX⟩ := OX.out (by omega)
  obtain ⟨jY, lY, uY, eY⟩ := OY.out (by omega)
  obtain ⟨jZ, lZ, uZ, eZ⟩ := OZ.out (by omega)
  have HQ : Hid (sq (s.toList.drop i) = 4) := by
    rw [drop_byte s i hi, drop_byte s (i + 1) (by omega), drop_byte s (i + 2) (by omega), drop_byte s (i + 3) (by omega), sq_w4 _ _ _ _ _ H2.out, if_pos]
    · rfl
    · have := HLO.out
      have := HHI.out
      exact ⟨⟨by omega, by omega⟩, ⟨by omega, by omega⟩, by omega, by omega⟩
  have bX : 0 ≤ X ∧ X < 64 := by omega
  have bY : 0 ≤ Y ∧ Y < 64 := by omega
  have bZ : 0 ≤ Z ∧ Z < 64 := by omega
  have hc1 : 128 ≤ ((s[i].toNat : Int) - 240) * 262144 + X * 4096 + Y * 64 + Z := by omega
  have hc2 : ((s[i].toNat : Int) - 240) * 262144 + X * 4096 + Y * 64 + Z < 2097152 := by omega
  have EX := Lib.hid eX
  clear eX lX uX NX OX
  have EY := Lib.hid eY
  clear eY lY uY NY OY
  have EZ := Lib.hid eZ
  clear eZ lZ uZ NZ OZ
  obtain ⟨qX, rX⟩ := bX
  obtain ⟨qY, rY⟩ := bY
  obtain ⟨qZ, rZ⟩ := bZ
  go_enter Tryz.func162, Tryz.ntmps162
  go_wp2_with fail
  refine (CX.out _).mono ?_
  rintro e w' ⟨rfl, rfl⟩
  go_wp2_with fail
  refine (CY.out _).mono ?_
  rintro e w' ⟨rfl, rfl⟩
  go_wp2_with fail
  refine (CZ.out _).mono ?_
  rintro e w' ⟨rfl, rfl⟩
  go_wp2
  exact bodyPost_ret (v := .agg #[.int .i64 (((s[i].toNat : Int) - 240) * 262144 + X * 4096 + Y * 64 + Z), .int .i64 4]) (by simp [results, Tryz.results162, go_sem] <;> omega) rfl ⟨_, 4, .inr (.inr ⟨by rw [HQ.out]; omega, HQ.out.symm, hc1, hc2⟩), rfl, below_alloc _ _⟩
set_option maxHeartbeats 4000000 in
set_option maxRecDepth 100000 in
theorem rfour_b (s : ByteArray) (i : Nat) (w : World) (hs : s.size ≤ 9223372036854775000) (hi : i < s.size) (h2 : wid s[i].toNat = 4) (hb : s[i].toNat = 244) :
    Calls Tryz.prog 162 #[.string s, .int .i64 (i : Int)] w (RPost (s.toList.drop i) w) := by
  have hw := wid_fou h2
  have H2 := Lib.hid h2
  clear h2
  have d1 : ((s[i].toNat : Int) == 240) = false := by rw [hb]; rfl
  have d2 : ((s[i].toNat : Int) == 244) = true := by rw [hb]; rfl
  have hlo : ((loB s[i].toNat : Nat) : Int) = 128 := by subst_vars; rw [hb]; rfl
  have hhi : ((hiB s[i].toNat : Nat) : Int) = 143 := by subst_vars; rw [hb]; rfl
  have HLO := Lib.hid hlo
  have HHI := Lib.hid hhi
  clear hlo hhi
  have NX := Lib.hid (fun h hj => more_no (s := s) (j := i + 1) (lo := 128) (hi := 143) (by omega) h hj)
  have OX := Lib.hid (fun h => more_ok (s := s) (j := i + 1) (lo := 128) (hi := 143) (by omega) h)
  have NY := Lib.hid (fun h hj => more_no (s := s) (j := i + 2) (lo := 128) (hi := 191) (by omega) h hj)
  have OY := Lib.hid (fun h => more_ok (s := s) (j := i + 2) (lo := 128) (hi := 191) (by omega) h)
  have NZ := Lib.hid (fun h hj => more_no (s := s) (j := i + 3) (lo := 128) (hi := 191) (by omega) h hj)
  have OZ := Lib.hid (fun h => more_ok (s := s) (j := i + 3) (lo := 128) (hi := 191) (by omega) h)
  have CX := Lib.hid (fun W => more_any s (i + 1) ((i : Int) + 1) 128 143 W (by omega) hs)
  have CY := Lib.hid (fun W => more_any s (i + 2) ((i : Int) + 2) 128 191 W (by omega) hs)
  have CZ := Lib.hid (fun W => more_any s (i + 3) ((i : Int) + 3) 128 191 W (by omega) hs)
  generalize moreV s (i + 1) 128 143 = X at *
  generalize moreV s (i + 2) 128 191 = Y at *
  generalize moreV s (i + 3) 128 191 = Z at *
  by_cases hX : X < 0
  · have HQ : Hid (sq (s.toList.drop i) = 0) := by
      by_cases hz : i + 3 < s.size
      · rw [drop_byte s i hi, drop_byte s (i + 1) (by omega), drop_byte s (i + 2) (by omega), drop_byte s (i + 3) (by omega), sq_w4 _ _ _ _ _ H2.out, if_neg]
        · rfl
        · intro hh
          refine NX.out hX (by omega) ?_
          have hh := hh.1
          rw [← HLO.out, ← HHI.out]; omega
      · rw [drop_byte s i hi]
        exact sq_short _ _ (by rw [← drop_byte s i hi, drop_len, H2.out]; omega)
    go_enter Tryz.func162, Tryz.ntmps162
    go_wp2_with fail
    refine (CX.out _).mono ?_
    rintro e w' ⟨rfl, rfl⟩
    go_wp2_with fail
    refine (CY.out _).mono ?_
    rintro e w' ⟨rfl, rfl⟩
    go_wp2_with fail
    refine (CZ.out _).mono ?_
    rintro e w' ⟨rfl, rfl⟩
    go_wp2
    exact bodyPost_ret (v := .agg #[.int .i64 65533, .int .i64 1]) (by simp [results, Tryz.results162, go_sem]) rfl ⟨_, 1, Nx.bad HQ.out, rfl, below_alloc _ _⟩
  by_cases hY : Y < 0
  · have HQ : Hid (sq (s.toList.drop i) = 0) := by
      by_cases hz : i + 3 < s.size
      · rw [drop_byte s i hi, drop_byte s (i + 1) (by omega), drop_byte s (i + 2) (by omega), drop_byte s (i + 3) (by omega), sq_w4 _ _ _ _ _ H2.out, if_neg]
        · rfl
        · intro hh
          refine NY.out hY (by omega) ?_
          have hh := hh.2.1
          omega
      · rw [drop_byte s i hi]
        exact sq_short _ _ (by rw [← drop_byte s i hi, drop_len, H2.out]; omega)
    go_enter Tryz.func162, Tryz.ntmps162
    go_wp2_with fail
    refine (CX.out _).mono ?_
    rintro e w' ⟨rfl, rfl⟩
    go_wp2_with fail
    refine (CY.out _).mono ?_
    rintro e w' ⟨rfl, rfl⟩
    go_wp2_with fail
    refine (CZ.out _).mono ?_
    rintro e w' ⟨rfl, rfl⟩
    go_wp2
    exact bodyPost_ret (v := .agg #[.int .i64 65533, .int .i64 1]) (by simp [results, Tryz.results162, go_sem]) rfl ⟨_, 1, Nx.bad HQ.out, rfl, below_alloc _ _⟩
  by_cases hZ : Z < 0
  · have HQ : Hid (sq (s.toList.drop i) = 0) := by
      by_cases hz : i + 3 < s.size
      · rw [drop_byte s i hi, drop_byte s (i + 1) (by omega), drop_byte s (i + 2) (by omega), drop_byte s (i + 3) (by omega), sq_w4 _ _ _ _ _ H2.out, if_neg]
        · rfl
        · intro hh
          refine NZ.out hZ (by omega) ?_
          have hh := hh.2.2
          omega
      · rw [drop_byte s i hi]
        exact sq_short _ _ (by rw [← drop_byte s i hi, drop_len, H2.out]; omega)
    go_enter Tryz.func162, Tryz.ntmps162
    go_wp2_with fail
    refine (CX.out _).mono ?_
    rintro e w' ⟨rfl, rfl⟩
    go_wp2_with fail
    refine (CY.out _).mono ?_
    rintro e w' ⟨rfl, rfl⟩
    go_wp2_with fail
    refine (CZ.out _).mono ?_
    rintro e w' ⟨rfl, rfl⟩
    go_wp2
    exact bodyPost_ret (v := .agg #[.int .i64 65533, .int .i64 1]) (by simp [results, Tryz.results162, go_sem]) rfl ⟨_, 1, Nx.bad HQ.out, rfl, below_alloc _ _⟩
  obtain ⟨jX, lX, uX, eX⟩ := OX.out (by omega)
  obtain ⟨jY, lY, uY, eY⟩ := OY.out (by omega)
  obtain ⟨jZ, lZ, uZ, eZ⟩ := OZ.out (by omega)
  have HQ : Hid (sq (s.toList.drop i) = 4) := by
    rw [drop_byte s i hi, drop_byte s (i + 1) (by omega), drop_byte s (i + 2) (by omega), drop_byte s (i + 3) (by omega), sq_w4 _ _ _ _ _ H2.out, if_pos]
    · rfl
    · have := HLO.out
      have := HHI.out
      exact ⟨⟨by omega, by omega⟩, ⟨by omega, by omega⟩, by omega, by omega⟩
  have bX : 0 ≤ X ∧ X < 64 := by omega
  have bY : 0 ≤ Y ∧ Y < 64 := by omega
  have bZ : 0 ≤ Z ∧ Z < 64 := by omega
  have hc1 : 128 ≤ ((s[i].toNat : Int) - 240) * 262144 + X * 4096 + Y * 64 + Z := by omega
  have hc2 : ((s[i].toNat : Int) - 240) * 262144 + X * 4096 + Y * 64 + Z < 2097152 := by omega
  have EX := Lib.hid eX
  clear eX lX uX NX OX
  have EY := Lib.hid eY
  clear eY lY uY NY OY
  have EZ := Lib.hid eZ
  clear eZ lZ uZ NZ OZ
  obtain ⟨qX, rX⟩ := bX
  obtain ⟨qY, rY⟩ := bY
  obtain ⟨qZ, rZ⟩ := bZ
  go_enter Tryz.func162, Tryz.ntmps162
  go_wp2_with fail
  refine (CX.out _).mono ?_
  rintro e w' ⟨rfl, rfl⟩
  go_wp2_with fail
  refine (CY.out _).mono ?_
  rintro e w' ⟨rfl, rfl⟩
  go_wp2_with fail
  refine (CZ.out _).mono ?_
  rintro e w' ⟨rfl, rfl⟩
  go_wp2
  exact bodyPost_ret (v := .agg #[.int .i64 (((s[i].toNat : Int) - 240) * 262144 + X * 4096 + Y * 64 + Z), .int .i64 4]) (by simp [results, Tryz.results162, go_sem] <;> omega) rfl ⟨_, 4, .inr (.inr ⟨by rw [HQ.out]; omega, HQ.out.symm, hc1, hc2⟩), rfl, below_alloc _ _⟩
set_option maxHeartbeats 4000000 in
set_option maxRecDepth 100000 in
theorem rfour_c (s : ByteArray) (i : Nat) (w : World) (hs : s.size ≤ 9223372036854775000) (hi : i < s.size) (h2 : wid s[i].toNat = 4) (hb : s[i].toNat ≠ 240) (hb2 : s[i].toNat ≠ 244) :
    Calls Tryz.prog 162 #[.string s, .int .i64 (i : Int)] w (RPost (s.toList.drop i) w) := by
  have hw := wid_fou h2
  have H2 := Lib.hid h2
  clear h2
  have d1 : ((s[i].toNat : Int) == 240) = false := beq_eq_false_iff_ne.2 (by omega)
  have d2 : ((s[i].toNat : Int) == 244) = false := beq_eq_false_iff_ne.2 (by omega)
  have hlo : ((loB s[i].toNat : Nat) : Int) = 128 := by unfold loB; rw [if_neg (by omega), if_neg (by omega)]; rfl
  have hhi : ((hiB s[i].toNat : Nat) : Int) = 191 := by unfold hiB; rw [if_neg (by omega), if_neg (by omega)]; rfl
  have HLO := Lib.hid hlo
  have HHI := Lib.hid hhi
  clear hlo hhi
  have NX := Lib.hid (fun h hj => more_no (s := s) (j := i + 1) (lo := 128) (hi := 191) (by omega) h hj)
  have OX := Lib.hid (fun h => more_ok (s := s) (j := i + 1) (lo := 128) (hi := 191) (by omega) h)
  have NY := Lib.hid (fun h hj => more_no (s := s) (j := i + 2) (lo := 128) (hi := 191) (by omega) h hj)
  have OY := Lib.hid (fun h => more_ok (s := s) (j := i + 2) (lo := 128) (hi := 191) (by omega) h)
  have NZ := Lib.hid (fun h hj => more_no (s := s) (j := i + 3) (lo := 128) (hi := 191) (by omega) h hj)
  have OZ := Lib.hid (fun h => more_ok (s := s) (j := i + 3) (lo := 128) (hi := 191) (by omega) h)
  have CX := Lib.hid (fun W => more_any s (i + 1) ((i : Int) + 1) 128 191 W (by omega) hs)
  have CY := Lib.hid (fun W => more_any s (i + 2) ((i : Int) + 2) 128 191 W (by omega) hs)
  have CZ := Lib.hid (fun W => more_any s (i + 3) ((i : Int) + 3) 128 191 W (by omega) hs)
  generalize moreV s (i + 1) 128 191 = X at *
  generalize moreV s (i + 2) 128 191 = Y at *
  generalize moreV s (i + 3) 128 191 = Z at *
  by_cases hX : X < 0
  · have HQ : Hid (sq (s.toList.drop i) = 0) := by
      by_cases hz : i + 3 < s.size
      · rw [drop_byte s i hi, drop_byte s (i + 1) (by omega), drop_byte s (i + 2) (by omega), drop_byte s (i + 3) (by omega), sq_w4 _ _ _ _ _ H2.out, if_neg]
        · rfl
        · intro hh
          refine NX.out hX (by omega) ?_
          have hh := hh.1
          rw [← HLO.out, ← HHI.out]; omega
      · rw [drop_byte s i hi]
        exact sq_short _ _ (by rw [← drop_byte s i hi, drop_len, H2.out]; omega)
    go_enter Tryz.func162, Tryz.ntmps162
    go_wp2_with fail
    refine (CX.out _).mono ?_
    rintro e w' ⟨rfl, rfl⟩
    go_wp2_with fail
    refine (CY.out _).mono ?_
    rintro e w' ⟨rfl, rfl⟩
    go_wp2_with fail
    refine (CZ.out _).mono ?_
    rintro e w' ⟨rfl, rfl⟩
    go_wp2
    exact bodyPost_ret (v := .agg #[.int .i64 65533, .int .i64 1]) (by simp [results, Tryz.results162, go_sem]) rfl ⟨_, 1, Nx.bad HQ.out, rfl, below_alloc _ _⟩
  by_cases hY : Y < 0
  · have HQ : Hid (sq (s.toList.drop i) = 0) := by
      by_cases hz : i + 3 < s.size
      · rw [drop_byte s i hi, drop_byte s (i + 1) (by omega), drop_byte s (i + 2) (by omega), drop_byte s (i + 3) (by omega), sq_w4 _ _ _ _ _ H2.out, if_neg]
        · rfl
        · intro hh
          refine NY.out hY (by omega) ?_
          have hh := hh.2.1
          omega
      · rw [drop_byte s i hi]
        exact sq_short _ _ (by rw [← drop_byte s i hi, drop_len, H2.out]; omega)
    go_enter Tryz.func162, Tryz.ntmps162
    go_wp2_with fail
    refine (CX.out _).mono ?_
    rintro e w' ⟨rfl, rfl⟩
    go_wp2_with fail
    refine (CY.out _).mono ?_
    rintro e w' ⟨rfl, rfl⟩
    go_wp2_with fail
    refine (CZ.out _).mono ?_
    rintro e w' ⟨rfl, rfl⟩
    go_wp2
    exact bodyPost_ret (v := .agg #[.int .i64 65533, .int .i64 1]) (by simp [results, Tryz.results162, go_sem]) rfl ⟨_, 1, Nx.bad HQ.out, rfl, below_alloc _ _⟩
  by_cases hZ : Z < 0
  · have HQ : Hid (sq (s.toList.drop i) = 0) := by
      by_cases hz : i + 3 < s.size
      · rw [drop_byte s i hi, drop_byte s (i + 1) (by omega), drop_byte s (i + 2) (by omega), drop_byte s (i + 3) (by omega), sq_w4 _ _ _ _ _ H2.out, if_neg]
        · rfl
        · intro hh
          refine NZ.out hZ (by omega) ?_
          have hh := hh.2.2
          omega
      · rw [drop_byte s i hi]
        exact sq_short _ _ (by rw [← drop_byte s i hi, drop_len, H2.out]; omega)
    go_enter Tryz.func162, Tryz.ntmps162
    go_wp2_with fail
    refine (CX.out _).mono ?_
    rintro e w' ⟨rfl, rfl⟩
    go_wp2_with fail
    refine (CY.out _).mono ?_
    rintro e w' ⟨rfl, rfl⟩
    go_wp2_with fail
    refine (CZ.out _).mono ?_
    rintro e w' ⟨rfl, rfl⟩
    go_wp2
    exact bodyPost_ret (v := .agg #[.int .i64 65533, .int .i64 1]) (by simp [results, Tryz.results162, go_sem]) rfl ⟨_, 1, Nx.bad HQ.out, rfl, below_alloc _ _⟩
  obtain ⟨jX, lX, uX, eX⟩ := OX.out (by omega)
  obtain ⟨jY, lY, uY, eY⟩ := OY.out (by omega)
  obtain ⟨jZ, lZ, uZ, eZ⟩ := OZ.out (by omega)
  have HQ : Hid (sq (s.toList.drop i) = 4) := by
    rw [drop_byte s i hi, drop_byte s (i + 1) (by omega), drop_byte s (i + 2) (by omega), drop_byte s (i + 3) (by omega), sq_w4 _ _ _ _ _ H2.out, if_pos]
    · rfl
    · have := HLO.out
      have := HHI.out
      exact ⟨⟨by omega, by omega⟩, ⟨by omega, by omega⟩, by omega, by omega⟩
  have bX : 0 ≤ X ∧ X < 64 := by omega
  have bY : 0 ≤ Y ∧ Y < 64 := by omega
  have bZ : 0 ≤ Z ∧ Z < 64 := by omega
  have hc1 : 128 ≤ ((s[i].toNat : Int) - 240) * 262144 + X * 4096 + Y * 64 + Z := by omega
  have hc2 : ((s[i].toNat : Int) - 240) * 262144 + X * 4096 + Y * 64 + Z < 2097152 := by omega
  have EX := Lib.hid eX
  clear eX lX uX NX OX
  have EY := Lib.hid eY
  clear eY lY uY NY OY
  have EZ := Lib.hid eZ
  clear eZ lZ uZ NZ OZ
  obtain ⟨qX, rX⟩ := bX
  obtain ⟨qY, rY⟩ := bY
  obtain ⟨qZ, rZ⟩ := bZ
  go_enter Tryz.func162, Tryz.ntmps162
  go_wp2_with fail
  refine (CX.out _).mono ?_
  rintro e w' ⟨rfl, rfl⟩
  go_wp2_with fail
  refine (CY.out _).mono ?_
  rintro e w' ⟨rfl, rfl⟩
  go_wp2_with fail
  refine (CZ.out _).mono ?_
  rintro e w' ⟨rfl, rfl⟩
  go_wp2
  exact bodyPost_ret (v := .agg #[.int .i64 (((s[i].toNat : Int) - 240) * 262144 + X * 4096 + Y * 64 + Z), .int .i64 4]) (by simp [results, Tryz.results162, go_sem] <;> omega) rfl ⟨_, 4, .inr (.inr ⟨by rw [HQ.out]; omega, HQ.out.symm, hc1, hc2⟩), rfl, below_alloc _ _⟩
theorem three_any (s : ByteArray) (i : Nat) (w : World) (hs : s.size ≤ 9223372036854775000) (hi : i < s.size) (h2 : wid s[i].toNat = 3) :
    Calls Tryz.prog 161 #[.string s, .int .i64 (i : Int)] w (RPost (s.toList.drop i) w) := by
  by_cases h1 : s[i].toNat = 224
  · exact rthree_a s i w hs hi h2 h1
  · by_cases h3 : s[i].toNat = 237
    · exact rthree_b s i w hs hi h2 h3
    · exact rthree_c s i w hs hi h2 h1 h3
theorem four_any (s : ByteArray) (i : Nat) (w : World) (hs : s.size ≤ 9223372036854775000) (hi : i < s.size) (h2 : wid s[i].toNat = 4) :
    Calls Tryz.prog 162 #[.string s, .int .i64 (i : Int)] w (RPost (s.toList.drop i) w) := by
  by_cases h1 : s[i].toNat = 240
  · exact rfour_a s i w hs hi h2 h1
  · by_cases h3 : s[i].toNat = 244
    · exact rfour_b s i w hs hi h2 h3
    · exact rfour_c s i w hs hi h2 h1 h3
end Go.Proofs.YtejjidbodfoiiaaGreatDoor
