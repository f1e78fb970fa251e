/-
  Layer 49 (project): decimal numbers that are read.
-/
import Derived.Test.YtmkenekngaihhaaGreatDoorPjK
import Derived.Laws.RangeAny
namespace Go.Proofs.YtmkenekngaihhaaGreatDoor
open Go.RowKit
set_option linter.unusedVariables false
set_option linter.unusedSimpArgs false
attribute [local go_sem] B_data B_size

theorem numP_bad {s : List UInt8} (h : s = [] ∨ 6 < s.length ∨ (1 < s.length ∧ s.head? = some 48) ∨ s.all digB = false) : numP s = none := by unfold numP; rw [if_pos h]
theorem numP_good {s : List UInt8} (h : ¬ (s = [] ∨ 6 < s.length ∨ (1 < s.length ∧ s.head? = some 48) ∨ s.all digB = false)) : numP s = some (valD 0 s) := by unfold numP; rw [if_neg h]
theorem head_byte (s : ByteArray) (h : 0 < s.size) : s.toList.head? = some s[0] := by
  have := drop_byte s 0 h
  rw [List.drop_zero] at this
  rw [this]; rfl
theorem all_mem {s : ByteArray} {k : Nat} (h : k < s.size) (hd : digB s[k] = false) : s.toList.all digB = false := by
  rw [Bool.eq_false_iff]
  intro ha
  have hm : s[k] ∈ s.toList := by
    refine List.mem_of_mem_take (i := k + 1) ?_
    rw [take_byte s k h]; simp
  have := List.all_eq_true.1 ha _ hm
  rw [hd] at this; cases this
theorem dig_take {s : ByteArray} {k : Nat} (h : k < s.size) (hd : digB s[k] = true) (ha : (s.toList.take k).all digB = true) : (s.toList.take (k + 1)).all digB = true ∧ valD 0 (s.toList.take (k + 1)) = 10 * valD 0 (s.toList.take k) + (s[k].toNat - 48) := by
  rw [take_byte s k h, List.all_append, ha]
  refine ⟨by simp [hd], ?_⟩
  rw [valD_append]; rfl
theorem valD_bound {s : List UInt8} {k : Nat} (ha : (s.take k).all digB = true) (hk : k ≤ 6) : valD 0 (s.take k) ≤ 999999 := by
  have h1 := valD_lt (s.take k) 0 ha
  have h2 : (s.take k).length ≤ 6 := by rw [List.length_take]; omega
  have : (10 : Nat) ^ (s.take k).length ≤ 10 ^ 6 := Nat.pow_le_pow_right (by omega) h2
  omega
theorem digB_iff (c : UInt8) : digB c = (decide (48 ≤ c.toNat) && decide (c.toNat ≤ 57)) := by
  unfold digB
  rw [Bool.eq_iff_iff, Bool.and_eq_true, Bool.and_eq_true, decide_eq_true_eq, decide_eq_true_eq, decide_eq_true_eq, decide_eq_true_eq, UInt8.le_iff_toNat_le, UInt8.le_iff_toNat_le]
  exact Iff.rfl
def NRet (o : Option Nat) : Ending := match o with
  | some n => .returned (.tuple #[.int .i64 (n : Int), .bool true])
  | none => .returned (.tuple #[.int .i64 0, .bool false])
theorem nret_some {o : Option Nat} {n : Nat} (h : Hid (o = some n)) : Ending.returned (.tuple #[.int .i64 (n : Int), .bool true]) = NRet o := by rw [h.out]; rfl
theorem nret_none {o : Option Nat} (h : Hid (o = none)) : Ending.returned (.tuple #[.int .i64 0, .bool false]) = NRet o := by rw [h.out]; rfl
theorem below_iter (w : World) (s : ByteArray) (k : Nat) : Below w.heap.size w (w.iter s k) := below_alloc w _
set_option maxHeartbeats 4000000 in
set_option maxRecDepth 100000 in
theorem number_any (s : ByteArray) (w : World) (hs : s.size ≤ 1000000000) :
    Calls Tryz.prog 87 #[.string s] w fun e w' => e = NRet (numP s.toList) ∧ Below w.heap.size w w' := by
  have hl := len_toList s
  by_cases h0 : s.size = 0
  · have e2 : s.toList = [] := List.eq_nil_of_length_eq_zero (by omega)
    have HX : Hid (numP s.toList = none) := numP_bad (.inl e2)
    clear hl
    go_enter Tryz.func87, Tryz.ntmps87
    go_wp2
    go_ret2
    exact ⟨nret_none HX, Below.refl _ _⟩
  have e1 := isEmpty_of s (by omega)
  have hne : s.toList ≠ [] := by intro e; rw [e] at hl; simp at hl; omega
  have e2 : (s.toList == []) = false := by simpa using hne
  by_cases h6 : 6 < s.size
  · have HX : Hid (numP s.toList = none) := numP_bad (.inr (.inl (by omega)))
    clear hl hne h0
    go_enter Tryz.func87, Tryz.ntmps87
    go_wp2
    go_ret2
    exact ⟨nret_none HX, Below.refl _ _⟩
  have hp : 0 < s.size := by omega
  have h6' : s.size ≤ 6 := by omega
  by_cases hz : 1 < s.size ∧ s[0] = 48
  · have HX : Hid (numP s.toList = none) := numP_bad (.inr (.inr (.inl ⟨by omega, by rw [head_byte s hp, hz.2]⟩)))
    obtain ⟨z1, z2⟩ := hz
    have hb : ((s[0].toNat : Int) == 48) = true := by rw [z2]; rfl
    clear hl hne h0 z2
    go_enter Tryz.func87, Tryz.ntmps87
    go_wp2
    go_ret2
    exact ⟨nret_none HX, Below.refl _ _⟩
  have HG : Hid (s.toList.all digB = true → numP s.toList = some (valD 0 s.toList)) := by
    intro ha
    refine numP_good ?_
    rintro (h | h | ⟨h1, h2⟩ | h)
    · exact hne h
    · omega
    · rw [head_byte s hp] at h2
      injection h2 with h2
      exact hz ⟨by omega, h2⟩
    · rw [ha] at h; cases h
  have HL := Lib.hid hl
  have hzz : (1 < s.size ∧ ((s[0].toNat : Int) == 48) = false) ∨ s.size = 1 := by
    by_cases h1 : s.size = 1
    · exact .inr h1
    · refine .inl ⟨by omega, ?_⟩
      have : s[0].toNat ≠ 48 := fun h => hz ⟨by omega, UInt8.toNat_inj.1 h⟩
      simp; omega
  have h0' : ((s.size : Int) == 0) = false := by simpa using h0
  clear hl hne h0 hz h6
  rcases hzz with ⟨z1, z2⟩ | z1
  all_goals
    go_enter Tryz.func87, Tryz.ntmps87
    go_wp2
    clear z1
    go_loopw [4] (fun n wr => ∃ k : Nat, k ≤ s.size ∧ wr = w.iter s k ∧ n = .int .i64 ((valD 0 (s.toList.take k) : Nat) : Int) ∧ Hid ((s.toList.take k).all digB = true)) (fun _ wr => s.size - wr.iterPos w.heap.size)
    case atStart => exact ⟨0, Nat.zero_le _, rfl, rfl, by simp [Hid]⟩
    case round =>
      obtain ⟨k, hk, rfl, rfl, ha⟩ := hrel
      have hvb := valD_bound (s := s.toList) (k := k) ha.out (by omega)
      by_cases hlt : k < s.size
      · by_cases hd : 48 ≤ s[k].toNat ∧ s[k].toNat ≤ 57
        · have hdb : digB s[k] = true := by rw [digB_iff]; simp [hd]
          obtain ⟨ha2, hv2⟩ := dig_take hlt hdb ha.out
          have HV2 := Lib.hid hv2
          have HA2 := Lib.hid ha2
          obtain ⟨d1, d2⟩ := hd
          have hnx : ∀ ty, (Instr.next (.pointer (some ⟨w.heap.size, 0, none⟩)) true ty).run Tryz.prog (w.iter s k) = _ := fun ty => run_next_ascii w s k ty hlt (by omega)
          generalize valD 0 (s.toList.take k) = n at *
          generalize hx : s[k].toNat = x at *
          clear hdb ha2 hv2 hx
          go_wp2
          go_roundw
          case rel => exact ⟨k + 1, by omega, rfl, by rw [HV2.out]; congr 1; omega, HA2⟩
          case measure => simp; omega
        · have hdb : digB s[k] = false := by
            rw [digB_iff, Bool.eq_false_iff]
            intro h
            simp only [Bool.and_eq_true, decide_eq_true_eq] at h
            exact hd h
          have HX : Hid (numP s.toList = none) := numP_bad (.inr (.inr (.inr (all_mem hlt hdb))))
          have hxd : ∃ c : Nat, c ≤ 2147483647 ∧ (c < 48 ∨ 57 < c) ∧ ∃ k', ∀ ty, (Instr.next (.pointer (some ⟨w.heap.size, 0, none⟩)) true ty).run Tryz.prog (w.iter s k) = .ok (.tuple #[.bool true, .int .i64 k, .int .i32 (c : Int)]) (w.iter s k') := by
            by_cases h128 : s[k].toNat < 128
            · exact ⟨s[k].toNat, by omega, by omega, k + 1, fun ty => run_next_ascii w s k ty hlt h128⟩
            · exact ⟨(Utf8.decode s k).1, decode_le s k, by have := (decode_high s k hlt (by omega)).1; omega, _, fun ty => run_next_any w s k ty hlt⟩
          obtain ⟨c, hc1, hc2, k', hnx⟩ := hxd
          clear hdb hd
          rcases hc2 with hc2 | hc2
          all_goals
            go_wp2
            go_ret2
            exact ⟨nret_none HX, below_iter _ _ _⟩
      · obtain rfl : k = s.size := by omega
        have ht : s.toList.take s.size = s.toList := List.take_of_length_le (by rw [HL.out]; exact Nat.le_refl _)
        have ha' := ha.out
        rw [ht] at ha'
        rw [ht]
        have HX := Lib.hid (HG.out ha')
        clear ha'
        have hnx : ∀ ty, (Instr.next (.pointer (some ⟨w.heap.size, 0, none⟩)) true ty).run Tryz.prog (w.iter s s.size) = _ := fun ty => run_next_end w s s.size ty hlt
        clear ht
        go_wp2
        go_ret2
        exact ⟨nret_some HX, below_iter _ _ _⟩
theorem number_some {s : List UInt8} {n : Nat} (w : World) (hs : s.length ≤ 1000000000) (h : numP s = some n) :
    Calls Tryz.prog 87 #[.string (B s)] w fun e w' => e = .returned (.tuple #[.int .i64 (n : Int), .bool true]) ∧ Below w.heap.size w w' :=
  (number_any (B s) w (by rw [B_size]; exact hs)).mono fun e w' ⟨h1, h2⟩ => ⟨by rw [h1, B_data, h]; rfl, h2⟩
theorem number_none {s : List UInt8} (w : World) (hs : s.length ≤ 1000000000) (h : numP s = none) :
    Calls Tryz.prog 87 #[.string (B s)] w fun e w' => e = .returned (.tuple #[.int .i64 0, .bool false]) ∧ Below w.heap.size w w' :=
  (number_any (B s) w (by rw [B_size]; exact hs)).mono fun e w' ⟨h1, h2⟩ => ⟨by rw [h1, B_data, h]; rfl, h2⟩
theorem num_back {s : List UInt8} (h0 : s ≠ []) (ha : s.all digB = true) : (numS (valD 0 s) = s) ↔ ¬ (1 < s.length ∧ s.head? = some 48) := by
  constructor
  · intro h ⟨h1, h2⟩
    have := (numS_spec (valD 0 s)).2.2.2.1
    rw [h] at this
    exact this h1 h2
  · intro h
    exact numS_valD s h0 ha (fun h1 h2 => h ⟨h1, h2⟩)
def DRet (o : Option Nat) : Int := match o with
  | some n => (n : Int)
  | none => -1
theorem dret_some {o : Option Nat} {n : Nat} (h : Hid (o = some n)) : (n : Int) = DRet o := by rw [h.out]; rfl
theorem dret_none {o : Option Nat} (h : Hid (o = none)) : (-1 : Int) = DRet o := by rw [h.out]; rfl
set_option maxHeartbeats 4000000 in
set_option maxRecDepth 100000 in
theorem decimal_any (s : ByteArray) (w : World) (hs : s.size ≤ 1000000000) :
    Calls Tryz.prog 88 #[.string s] w fun e w' => e = .returned (.int .i64 (DRet (numP s.toList))) ∧ w = w' := by
  have HL := Lib.hid (len_toList s)
  go_enter Tryz.func88, Tryz.ntmps88
  go_wp2
  go_loop [3, 4] (fun n i => ∃ k : Nat, k ≤ s.size ∧ k ≤ 6 ∧ i = .int .i64 k ∧ n = .int .i64 ((valD 0 (s.toList.take k) : Nat) : Int) ∧ Hid ((s.toList.take k).all digB = true)) (fun _ i => s.size - (intOf i).toNat)
  case atStart => exact ⟨0, Nat.zero_le _, by omega, rfl, rfl, by simp [Hid]⟩
  case round =>
    obtain ⟨k, hk, hk6, rfl, rfl, ha⟩ := hrel
    have hvb := valD_bound (s := s.toList) (k := k) ha.out hk6
    by_cases hlt : k < s.size
    · by_cases hd : 48 ≤ s[k].toNat ∧ s[k].toNat ≤ 57
      · have hdb : digB s[k] = true := by rw [digB_iff]; simp [hd]
        obtain ⟨d1, d2⟩ := hd
        by_cases h5 : 5 < k
        · have HX : Hid (numP s.toList = none) := numP_bad (.inr (.inl (by rw [HL.out]; omega)))
          clear hdb
          go_wp2
          go_ret
          exact ⟨ret_int (dret_none HX), rfl⟩
        · obtain ⟨ha2, hv2⟩ := dig_take hlt hdb ha.out
          have HV2 := Lib.hid hv2
          have HA2 := Lib.hid ha2
          generalize valD 0 (s.toList.take k) = n at *
          clear hdb ha2 hv2
          go_wp2
          go_round
          case rel => exact ⟨k + 1, by omega, by omega, by go_num, by rw [HV2.out]; congr 1; omega, HA2⟩
          case measure => simp [intOf]; omega
      · have hdb : digB s[k] = false := by
          rw [digB_iff, Bool.eq_false_iff]
          intro h
          simp only [Bool.and_eq_true, decide_eq_true_eq] at h
          exact hd h
        have HX : Hid (numP s.toList = none) := numP_bad (.inr (.inr (.inr (all_mem hlt hdb))))
        have hc2 : s[k].toNat < 48 ∨ 57 < s[k].toNat := by omega
        clear hdb hd
        rcases hc2 with hc2 | hc2
        all_goals
          go_wp2
          go_ret
          exact ⟨ret_int (dret_none HX), rfl⟩
    · obtain rfl : k = s.size := by omega
      have ht : s.toList.take s.size = s.toList := List.take_of_length_le (by rw [HL.out]; exact Nat.le_refl _)
      have ha' := ha.out
      rw [ht] at ha' hvb
      rw [ht]
      by_cases h0 : s.size = 0
      · have e2 : s.toList = [] := List.eq_nil_of_length_eq_zero (by rw [HL.out]; exact h0)
        have HX : Hid (numP s.toList = none) := numP_bad (.inl e2)
        have e1 := isEmpty_zero s h0
        clear ht ha' hvb e2
        go_wp2
        go_ret
        exact ⟨ret_int (dret_none HX), rfl⟩
      · have e1 := isEmpty_of s (by omega)
        have hne : s.toList ≠ [] := by intro e; have := HL.out; rw [e] at this; simp at this; omega
        have e2 : (s.toList == []) = false := by simpa using hne
        have HB := num_back hne ha'
        have HN := Lib.hid (fun V => rnum_any (valD 0 s.toList) V (by omega))
        by_cases hb : numS (valD 0 s.toList) = s.toList
        · have HX : Hid (numP s.toList = some (valD 0 s.toList)) := numP_good (by
            rintro (h | h | h | h)
            · exact hne h
            · rw [HL.out] at h; omega
            · exact HB.1 hb h
            · rw [ha'] at h; cases h)
          have e3 : (numS (valD 0 s.toList) == s.toList) = true := by simpa using hb
          clear ht ha' HB hb hne h0
          generalize valD 0 s.toList = n at *
          go_wp2_with fail
          refine (HN.out _).mono ?_
          rintro e w1 ⟨rfl, rfl⟩
          go_wp2
          go_ret
          exact ⟨ret_int (dret_some HX), rfl⟩
        · have HX : Hid (numP s.toList = none) := numP_bad (.inr (.inr (.inl (Decidable.byContradiction fun h => hb (HB.2 h)))))
          have e3 : (numS (valD 0 s.toList) == s.toList) = false := by simpa using hb
          clear ht ha' HB hb hne h0
          generalize valD 0 s.toList = n at *
          go_wp2_with fail
          refine (HN.out _).mono ?_
          rintro e w1 ⟨rfl, rfl⟩
          go_wp2
          go_ret
          exact ⟨ret_int (dret_none HX), rfl⟩
end Go.Proofs.YtmkenekngaihhaaGreatDoor
