/-
  Layer 49 (project): what stands behind an equals sign; lines that begin with a name.
-/
import Derived.Test.YtmkenekngaihhaaGreatDoorPjI
namespace Go.Proofs.YtmkenekngaihhaaGreatDoor
open Go.RowKit
set_option linter.unusedVariables false
set_option linter.unusedSimpArgs false
attribute [local go_sem] B_data B_size

theorem valP_zero (s : ByteArray) (h : s.size = 0) : valP s.toList = some [] := by
  rw [List.eq_nil_of_length_eq_zero (l := s.toList) (by rw [len_toList]; exact h)]; rfl
theorem valP_one (s : ByteArray) (h : s.size = 1) : valP s.toList = none := by
  have : s.toList.length = 1 := by rw [len_toList]; exact h
  match hs : s.toList, this with
  | [a], _ => rfl
theorem valP_two (s : ByteArray) (h : 2 ≤ s.size) : valP s.toList = if s[0] = 32 then some (s.toList.drop 1) else none := by
  have h1 := drop_byte s 0 (by omega)
  have h2 := drop_byte s 1 (by omega)
  rw [List.drop_zero] at h1
  rw [h1, h2, valP]
  rfl
theorem nat_32 {c : UInt8} : (c = 32) ↔ c.toNat = 32 := ⟨fun h => by rw [h]; rfl, fun h => UInt8.toNat_inj.1 h⟩
def VRet (o : Option (List UInt8)) : Ending := match o with
  | some v => .returned (.tuple #[.string (B v), .bool true])
  | none => .returned (.tuple #[.string ⟨#[]⟩, .bool false])
theorem vret_some {o : Option (List UInt8)} {v : List UInt8} (h : Hid (o = some v)) : Ending.returned (.tuple #[.string (B v), .bool true]) = VRet o := by rw [h.out]; rfl
theorem vret_none {o : Option (List UInt8)} (h : Hid (o = none)) : Ending.returned (.tuple #[.string ⟨#[]⟩, .bool false]) = VRet o := by rw [h.out]; rfl
set_option maxHeartbeats 1000000 in
theorem value_any (s : ByteArray) (w : World) (hs : s.size ≤ 1000000000) :
    Calls Tryz.prog 62 #[.string s] w fun e w' => e = VRet (valP s.toList) ∧ w = w' := by
  by_cases h0 : s.size = 0
  · have HX := Lib.hid (valP_zero s h0)
    have e1 := isEmpty_zero s h0
    have e2 : s.toList = [] := List.eq_nil_of_length_eq_zero (by rw [len_toList]; exact h0)
    go_enter Tryz.func62, Tryz.ntmps62
    go_wp2
    go_ret2
    exact ⟨vret_some HX, rfl⟩
  have e1 := isEmpty_of s (by omega)
  have e2 : (s.toList == []) = false := by
    rw [beq_eq_false_iff_ne]; intro e; have := len_toList s; rw [e] at this; simp at this; omega
  by_cases h1 : s.size = 1
  · have HX := Lib.hid (valP_one s h1)
    clear h0
    go_enter Tryz.func62, Tryz.ntmps62
    go_wp2
    go_ret2
    exact ⟨vret_none HX, rfl⟩
  have h2' : 2 ≤ s.size := by omega
  have h2 : ¬ s.size < 2 := by omega
  have hp : 0 < s.size := by omega
  clear h0 h1
  have HV := Lib.hid (valP_two s h2')
  by_cases hc : s[0] = 32
  · have HX : Hid (valP s.toList = some (s.toList.drop 1)) := by rw [HV.out, if_pos hc]; rfl
    have hb : ((s[0].toNat : Int) == 32) = true := by rw [hc]; rfl
    have hbn : ((s[0].toNat : Int) != 32) = false := by rw [hc]; rfl
    have HB := Lib.hid (B_drop s 1)
    clear hc
    go_enter Tryz.func62, Tryz.ntmps62
    go_wp2
    go_ret2
    exact ⟨by rw [HB.out]; exact vret_some HX, rfl⟩
  · have HX : Hid (valP s.toList = none) := by rw [HV.out, if_neg hc]; rfl
    have hn : s[0].toNat ≠ 32 := fun h => hc (nat_32.2 h)
    have hb : ((s[0].toNat : Int) == 32) = false := by simp; omega
    have hbn : ((s[0].toNat : Int) != 32) = true := by simp; omega
    clear hc hn
    go_enter Tryz.func62, Tryz.ntmps62
    go_wp2
    go_ret2
    exact ⟨vret_none HX, rfl⟩
theorem value_some {s : ByteArray} {v : List UInt8} (w : World) (hs : s.size ≤ 1000000000) (h : valP s.toList = some v) :
    Calls Tryz.prog 62 #[.string s] w fun e w' => e = .returned (.tuple #[.string (B v), .bool true]) ∧ w = w' :=
  (value_any s w hs).mono fun e w' ⟨h1, h2⟩ => ⟨by rw [h1, h]; rfl, h2⟩
theorem value_none {s : ByteArray} (w : World) (hs : s.size ≤ 1000000000) (h : valP s.toList = none) :
    Calls Tryz.prog 62 #[.string s] w fun e w' => e = .returned (.tuple #[.string ⟨#[]⟩, .bool false]) ∧ w = w' :=
  (value_any s w hs).mono fun e w' ⟨h1, h2⟩ => ⟨by rw [h1, h]; rfl, h2⟩
def ARet (o : Option (List UInt8)) (w : World) (e : Ending) (w' : World) : Prop := (match o with
  | some v => e = .returned (.tuple #[.string (B v), .bool true])
  | none => ∃ x, e = .returned (.tuple #[.string x, .bool false])) ∧ ∃ k, w' = w.drewN k
theorem aret_some {o : Option (List UInt8)} {v : List UInt8} {w w' : World} (h : Hid (o = some v)) (hw : ∃ k, w' = w.drewN k) : ARet o w (.returned (.tuple #[.string (B v), .bool true])) w' := by unfold ARet; rw [h.out]; exact ⟨rfl, hw⟩
theorem aret_none {o : Option (List UInt8)} {x : ByteArray} {w w' : World} (h : Hid (o = none)) (hw : ∃ k, w' = w.drewN k) : ARet o w (.returned (.tuple #[.string x, .bool false])) w' := by unfold ARet; rw [h.out]; exact ⟨⟨x, rfl⟩, hw⟩
set_option maxHeartbeats 1000000 in
theorem after_any (s : ByteArray) (w : World) (hs : s.size ≤ 1000000000) :
    Calls Tryz.prog 41 #[.string s] w (ARet (valP s.toList) w) := by
  by_cases h0 : s.size = 0
  · have HX := Lib.hid (valP_zero s h0)
    have e1 := isEmpty_zero s h0
    have e2 : s.toList = [] := List.eq_nil_of_length_eq_zero (by rw [len_toList]; exact h0)
    go_enter Tryz.func41, Tryz.ntmps41
    go_wp2
    go_ret2
    exact aret_some HX ⟨0, rfl⟩
  have e1 := isEmpty_of s (by omega)
  have e2 : (s.toList == []) = false := by
    rw [beq_eq_false_iff_ne]; intro e; have := len_toList s; rw [e] at this; simp at this; omega
  have hp : 0 < s.size := by omega
  have hp1 : (0 : Int) < (s.size : Int) := by omega
  have hp2 : (1 : Int) ≤ (s.size : Int) := by omega
  clear h0
  by_cases hc : s[0] = 32
  · have hb : ((s[0].toNat : Int) == 32) = true := by rw [hc]; rfl
    by_cases h2 : 2 ≤ s.size
    · have HX : Hid (valP s.toList = some (s.toList.drop 1)) := by rw [valP_two s h2, if_pos hc]; rfl
      have HB := Lib.hid (B_drop s 1)
      have h3 : decide ((1 : Int) < (s.size : Int)) = true := by simp; omega
      clear hc
      go_enter Tryz.func41, Tryz.ntmps41
      go_wp2
      go_quiet (fail)
      go_wp2
      go_ret2
      rw [HB.out]
      exact aret_some HX ⟨_, rfl⟩
    · have HX : Hid (valP s.toList = none) := valP_one s (by omega)
      have h3 : decide ((1 : Int) < (s.size : Int)) = false := by simp; omega
      clear hc h2
      go_enter Tryz.func41, Tryz.ntmps41
      go_wp2
      go_quiet (fail)
      go_wp2
      go_ret2
      exact aret_none HX ⟨_, rfl⟩
  · have HX : Hid (valP s.toList = none) := by
      by_cases h2 : 2 ≤ s.size
      · rw [valP_two s h2, if_neg hc]; rfl
      · exact valP_one s (by omega)
    have hn : s[0].toNat ≠ 32 := fun h => hc (nat_32.2 h)
    have hb : ((s[0].toNat : Int) == 32) = false := by simp; omega
    clear hc hn
    go_enter Tryz.func41, Tryz.ntmps41
    go_wp2
    go_quiet (fail)
    go_wp2
    go_ret2
    exact aret_none HX ⟨_, rfl⟩
end Go.Proofs.YtmkenekngaihhaaGreatDoor
