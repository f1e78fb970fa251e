/-
  Layer 35 (archive): the statements' few.
-/
import Derived.Test.YtofbcblhpflleaaDoorArcX
import Derived.Test.YtofbcblhpflleaaDoorArcQ
namespace Go.Proofs.YtofbcblhpflleaaDoor
open Go.RowKit
set_option linter.unusedVariables false
attribute [local go_sem] B_data B_size

/-- files that are small -/
def Small (f : List UInt8 × List UInt8) : Prop := f.1.length ≤ 300 ∧ f.2.length ≤ 600
def FewPost (w : World) (n : Nat) (fs : List (List UInt8 × List UInt8)) (e : Ending) (w' : World) : Prop := ∃ b, e = .returned (.bool b) ∧ Below w.heap.size w w' ∧ (b = true → n ≤ 140 ∧ ∀ f ∈ fs, Small f)
set_option maxHeartbeats 4000000 in
set_option maxRecDepth 100000 in
theorem few_any (A : Option Addr) (n c : Nat) (fs : List (List UInt8 × List UInt8)) (w : World) (hx : Rd w w.heap.size 2 A n (fls fs)) (hn : n ≤ maxLen) :
    Calls Tryd.prog 12 #[.slice A n c] w fun e w' => FewPost w n fs e w' := by
  have HL := Lib.hid hx.fls_length
  unfold maxLen at *
  by_cases h140 : 140 < n
  · go_enter Tryd.func12, Tryd.ntmps12
    go_wp2
    go_ret
    exact ⟨false, rfl, Below.refl _ _, fun h => by cases h⟩
  · go_enter Tryd.func12, Tryd.ntmps12
    go_wp2
    go_loopw [3, 4] (fun s i wr => ∃ k m : Nat, k ≤ n ∧ i = .int .i64 k ∧ s = .int .i64 m ∧ m ≤ 900 * k ∧ Below w.heap.size w wr ∧ Hid (∀ f ∈ fs.take k, Small f)) (fun _ i _ => n - (intOf i).toNat)
    case atStart => exact ⟨0, 0, Nat.zero_le _, rfl, rfl, Nat.zero_le _, Below.refl _ _, by simp [Hid]⟩
    case round =>
      obtain ⟨k, m, hk, rfl, rfl, hm, hbw, hr⟩ := hrel
      by_cases hlt : k < n
      · obtain ⟨b, o, rfl, hb, h0, h1⟩ := (hx.below hbw).file hlt
        have HT : Hid (fs.take (k + 1) = fs.take k ++ [fs[k]?.getD ([], [])]) := by
          rw [List.take_succ_eq_append_getElem (by rw [HL.out]; exact hlt), List.getElem?_eq_getElem (by rw [HL.out]; exact hlt)]; rfl
        generalize fs[k]?.getD ([], []) = f at *
        by_cases c1 : 300 < f.1.length
        · have i1 : (300 : Int) < (f.1.length : Int) := by omega
          go_wp2
          go_ret
          exact ⟨false, rfl, hbw, fun h => by cases h⟩
        have i1 : ¬ (300 : Int) < (f.1.length : Int) := by omega
        by_cases c2 : 600 < f.2.length
        · have i2 : (600 : Int) < (f.2.length : Int) := by omega
          go_wp2
          go_ret
          exact ⟨false, rfl, hbw, fun h => by cases h⟩
        have i2 : ¬ (600 : Int) < (f.2.length : Int) := by omega
        have HR : Hid (∀ f ∈ fs.take (k + 1), Small f) := by
          rw [HT.out]
          intro g hg
          rcases List.mem_append.1 hg with h | h
          · exact hr.out g h
          · rw [List.mem_singleton.1 h]; exact ⟨by omega, by omega⟩
        clear hr HT
        have j1 : IntKind.i64.wrap ((f.1.length : Int) + (f.2.length : Int)) = (f.1.length : Int) + (f.2.length : Int) := IntWalk.i64_in _ (by omega)
        have j2 : IntKind.i64.wrap ((m : Int) + ((f.1.length : Int) + (f.2.length : Int))) = (m : Int) + ((f.1.length : Int) + (f.2.length : Int)) := IntWalk.i64_in _ (by omega)
        go_wp2
        go_region_held3 (fun w' => w'.cell? ⟨b, o + k * 2, none⟩ = some (.string (B f.1)) ∧ w'.cell? ⟨b, o + k * 2 + 1, none⟩ = some (.string (B f.2))) (first | assumption | exact ⟨h0, h1⟩) (fail)
        go_wp2
        go_roundw
        case rel => exact ⟨k + 1, m + (f.1.length + f.2.length), by omega, by go_num, by go_num, by omega, hbw.drew, HR.out⟩
        case measure => simp [intOf]; omega
      · obtain rfl : k = n := by omega
        have HR : Hid (∀ f ∈ fs, Small f) := by
          have := hr.out
          rw [List.take_of_length_le (by rw [HL.out]; omega)] at this
          exact this
        clear hr
        go_wp2
        go_ret
        exact ⟨_, rfl, hbw, fun _ => ⟨by omega, HR.out⟩⟩
end Go.Proofs.YtofbcblhpflleaaDoor
