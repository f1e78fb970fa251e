/-
  Layer 35 (archive): the walk of ArchivePuts.
-/
import Derived.Test.YtofbcblhpflleaaDoorArcY
import Derived.Test.YtofbcblhpflleaaDoorArcW
namespace Go.Proofs.YtofbcblhpflleaaDoor
open Go.RowKit
set_option linter.unusedVariables false
attribute [local go_sem] B_data B_size

set_option maxHeartbeats 8000000 in
set_option maxRecDepth 100000 in
theorem archivePuts_walk (w : World) (A : Option Addr) (n c : Nat) (fs : List (List UInt8 × List UInt8)) (hx : Rd w w.heap.size 2 A n (fls fs)) (hc : n ≤ c ∧ c ≤ maxLen) (hG : Glob w) :
    Calls Tryd.prog 4 #[.slice A n c] w fun e w' => e = .returned (.bool true) ∧ Below w.heap.size w w' := by
  have HW := Lib.hid (few_any A n c fs w hx (Nat.le_trans hc.1 hc.2))
  clear hc
  have HP := Lib.hid (fun W hW => put_any A n c fs W hW)
  have HQ := Lib.hid (fun W hW => rput_any A n c fs W hW)
  go_enter Tryd.func4, Tryd.ntmps4
  go_wp2_with fail
  refine HW.out.mono ?_
  rintro e w1 ⟨b, rfl, hb1, hsm0⟩
  clear HW
  have hG1 := hG.below hb1 (Nat.le_refl _)
  cases b with
  | false =>
    clear HP HQ hx
    go_wp2_with fail
    refine (awake_any w1 hG1).mono ?_
    rintro e w2 ⟨rfl, hb2⟩
    go_wp2
    go_ret
    exact ⟨rfl, hb1.trans (hb2.mono hb1.size)⟩
  | true =>
    obtain ⟨h140, hsm⟩ := hsm0 rfl
    clear hsm0
    have hx1 := (hx.below hb1).more hb1.size
    have C := HP.out w1 hx1 (by omega) (fun f hf => ⟨by have := (hsm f hf).1; omega, by have := (hsm f hf).2; omega⟩) hG1
    have HC := Lib.hid C
    have HSM := Lib.hid hsm
    clear HP hsm C
    unfold PutRet at HC HQ
    generalize putS fs = pt at *
    generalize acheck fs = ac at *
    go_wp2_with fail
    refine HC.out.mono ?_
    rintro e w2 ⟨rfl, hb2'⟩
    have hb2 := hb1.trans (hb2'.mono hb1.size)
    have hx2 := (hx1.below hb2').more hb2'.size
    clear HC hb2' hx1 hG1 hb1
    have HC := Lib.hid (HQ.out w2 hx2 h140 HSM.out (fun W hW => rarchive_any A n c fs W hW h140 HSM.out))
    clear HQ HSM
    go_wp2_with fail
    refine HC.out.mono ?_
    rintro e w3 ⟨rfl, hb3'⟩
    have hb3 := hb2.trans (hb3'.mono hb2.size)
    have hG3 := hG.below hb3 (Nat.le_refl _)
    clear HC hb3' hb2
    have d0 : (ac == ac) = true := by simp
    have d1 : (pt == pt) = true := by simp
    go_wp2_with fail
    refine (awake_any w3 hG3).mono ?_
    rintro e w4 ⟨rfl, hb4⟩
    go_wp2
    go_ret
    exact ⟨rfl, hb3.trans (hb4.mono hb3.size)⟩
end Go.Proofs.YtofbcblhpflleaaDoor
