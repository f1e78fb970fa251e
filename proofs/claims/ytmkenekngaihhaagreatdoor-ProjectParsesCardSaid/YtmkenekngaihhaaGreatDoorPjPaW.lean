/-
  Layer 49 (project): the walk of the law ProjectParses.
-/
import Derived.Test.YtmkenekngaihhaaGreatDoorPjTop
namespace Go.Proofs.YtmkenekngaihhaaGreatDoor
open Go.RowKit
set_option linter.unusedVariables false
set_option linter.unusedSimpArgs false
attribute [local go_sem] B_data B_size

set_option maxHeartbeats 8000000 in
set_option maxRecDepth 100000 in
theorem projectParses_walk (w : World) (s : ByteArray) (hs : s.size ≤ maxLen) (hG : GlobL w) :
    Calls Tryz.prog 5 #[.string s] w fun e w' => e = .returned (.bool true) ∧ Below w.heap.size w w' := by
  by_cases hlt : 1200 < s.size
  · have i1 : (1200 : Int) < (s.size : Int) := by omega
    go_enter Tryz.func5, Tryz.ntmps5
    go_wp2_with fail
    refine (awake_any _ hG).mono ?_
    rintro e w9 ⟨rfl, hb9⟩
    go_wp2
    go_ret
    exact ⟨rfl, hb9⟩
  have i1 : ¬ (1200 : Int) < (s.size : Int) := by omega
  go_enter Tryz.func5, Tryz.ntmps5
  go_wp2_with fail
  refine (parse_any s _ (by omega) hG.1).mono ?_
  rintro e w1 ⟨p, line, err, A, G, H, a, g, h, hpl, rfl, hb1, hv1⟩
  have hG1 := hG.below hb1
  have hD : LW w p ⟨A, p.vs.length, a, G, p.fs.length, g, H, p.ts.length, h⟩ w1.heap.size (w1.alloc (.cells #[.string (B p.ti), .string (B p.la), .string (B p.ma), .string (B p.so), .string (B p.st), .slice A p.vs.length a, .slice G p.fs.length g, .slice H p.ts.length h] 26)) := by
    have h1 := LW.new (w := w1) (p := p) (c := ⟨A, p.vs.length, a, G, p.fs.length, g, H, p.ts.length, h⟩) ⟨Rd.of_own hv1.ov, Rd.of_own hv1.of, Rd.of_own hv1.ot⟩ hG1
    exact ⟨hb1.trans (h1.b.mono hb1.size), h1.pb, h1.at1, h1.g⟩
  have HPL := Lib.hid hpl
  clear hpl hb1 hv1 hG1
  go_wp2_with fail
  refine (rparse_any s _ (by omega)).mono ?_
  rintro e w2 ⟨p2, line2, err2, A2, G2, H2, a2, g2, h2, hpl2, rfl, hb2, hv2⟩
  obtain ⟨rfl, rfl, rfl⟩ : p2 = p ∧ line2 = line ∧ err2 = err := by
    have hpl := HPL.out
    rw [hpl] at hpl2
    injection hpl2 with h1 h2
    injection h2 with h2 h3
    exact ⟨h1.symm, h2.symm, h3.symm⟩
  have hD2 := hD.step hb2
  have hE : LW w p2 ⟨A2, p2.vs.length, a2, G2, p2.fs.length, g2, H2, p2.ts.length, h2⟩ w2.heap.size (w2.alloc (.cells #[.string (B p2.ti), .string (B p2.la), .string (B p2.ma), .string (B p2.so), .string (B p2.st), .slice A2 p2.vs.length a2, .slice G2 p2.fs.length g2, .slice H2 p2.ts.length h2] 26)) := by
    have h1 := LW.new (w := w2) (p := p2) (c := ⟨A2, p2.vs.length, a2, G2, p2.fs.length, g2, H2, p2.ts.length, h2⟩) ⟨Rd.of_own hv2.ov, Rd.of_own hv2.of, Rd.of_own hv2.ot⟩ hD2.g
    exact ⟨hD2.b.trans (h1.b.mono hD2.b.size), h1.pb, h1.at1, h1.g⟩
  have hD3 := hD2.alloc (.cells #[.string (B p2.ti), .string (B p2.la), .string (B p2.ma), .string (B p2.so), .string (B p2.st), .slice A2 p2.vs.length a2, .slice G2 p2.fs.length g2, .slice H2 p2.ts.length h2] 26)
  have hsm : PjSm p2 := parse_sm HPL.out (by omega)
  clear hpl2 hb2 hv2 hD hD2
  have y0 := hD3.pb.d0
  have y1 := hD3.pb.d1
  have y2 := hD3.pb.d2
  have y3 := hD3.pb.d3
  have y4 := hD3.pb.d4
  have y5 := hD3.pb.c5
  have y6 := hD3.pb.c6
  have y7 := hD3.pb.c7
  have z0 := hE.pb.d0
  have z1 := hE.pb.d1
  have z2 := hE.pb.d2
  have z3 := hE.pb.d3
  have z4 := hE.pb.d4
  have z5 := hE.pb.c5
  have z6 := hE.pb.c6
  have z7 := hE.pb.c7
  go_wp2_with fail
  refine (rsame_any p2 p2 _ _ _ hsm hsm hD3.at1 hE.at1).mono ?_
  rintro e w3 ⟨rfl, hb3⟩
  rw [sameB_refl]
  have hF := hD3.step hb3
  clear y0 y1 y2 y3 y4 y5 y6 y7 z0 z1 z2 z3 z4 z5 z6 z7 hD3 hE hb3
  go_wp2_with fail
  refine (awake_any _ hF.g).mono ?_
  rintro e w9 ⟨rfl, hb9⟩
  have hb10 := hF.b.trans (hb9.mono hF.b.size)
  clear hF hb9
  go_wp2
  go_ret
  exact ⟨rfl, hb10⟩
end Go.Proofs.YtmkenekngaihhaaGreatDoor
