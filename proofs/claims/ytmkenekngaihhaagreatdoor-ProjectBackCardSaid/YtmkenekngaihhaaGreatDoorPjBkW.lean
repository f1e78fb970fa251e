/-
  Layer 49 (project): the walk of the law ProjectBack.
-/
import Derived.Test.YtmkenekngaihhaaGreatDoorPjTop
namespace Go.Proofs.YtmkenekngaihhaaGreatDoor
open Go.RowKit
set_option linter.unusedVariables false
set_option linter.unusedSimpArgs false
attribute [local go_sem] B_data B_size

set_option maxHeartbeats 8000000 in
set_option maxRecDepth 100000 in
theorem projectBack_walk (w : World) (p : Pj) (c : PC) (hp : PjAt w w.heap.size p c) (hm : PjMx p) (hG : GlobL w) :
    Calls Tryz.prog 4 #[.agg #[.string (B p.ti), .string (B p.la), .string (B p.ma), .string (B p.so), .string (B p.st), .slice c.A c.na c.ca, .slice c.F c.nf c.cf, .slice c.T c.nt c.ct]] w fun e w' => e = .returned (.bool true) ∧ Below w.heap.size w w' := by
  have hL := LW.new hp hG
  go_enter Tryz.func4, Tryz.ntmps4
  go_wp2_with fail
  refine (light_any p c _ hm hL.at1).mono ?_
  rintro e w1 ⟨b, rfl, hb1, hli⟩
  have hL1 := hL.step hb1
  clear hL hb1 hm hp
  cases b with
  | false =>
    go_wp2_with fail
    refine (awake_any _ hL1.g).mono ?_
    rintro e w9 ⟨rfl, hb9⟩
    have hb10 := hL1.b.trans (hb9.mono hL1.b.size)
    clear hL1 hb9
    go_wp2
    go_ret
    exact ⟨rfl, hb10⟩
  | true =>
    have hs := (hli rfl).sm
    have HLI := Lib.hid (hli rfl)
    clear hli
    have p0 := hL1.pb.d0
    have p1 := hL1.pb.d1
    have p2 := hL1.pb.d2
    have p3 := hL1.pb.d3
    have p4 := hL1.pb.d4
    have p5 := hL1.pb.c5
    have p6 := hL1.pb.c6
    have p7 := hL1.pb.c7
    go_wp2_with fail
    refine (text_any p c _ hs hL1.at1 hL1.g).mono ?_
    rintro e w2 ⟨rfl, hb2⟩
    have hL2 := hL1.step hb2
    clear hL1 hb2 p0 p1 p2 p3 p4 p5 p6 p7
    have p0 := hL2.pb.d0
    have p1 := hL2.pb.d1
    have p2 := hL2.pb.d2
    have p3 := hL2.pb.d3
    have p4 := hL2.pb.d4
    have p5 := hL2.pb.c5
    have p6 := hL2.pb.c6
    have p7 := hL2.pb.c7
    go_wp2_with fail
    refine (rtext_any p c _ hs hL2.at1).mono ?_
    rintro e w3 ⟨rfl, hb3⟩
    have hL3 := hL2.step hb3
    clear hL2 hb3 p0 p1 p2 p3 p4 p5 p6 p7
    by_cases h0 : checkE pkG p = 0
    · have HPT := Lib.hid (parse_text h0)
      have HLN := Lib.hid (text_len HLI.out h0)
      have HTX : Hid (txtE p = textP p) := by unfold txtE; rw [h0, if_pos rfl]; rfl
      rw [h0, HTX.out]
      generalize textP p = t at *
      clear h0 HTX
      have hln := HLN.out
      go_wp2_with fail
      refine (parse_any (B t) _ (by rw [B_size]; omega) hL3.g.1).mono ?_
      rintro e w4 ⟨p2, line, err, A, G, H, a, g, h, hpl, rfl, hb4, hv4⟩
      rw [B_data, HPT.out] at hpl
      obtain ⟨rfl, rfl, rfl⟩ : p2 = p ∧ line = 0 ∧ err = 0 := by injection hpl with h1 h2; injection h2 with h2 h3; exact ⟨h1.symm, h2.symm, h3.symm⟩
      have hL4 := hL3.step hb4
      have hE : LW w p2 ⟨A, p2.vs.length, a, G, p2.fs.length, g, H, p2.ts.length, h⟩ w4.heap.size (w4.alloc (.cells #[.string (B p2.ti), .string (B p2.la), .string (B p2.ma), .string (B p2.so), .string (B p2.st), .slice A p2.vs.length a, .slice G p2.fs.length g, .slice H p2.ts.length h] 26)) := by
        have h1 := LW.new (w := w4) (p := p2) (c := ⟨A, p2.vs.length, a, G, p2.fs.length, g, H, p2.ts.length, h⟩) ⟨Rd.of_own hv4.ov, Rd.of_own hv4.of, Rd.of_own hv4.ot⟩ hL4.g
        exact ⟨hL4.b.trans (h1.b.mono hL4.b.size), h1.pb, h1.at1, h1.g⟩
      have hL5 := hL4.alloc (.cells #[.string (B p2.ti), .string (B p2.la), .string (B p2.ma), .string (B p2.so), .string (B p2.st), .slice A p2.vs.length a, .slice G p2.fs.length g, .slice H p2.ts.length h] 26)
      clear hpl hb4 hv4 hL3 hL4 HPT HLN
      have y0 := hL5.pb.d0
      have y1 := hL5.pb.d1
      have y2 := hL5.pb.d2
      have y3 := hL5.pb.d3
      have y4 := hL5.pb.d4
      have y5 := hL5.pb.c5
      have y6 := hL5.pb.c6
      have y7 := hL5.pb.c7
      have z0 := hE.pb.d0
      have z1 := hE.pb.d1
      have z2 := hE.pb.d2
      have z3 := hE.pb.d3
      have z4 := hE.pb.d4
      have z5 := hE.pb.c5
      have z6 := hE.pb.c6
      have z7 := hE.pb.c7
      go_wp2_with fail
      refine (rsame_any p2 p2 _ _ _ hs hs hE.at1 hL5.at1).mono ?_
      rintro e w6 ⟨rfl, hb6⟩
      rw [sameB_refl]
      have hF := hL5.step hb6
      clear y0 y1 y2 y3 y4 y5 y6 y7 z0 z1 z2 z3 z4 z5 z6 z7 hL5 hE hb6
      go_wp2_with fail
      refine (awake_any _ hF.g).mono ?_
      rintro e w9 ⟨rfl, hb9⟩
      have hb10 := hF.b.trans (hb9.mono hF.b.size)
      clear hF hb9
      go_wp2
      go_ret
      exact ⟨rfl, hb10⟩
    · have z1 : (checkE pkG p != 0) = true := by simpa using h0
      generalize checkE pkG p = ce at *
      generalize txtE p = t at *
      clear h0
      go_wp2_with fail
      refine (awake_any _ hL3.g).mono ?_
      rintro e w9 ⟨rfl, hb9⟩
      have hb10 := hL3.b.trans (hb9.mono hL3.b.size)
      clear hL3 hb9
      go_wp2
      go_ret
      exact ⟨rfl, hb10⟩
end Go.Proofs.YtmkenekngaihhaaGreatDoor
