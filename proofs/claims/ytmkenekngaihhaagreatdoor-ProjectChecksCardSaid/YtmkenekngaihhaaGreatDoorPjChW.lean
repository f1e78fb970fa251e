/-
  Layer 49 (project): the walk of the law ProjectChecks.
-/
import Derived.Test.YtmkenekngaihhaaGreatDoorPjTop
namespace Go.Proofs.YtmkenekngaihhaaGreatDoor
open Go.RowKit
set_option linter.unusedVariables false
set_option linter.unusedSimpArgs false
attribute [local go_sem] B_data B_size

set_option maxHeartbeats 8000000 in
set_option maxRecDepth 100000 in
theorem projectChecks_walk (w : World) (p : Pj) (c : PC) (hp : PjAt w w.heap.size p c) (hm : PjMx p) (hG : GlobL w) :
    Calls Tryz.prog 3 #[.agg #[.string (B p.ti), .string (B p.la), .string (B p.ma), .string (B p.so), .string (B p.st), .slice c.A c.na c.ca, .slice c.F c.nf c.cf, .slice c.T c.nt c.ct]] w fun e w' => e = .returned (.bool true) ∧ Below w.heap.size w w' := by
  have hL := LW.new hp hG
  go_enter Tryz.func3, Tryz.ntmps3
  go_wp2_with fail
  refine (light_any p c _ hm hL.at1).mono ?_
  rintro e w1 ⟨b, rfl, hb1, hli⟩
  have hL1 := hL.step hb1
  clear hL hb1 hm hp
  cases b with
  | false =>
    go_wp2_with fail
    refine (awake_any _ hL1.g).mono ?_
    rintro e w9 ⟨rfl, hb9⟩
    have hb10 := hL1.b.trans (hb9.mono hL1.b.size)
    clear hL1 hb9
    go_wp2
    go_ret
    exact ⟨rfl, hb10⟩
  | true =>
    have hs := (hli rfl).sm
    have HLI := Lib.hid (hli rfl)
    clear hli
    have p0 := hL1.pb.d0
    have p1 := hL1.pb.d1
    have p2 := hL1.pb.d2
    have p3 := hL1.pb.d3
    have p4 := hL1.pb.d4
    have p5 := hL1.pb.c5
    have p6 := hL1.pb.c6
    have p7 := hL1.pb.c7
    go_wp2
    clear p0 p1 p2 p3 p4 p5 p6 p7
    have hD := hL1.drew
    clear hL1
    go_region_held3 (fun w' => w'.cell? ⟨w.heap.size, 0, none⟩ = some (.string (B p.ti)) ∧ w'.cell? ⟨w.heap.size, 1, none⟩ = some (.string (B p.la)) ∧ w'.cell? ⟨w.heap.size, 2, none⟩ = some (.string (B p.ma)) ∧ w'.cell? ⟨w.heap.size, 3, none⟩ = some (.string (B p.so)) ∧ w'.cell? ⟨w.heap.size, 4, none⟩ = some (.string (B p.st)) ∧ w'.cell? ⟨w.heap.size, 5, none⟩ = some (.slice c.A c.na c.ca) ∧ w'.cell? ⟨w.heap.size, 6, none⟩ = some (.slice c.F c.nf c.cf) ∧ w'.cell? ⟨w.heap.size, 7, none⟩ = some (.slice c.T c.nt c.ct))
      (first | (with_reducible exact hD.c8))
      (first
        | (go_at_call 9; refine (check_any p c _ hs hD.at1 hD.g.1).mono ?_; rintro e w' ⟨rfl, hb⟩; have hD' := hD.step hb; clear hD hb; have hD := hD'; clear hD')
        | (go_at_call 10; refine (rcheck_any p c _ hs hD.at1).mono ?_; rintro e w' ⟨rfl, hb⟩; have hD' := hD.step hb; clear hD hb; have hD := hD'; clear hD')
        | (go_at_call 8; refine (awake_any _ hD.g).mono ?_; rintro e w' ⟨rfl, hb⟩; have hD' := hD.step hb; clear hD hb; have hD := hD'; clear hD'))
    all_goals
      have hb10 := hD.b
      clear hD
      go_wp2
      go_ret
      exact ⟨rfl, hb10⟩
end Go.Proofs.YtmkenekngaihhaaGreatDoor
