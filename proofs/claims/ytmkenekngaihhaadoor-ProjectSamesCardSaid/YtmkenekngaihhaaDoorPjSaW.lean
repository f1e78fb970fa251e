/-
  Layer 49 (project): the walk of the law ProjectSames.
-/
import Derived.Test.YtmkenekngaihhaaDoorPjTop
namespace Go.Proofs.YtmkenekngaihhaaDoor
open Go.RowKit
set_option linter.unusedVariables false
set_option linter.unusedSimpArgs false
attribute [local go_sem] B_data B_size

theorem psame_self (p : Pj) (c : PC) (w : World) (hs : PjSm p) (hp : PjAt w w.heap.size p c) :
    Calls Tryd.prog 10 #[.agg #[.string (B p.ti), .string (B p.la), .string (B p.ma), .string (B p.so), .string (B p.st), .slice c.A c.na c.ca, .slice c.F c.nf c.cf, .slice c.T c.nt c.ct], .agg #[.string (B p.ti), .string (B p.la), .string (B p.ma), .string (B p.so), .string (B p.st), .slice c.A c.na c.ca, .slice c.F c.nf c.cf, .slice c.T c.nt c.ct]] w (EqPost true w) := by
  have h := psame_any p p c c w hs hs hp hp
  rwa [sameB_refl] at h
set_option maxHeartbeats 8000000 in
set_option maxRecDepth 100000 in
theorem projectSames_walk (w : World) (p : Pj) (c : PC) (hp : PjAt w w.heap.size p c) (hm : PjMx p) (q : Pj) (d : PC) (hq : PjAt w w.heap.size q d) (hn : PjMx q) (hG : GlobL w) :
    Calls Tryd.prog 4 #[.agg #[.string (B p.ti), .string (B p.la), .string (B p.ma), .string (B p.so), .string (B p.st), .slice c.A c.na c.ca, .slice c.F c.nf c.cf, .slice c.T c.nt c.ct], .agg #[.string (B q.ti), .string (B q.la), .string (B q.ma), .string (B q.so), .string (B q.st), .slice d.A d.na d.ca, .slice d.F d.nf d.cf, .slice d.T d.nt d.ct]] w fun e w' => e = .returned (.bool true) ∧ Below w.heap.size w w' := by
  have hL0 := LW.new hp hG
  have hL := hL0.alloc (.cells #[.string (B q.ti), .string (B q.la), .string (B q.ma), .string (B q.so), .string (B q.st), .slice d.A d.na d.ca, .slice d.F d.nf d.cf, .slice d.T d.nt d.ct] 27)
  have hE : LW w q d (w.heap.size + 1) ((w.alloc (.cells #[.string (B p.ti), .string (B p.la), .string (B p.ma), .string (B p.so), .string (B p.st), .slice c.A c.na c.ca, .slice c.F c.nf c.cf, .slice c.T c.nt c.ct] 27)).alloc (.cells #[.string (B q.ti), .string (B q.la), .string (B q.ma), .string (B q.so), .string (B q.st), .slice d.A d.na d.ca, .slice d.F d.nf d.cf, .slice d.T d.nt d.ct] 27)) := by
    have h1 := LW.new (w := w.alloc (.cells #[.string (B p.ti), .string (B p.la), .string (B p.ma), .string (B p.so), .string (B p.st), .slice c.A c.na c.ca, .slice c.F c.nf c.cf, .slice c.T c.nt c.ct] 27)) (hq.step hL0.b) hL0.g
    have e : (w.alloc (.cells #[.string (B p.ti), .string (B p.la), .string (B p.ma), .string (B p.so), .string (B p.st), .slice c.A c.na c.ca, .slice c.F c.nf c.cf, .slice c.T c.nt c.ct] 27)).heap.size = w.heap.size + 1 := by simp
    rw [e] at h1
    exact ⟨hL.b, h1.pb, h1.at1, h1.g⟩
  clear hL0 hp hq
  go_enter Tryd.func4, Tryd.ntmps4
  go_wp2_with fail
  refine (light_any p c _ hm hL.at1).mono ?_
  rintro e w1 ⟨b, rfl, hb1, hli⟩
  replace hL := hL.step hb1
  replace hE := hE.step hb1
  clear hb1 hm
  cases b with
  | false =>
    clear hE
    go_wp2_with fail
    refine (awake_any _ hL.g).mono ?_
    rintro e w9 ⟨rfl, hb9⟩
    have hb10 := hL.b.trans (hb9.mono hL.b.size)
    clear hL hb9
    go_wp2
    go_ret
    exact ⟨rfl, hb10⟩
  | true =>
    have hs := (hli rfl).sm
    clear hli
    have p0 := hE.pb.d0
    have p1 := hE.pb.d1
    have p2 := hE.pb.d2
    have p3 := hE.pb.d3
    have p4 := hE.pb.d4
    have p5 := hE.pb.c5
    have p6 := hE.pb.c6
    have p7 := hE.pb.c7
    go_wp2_with fail
    refine (light_any q d _ hn hE.at1).mono ?_
    rintro e w2 ⟨b, rfl, hb2, hli⟩
    replace hL := hL.step hb2
    replace hE := hE.step hb2
    clear hb2 hn p0 p1 p2 p3 p4 p5 p6 p7
    cases b with
    | false =>
      clear hE
      go_wp2_with fail
      refine (awake_any _ hL.g).mono ?_
      rintro e w9 ⟨rfl, hb9⟩
      have hb10 := hL.b.trans (hb9.mono hL.b.size)
      clear hL hb9
      go_wp2
      go_ret
      exact ⟨rfl, hb10⟩
    | true =>
      have ht := (hli rfl).sm
      clear hli
      have p0 := hL.pb.d0
      have p1 := hL.pb.d1
      have p2 := hL.pb.d2
      have p3 := hL.pb.d3
      have p4 := hL.pb.d4
      have p5 := hL.pb.c5
      have p6 := hL.pb.c6
      have p7 := hL.pb.c7
      have z0 := hE.pb.d0
      have z1 := hE.pb.d1
      have z2 := hE.pb.d2
      have z3 := hE.pb.d3
      have z4 := hE.pb.d4
      have z5 := hE.pb.c5
      have z6 := hE.pb.c6
      have z7 := hE.pb.c7
      go_wp2
      clear p0 p1 p2 p3 p4 p5 p6 p7 z0 z1 z2 z3 z4 z5 z6 z7
      have hD := hL.drew
      have hF := hE.drew
      clear hL hE
      generalize hsb : sameB p q = sb
      go_region_held3 (fun w' => (w'.cell? ⟨w.heap.size, 0, none⟩ = some (.string (B p.ti)) ∧ w'.cell? ⟨w.heap.size, 1, none⟩ = some (.string (B p.la)) ∧ w'.cell? ⟨w.heap.size, 2, none⟩ = some (.string (B p.ma)) ∧ w'.cell? ⟨w.heap.size, 3, none⟩ = some (.string (B p.so)) ∧ w'.cell? ⟨w.heap.size, 4, none⟩ = some (.string (B p.st)) ∧ w'.cell? ⟨w.heap.size, 5, none⟩ = some (.slice c.A c.na c.ca) ∧ w'.cell? ⟨w.heap.size, 6, none⟩ = some (.slice c.F c.nf c.cf) ∧ w'.cell? ⟨w.heap.size, 7, none⟩ = some (.slice c.T c.nt c.ct)) ∧ (w'.cell? ⟨(w.heap.size + 1), 0, none⟩ = some (.string (B q.ti)) ∧ w'.cell? ⟨(w.heap.size + 1), 1, none⟩ = some (.string (B q.la)) ∧ w'.cell? ⟨(w.heap.size + 1), 2, none⟩ = some (.string (B q.ma)) ∧ w'.cell? ⟨(w.heap.size + 1), 3, none⟩ = some (.string (B q.so)) ∧ w'.cell? ⟨(w.heap.size + 1), 4, none⟩ = some (.string (B q.st)) ∧ w'.cell? ⟨(w.heap.size + 1), 5, none⟩ = some (.slice d.A d.na d.ca) ∧ w'.cell? ⟨(w.heap.size + 1), 6, none⟩ = some (.slice d.F d.nf d.cf) ∧ w'.cell? ⟨(w.heap.size + 1), 7, none⟩ = some (.slice d.T d.nt d.ct)))
        (first | (with_reducible exact ⟨hD.c8, hF.c8⟩))
        (first
          | (go_at_call_of 10 (B q.ti); refine (psame_any p q c d _ hs ht hD.at1 hF.at1).mono ?_; rintro e w' ⟨rfl, hb⟩; rw [hsb]; have hD' := hD.step hb; have hF' := hF.step hb; clear hD hF hb; have hD := hD'; have hF := hF'; clear hD' hF')
          | (go_at_call 10; refine (psame_self p c _ hs hD.at1).mono ?_; rintro e w' ⟨rfl, hb⟩; have hD' := hD.step hb; have hF' := hF.step hb; clear hD hF hb; have hD := hD'; have hF := hF'; clear hD' hF')
          | (go_at_call 7; refine (rsame_any p q c d _ hs ht hD.at1 hF.at1).mono ?_; rintro e w' ⟨rfl, hb⟩; rw [hsb]; have hD' := hD.step hb; have hF' := hF.step hb; clear hD hF hb; have hD := hD'; have hF := hF'; clear hD' hF')
          | (go_at_call 5; refine (awake_any _ hD.g).mono ?_; rintro e w' ⟨rfl, hb⟩; have hD' := hD.step hb; have hF' := hF.step hb; clear hD hF hb; have hD := hD'; have hF := hF'; clear hD' hF'))
      all_goals
        have hb10 := hD.b
        clear hD hF
        go_wp2
        go_ret
        exact ⟨rfl, hb10⟩
end Go.Proofs.YtmkenekngaihhaaDoor
