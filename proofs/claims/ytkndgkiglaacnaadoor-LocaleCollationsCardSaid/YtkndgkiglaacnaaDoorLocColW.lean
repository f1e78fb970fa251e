/-
  Layer 28 (locale): the walk of the law LocaleCollations, where the collations are known and valid.
-/
import Derived.Test.YtkndgkiglaacnaaDoorLocX
import Derived.Test.YtkndgkiglaacnaaDoorLocR
import Derived.Test.YtkndgkiglaacnaaDoorLocT
import Derived.Deep.RegionHeld3
namespace Go.Proofs.YtkndgkiglaacnaaDoor
open Go.RowKit
set_option linter.unusedVariables false
set_option linter.unusedSimpArgs false
attribute [local go_sem] B_data B_size

set_option maxHeartbeats 8000000 in
set_option maxRecDepth 100000 in
theorem collations_at (l : List UInt8) (L : List (List UInt8)) (P : List (List UInt8 × List UInt8)) (w : World) (hG : GlobL w)
    (C1 : ∀ w, GlobL w → Calls Tryd.prog 22 #[.string (B l)] w fun e w' => CollRet L P e w' ∧ Below w.heap.size w w')
    (C2 : ∀ w, Calls Tryd.prog 24 #[.string (B l)] w fun e w' => CollRet L P e w' ∧ Below w.heap.size w w')
    (hg : goodC L P = true) (hl : L.length ≤ 100) (hp : P.length ≤ 100) (hll : ∀ lf, goodO [] L = some lf → lf.length ≤ 500) :
    Calls Tryd.prog 9 #[.string (B l)] w fun e w' => e = .returned (.bool true) ∧ Below w.heap.size w w' := by
  have HC2 := Lib.hid C2
  have HX := Lib.hid (And.intro hg hll)
  clear C2 hg hll
  go_enter Tryd.func9, Tryd.ntmps9
  go_wp2_with fail
  refine (C1 w hG).mono ?_
  rintro e w1 ⟨⟨A, n, c, A2, n2, c2, rfl, hL, hP⟩, hb1⟩
  have hn : n ≤ 100 := by rw [← hL.strs_length]; exact hl
  have hn2 : n2 ≤ 100 := by rw [← hP.prs_length]; exact hp
  clear C1 hl hp
  go_upto_region 2 with fail
  have hT : Two (w1.alloc (.cells #[.slice A2 n2 c2, .slice A n c, .string ⟨#[]⟩] 42)) w1.heap.size (.slice A2 n2 c2) (.slice A n c) 42 := heap_alloc_new w1 _
  have hB := hb1.alloc hb1.size (.cells #[.slice A2 n2 c2, .slice A n c, .string ⟨#[]⟩] 42)
  have hs : w1.heap.size ≤ (w1.alloc (.cells #[.slice A2 n2 c2, .slice A n c, .string ⟨#[]⟩] 42)).heap.size := by simp
  have hL2 := (hL.below (below_alloc w1 (.cells #[.slice A2 n2 c2, .slice A n c, .string ⟨#[]⟩] 42))).more hs
  have hP2 := (hP.below (below_alloc w1 (.cells #[.slice A2 n2 c2, .slice A n c, .string ⟨#[]⟩] 42))).more hs
  clear hs hb1 hL hP
  generalize (w1.alloc (.cells #[.slice A2 n2 c2, .slice A n c, .string ⟨#[]⟩] 42)) = W at hT hB hL2 hP2 ⊢
  generalize w1.heap.size = q at hT ⊢
  have x0 := hT.cell0
  have x1 := hT.cell1
  have x2 := hT.cell2
  have HT := Lib.hid (fun (W' : World) (hb : Below W.heap.size W W') => (⟨(hT.below hb hT.lt).cell0, (hT.below hb hT.lt).cell1, (hT.below hb hT.lt).cell2⟩ : W'.cell? ⟨q, 0, none⟩ = some (.slice A2 n2 c2) ∧ W'.cell? ⟨q, 1, none⟩ = some (.slice A n c) ∧ W'.cell? ⟨q, 2, none⟩ = some (.string ⟨#[]⟩)))
  have HR := Lib.hid (fun (W' : World) (hb : Below W.heap.size W W') => (⟨(hL2.below hb).more hb.size, (hP2.below hb).more hb.size⟩ : Rd W' W'.heap.size 1 A n (strs L) ∧ Rd W' W'.heap.size 2 A2 n2 (prs P)))
  have HG := Lib.hid (fun (W' : World) (hb : Below W.heap.size W W') => hG.below (hB.trans (hb.mono hB.size)))
  have HB := Lib.hid hB
  have hD := (Below.refl W.heap.size W).drew
  clear hT hL2 hP2 hG hB
  go_region_held3 (fun w' => w'.cell? ⟨q, 0, none⟩ = some (.slice A2 n2 c2) ∧ w'.cell? ⟨q, 1, none⟩ = some (.slice A n c) ∧ w'.cell? ⟨q, 2, none⟩ = some (.string ⟨#[]⟩)) (first | exact HSW | exact ⟨x0, x1, x2⟩)
    (first
      | (go_at_call 24; refine (HC2.out _).mono ?_; rintro e w2 ⟨⟨A', n', c', A2', n2', c2', rfl, hL', hP'⟩, hb2⟩; have hD2 := hD.trans (hb2.mono hD.size); clear hD hb2; have hD := hD2; clear hD2; have HSW := HT.out _ hD)
      | (go_at_call 23; refine (same_ok A A2 A' A2' n c n2 c2 n' c' n2' c2' L P _ (HR.out _ hD).1 (HR.out _ hD).2 hL' hP' (by omega) (by omega)).mono ?_; rintro e w3 ⟨rfl, hb3⟩; have hD2 := hD.trans (hb3.mono hD.size); clear hD hb3; have hD := hD2; clear hD2; have HSW := HT.out _ hD)
      | (go_at_call 25; refine (check_ok A A2 n c n2 c2 L P _ (HR.out _ hD).1 (HR.out _ hD).2 HX.out.1 (by omega) HX.out.2).mono ?_; rintro e w4 ⟨rfl, hb4⟩; have hD2 := hD.trans (hb4.mono hD.size); clear hD hb4; have hD := hD2; clear hD2; have HSW := HT.out _ hD)
      | (go_at_call 12; refine (awake_any _ (HG.out _ hD)).mono ?_; rintro e w5 ⟨rfl, hb5⟩; have hD2 := hD.trans (hb5.mono hD.size); clear hD hb5; have hD := hD2; clear hD2; have HSW := HT.out _ hD))
  go_wp2
  go_ret
  exact ⟨rfl, HB.out.trans (hD.mono HB.out.size)⟩
end Go.Proofs.YtkndgkiglaacnaaDoor
