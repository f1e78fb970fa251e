/-
  Layer 33 (markup): the walk of the law MarkupChecks.
-/
import Derived.Test.YtlhkpkjcecjomaaMkBkW
import Derived.Test.YtlhkpkjcecjomaaMkN
import Derived.Deep.RegionHeld3
namespace Go.Proofs.Ytlhkpkjcecjomaa
open Go.RowKit
set_option linter.unusedVariables false
set_option linter.unusedSimpArgs false
attribute [local go_sem] B_data B_size
attribute [local go_sem ↓] Go.wp_at_zero Go.wp_at_succ

theorem SI.s0 {w W : World} {bx : Nat} {n : Nd} {c : NC} (h : SI w bx n c W) : W.cell? ⟨bx, 0, none⟩ = some (.string (B c.nm)) ∧ W.cell? ⟨bx, 1, none⟩ = some (.string (B c.tx)) ∧ W.cell? ⟨bx, 2, none⟩ = some (.slice c.A c.na c.ca) ∧ W.cell? ⟨bx, 3, none⟩ = some (.slice c.K c.nk c.ck) :=
  ⟨h.x.c0, h.x.c1, h.x.c2, h.x.c3⟩
set_option maxHeartbeats 8000000 in
set_option maxRecDepth 100000 in
theorem markupChecks_walk (w : World) (n : Nd) (c : NC) (hn : NdB w w.heap.size n c) (hok : okN 140737488355328 n) :
    Calls Try.prog 3 #[.agg #[.string (B c.nm), .string (B c.tx), .slice c.A c.na c.ca, .slice c.K c.nk c.ck]] w fun e w' => e = .returned (.bool true) ∧ Below w.heap.size w w' := by
  have hS := SI.new hn
  have x0 := hS.x.c0
  have x1 := hS.x.c1
  have x2 := hS.x.c2
  have x3 := hS.x.c3
  have C := Lib.hid (small_any n c _ hS.n hok)
  clear hn hok
  go_enter Try.func3, Try.ntmps3
  go_wp2_with fail
  refine C.out.mono ?_
  rintro e w1 ⟨rfl, hb1⟩
  have hS1 := hS.step hb1
  clear C hS x0 x1 x2 x3 hb1
  have x0 := hS1.x.c0
  have x1 := hS1.x.c1
  have x2 := hS1.x.c2
  have x3 := hS1.x.c3
  cases hsm : smallB n
  · go_wp2_with fail
    refine (awake_any _).mono ?_
    rintro e w2 ⟨rfl, hb2⟩
    have hb3 := hS1.b.trans (hb2.mono hS1.b.size)
    clear hb2
    go_wp2
    go_ret
    exact ⟨rfl, hb3⟩
  have hsz0 := small_sz hsm
  have hsz : szN n ≤ 1000000000 := by omega
  have hok := ok_of_sz 1000000000 n hsz
  clear hsm hsz0
  obtain ⟨T, hT⟩ : ∃ T, T = (if chk n = 0 then mku n else []) := ⟨_, rfl⟩
  have HT := Lib.hid hT
  clear hT
  have C1 := Lib.hid (text_any n c _ hS1.n hok hsz)
  unfold TPost at C1
  rw [← HT.out] at C1
  go_wp2_with fail
  refine C1.out.mono ?_
  rintro e w2 ⟨rfl, hb2⟩
  have hS2 := hS1.step hb2
  clear C1 hS1 x0 x1 x2 x3 hb2
  have x0 := hS2.x.c0
  have x1 := hS2.x.c1
  have x2 := hS2.x.c2
  have x3 := hS2.x.c3
  have C2 := Lib.hid (rtext_any n c _ hS2.n hok hsz)
  unfold TPost at C2
  rw [← HT.out] at C2
  clear HT
  go_wp2_with fail
  refine C2.out.mono ?_
  rintro e w3 ⟨rfl, hb3⟩
  have hS := hS2.step hb3
  clear C2 hS2 x0 x1 x2 x3 hb3
  have hS4 := hS.step (below_of_drewN w3.heap.size w3 1)
  have hS := hS4
  clear hS4
  have C1 := Lib.hid (fun V h => check_any n c V h hok)
  have C2 := Lib.hid (fun V h => rcheck_any n c V h hok)
  generalize chk n = x at *
  go_wp2
  go_region_held3 (fun w' => w'.cell? ⟨w.heap.size, 0, none⟩ = some (.string (B c.nm)) ∧ w'.cell? ⟨w.heap.size, 1, none⟩ = some (.string (B c.tx)) ∧ w'.cell? ⟨w.heap.size, 2, none⟩ = some (.slice c.A c.na c.ca) ∧ w'.cell? ⟨w.heap.size, 3, none⟩ = some (.slice c.K c.nk c.ck))
    (first | exact hS.s0)
    (first
      | (go_at_call 13; refine (C1.out _ hS.n).mono ?_; rintro e w' ⟨rfl, hb⟩; have hS' := hS.step hb; clear hS hb; have hS := hS'; clear hS')
      | (go_at_call 14; refine (C2.out _ hS.n).mono ?_; rintro e w' ⟨rfl, hb⟩; have hS' := hS.step hb; clear hS hb; have hS := hS'; clear hS')
      | (go_at_call 10; refine (awake_any _).mono ?_; rintro e w' ⟨rfl, hb⟩; have hS' := hS.step hb; clear hS hb; have hS := hS'; clear hS'))
  all_goals
    go_wp2
    go_ret
    exact ⟨rfl, hS.b⟩
end Go.Proofs.Ytlhkpkjcecjomaa
