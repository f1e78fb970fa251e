/-
  Layer 48 (graph), the reference: New, Get, Runs.
-/
import Derived.Test.YtbikldmhfaecpaaGrRl
namespace Go.Proofs.Ytbikldmhfaecpaa
open Go.RowKit
set_option linter.unusedVariables false
set_option linter.unusedSimpArgs false
attribute [local go_sem] B_data B_size

theorem rnew_any (w : World) : Calls Try.prog 12 #[] w fun e w' => e = .returned (.pointer (some ⟨w.heap.size, 0, none⟩)) ∧ w' = w.alloc (.cells #[.slice none 0 0, .int .i64 0] 53) := by
  go_enter Try.func12, Try.ntmps12
  go_wp2
  go_ret
  exact ⟨rfl, rfl⟩
theorem RG.new {w0 w : World} (hb : Below w0.heap.size w0 w) : RG w.heap.size none 0 [] 0 w0 (w.alloc (.cells #[.slice none 0 0, .int .i64 0] 53)) (fun b => b = w.heap.size) where
  xs := fun b hx => by subst hx; exact ⟨hb.size, by simp⟩
  b := hb.alloc hb.size _
  hd := heap_alloc_new w _
  xr := rfl
  row := World.ownsRow_nil _ _ _ _
  rx := fun b h => by cases h
  dt := fun v hv => by cases hv
theorem rruns_any {rb c N : Nat} {A : Option Addr} {L : List VM} {w0 : World} {X : Nat → Prop} (w : World) (h : RG rb A c L N w0 w X) :
    Calls Try.prog 20 #[.pointer (some ⟨rb, 0, none⟩)] w fun e w' => e = .returned (.int .i64 (N : Int)) ∧ w' = w := by
  have k1 := h.h1
  clear h
  go_enter Try.func20, Try.ntmps20
  go_wp2
  go_ret
  exact ⟨rfl, rfl⟩
open Classical in
/-- what Get answers, and makes of the graph; g: how deep names are -/
noncomputable def getR (g : Nat) (L : List VM) (N : Nat) (n : Nm) : GS × Res := if CycV L n then (absG L N, ([], 10)) else evalR g (absG L N) n
theorem REnd.from {rb c : Nat} {A : Option Addr} {P : List VM → Nat → Prop} {w0 w w1 w' : World} {X : Nat → Prop} (h : REnd rb A c P w0 w1 w' X) (hb : Below w.heap.size w w1) : REnd rb A c P w0 w w' X := by
  obtain ⟨L, N, X', h1, h2, h3, h4⟩ := h
  exact ⟨L, N, X', h1, (KO.of_below hb).trans h2, fun b hx => by
    rcases h3 b hx with h | h
    · exact .inl h
    · exact .inr (Nat.le_trans hb.size h), h4⟩
set_option maxHeartbeats 4000000 in
set_option maxRecDepth 100000 in
theorem rget_any {rb c N : Nat} {A : Option Addr} {L : List VM} {w0 : World} {X : Nat → Prop} (g : Nat) (n : Nm) (w : World) (h : RG rb A c L N w0 w X) (hg : GoodL L) (hok : ¬ CycV L n → OkD (rf (absR L)) g n ∧ (evalR g (absG L N) n).1.runs ≤ 1000000) :
    Calls Try.prog 18 #[.pointer (some ⟨rb, 0, none⟩), .string (B n)] w fun e w' => e = .returned (ResV (getR g L N n).2) ∧ REnd rb A c (fun L' N' => absG L' N' = (getR g L N n).1 ∧ Sh L L' ∧ GoodL L') w0 w w' X := by
  have HC := Lib.hid (rcyclic_any n w h (by have := hg.len; omega) hg.nd)
  by_cases hcy : CycV L n
  · have HR : Hid (getR g L N n = (absG L N, ([], 10))) := Lib.hid (by unfold getR; rw [if_pos hcy])
    have HQ : Hid (∀ W, Below w.heap.size w W → REnd rb A c (fun L' N' => absG L' N' = (getR g L N n).1 ∧ Sh L L' ∧ GoodL L') w0 w W X) := Lib.hid (fun W hW => ⟨L, N, X, h.below hW, KO.of_below hW, fun b hb => .inl hb, by rw [HR.out], Sh.refl L, hg⟩)
    have HRV : Hid (ResV (getR g L N n).2 = .tuple #[.string ⟨#[]⟩, .int .i64 10]) := Lib.hid (by rw [HR.out]; rfl)
    clear hok hg h
    go_enter Try.func18, Try.ntmps18
    go_wp2_with fail
    refine HC.out.mono ?_
    rintro e w1 ⟨b, rfl, hb, hbl⟩
    obtain rfl : b = true := hb.2 hcy
    have HQ1 := Lib.hid (HQ.out w1 hbl)
    clear hb hcy hbl
    go_wp2
    rw [HRV.out]
    go_ret2
    exact ⟨rfl, HQ1.out⟩
  · have HR : Hid (getR g L N n = evalR g (absG L N) n) := Lib.hid (by unfold getR; rw [if_neg hcy])
    obtain ⟨k1, k2⟩ := hok hcy
    have HE := Lib.hid (fun W (hW : Below w.heap.size w W) => reval_any g n rb c N A L w0 W X (h.below hW) hg k1 k2)
    clear hok hg h k1 k2
    rw [HR.out]
    generalize evalR g (absG L N) n = Y at *
    obtain ⟨S1, s, f⟩ := Y
    simp only [ResV] at HE ⊢
    go_enter Try.func18, Try.ntmps18
    go_wp2_with fail
    refine HC.out.mono ?_
    rintro e w1 ⟨b, rfl, hb, hbl⟩
    obtain rfl : b = false := by cases b with
      | false => rfl
      | true => exact absurd (hb.1 rfl) hcy
    have HBL := Lib.hid hbl
    clear hb hcy hbl
    go_wp2_with fail
    refine (HE.out w1 HBL.out).mono ?_
    rintro e w2 ⟨rfl, h2⟩
    have HQ : Hid (REnd rb A c (fun L' N' => absG L' N' = S1 ∧ Sh L L' ∧ GoodL L') w0 w w2 X) := Lib.hid (by
      obtain ⟨L', N', X', a1, a2, a3, a4, a5, a6, _⟩ := h2.from HBL.out
      exact ⟨L', N', X', a1, a2, a3, a4, a5, a6⟩)
    clear h2
    go_wp2
    go_ret2
    exact ⟨rfl, HQ.out⟩
end Go.Proofs.Ytbikldmhfaecpaa
