/-
  Layer 40 (page): the walk of the law PageChecks.
-/
import Derived.Test.YtpgpkgpiengmkaaDoorPgAw
import Derived.Test.YtpgpkgpiengmkaaDoorPgRe
import Derived.Test.YtpgpkgpiengmkaaDoorPgSm
namespace Go.Proofs.YtpgpkgpiengmkaaDoor
open Go.RowKit
set_option linter.unusedVariables false
set_option linter.unusedSimpArgs false
attribute [local go_sem] B_data B_size

set_option maxHeartbeats 8000000 in
set_option maxRecDepth 100000 in
theorem pageChecks_walk (w : World) (A : Option Addr) (n c : Nat) (l : List Bx) (hx : BxAt w w.heap.size A n l) (hn : n ≤ 140737488355328) (E : Option Addr) (m d : Nat) (ps : List Pg) (hp : PgAt w w.heap.size E m ps) (hm : m ≤ 140737488355328) (hpb : ∀ p ∈ ps, p.nb ≤ 140737488355328) (H : Int) (hG : GlobP w) :
    Calls Tryd.prog 5 #[.slice A n c, .slice E m d, .int .i64 H] w fun e w' => e = .returned (.bool true) ∧ Below w.heap.size w w' := by
  have HL := Lib.hid hx.len
  go_enter Tryd.func5, Tryd.ntmps5
  go_wp2_with fail
  refine (few_any A n c l w hx hn).mono ?_
  rintro e w1 ⟨b, rfl, hbw, hfw⟩
  cases b with
  | false =>
    clear hfw
    go_wp2_with fail
    refine (awake_any _ (hG.below hbw)).mono ?_
    rintro e w9 ⟨rfl, hb9⟩
    have hb10 := hbw.trans (hb9.mono hbw.size)
    clear hb9 hbw
    go_wp2
    go_ret
    exact ⟨rfl, hb10⟩
  | true =>
    have hF := hfw rfl
    have hn60 : n ≤ 60 := by have := hF.n; rw [hx.len] at this; exact this
    clear hfw
    go_wp2_with fail
    refine (small_any E m d ps w1 (hp.step hbw) hm).mono ?_
    rintro e w2 ⟨b, rfl, hb2, hsm⟩
    have hx2 := (hx.step hbw).step hb2
    have hp2 := (hp.step hbw).step hb2
    replace hbw := hbw.trans (hb2.mono hbw.size)
    clear hb2
    cases b with
    | false =>
      clear hsm
      go_wp2_with fail
      refine (awake_any _ (hG.below hbw)).mono ?_
      rintro e w9 ⟨rfl, hb9⟩
      have hb10 := hbw.trans (hb9.mono hbw.size)
      clear hb9 hbw
      go_wp2
      go_ret
      exact ⟨rfl, hb10⟩
    | true =>
      have hS := hsm rfl
      have hPB := hS.pgb
      clear hsm
      go_wp2_with fail
      refine (pcheck_any A E n c m d l ps H w2 hx2 hp2 (by omega) hPB).mono ?_
      rintro e w3 ⟨rfl, hb3⟩
      have hx3 := hx2.step hb3
      have hp3 := hp2.step hb3
      replace hbw := hbw.trans (hb3.mono hbw.size)
      clear hb3 hx2 hp2
      go_wp2_with fail
      refine (rcheck_any A E n c m d l ps H w3 hx3 hp3 (by omega) hPB).mono ?_
      rintro e w4 ⟨rfl, hb4⟩
      replace hbw := hbw.trans (hb4.mono hbw.size)
      rw [rck_chk HL.out]
      clear hb4 hx3 hp3 hPB hS hF
      generalize chkS n l H ps = cs at *
      have z1 : (cs == cs) = true := by simp
      go_wp2_with fail
      refine (awake_any _ (hG.below hbw)).mono ?_
      rintro e w9 ⟨rfl, hb9⟩
      have hb10 := hbw.trans (hb9.mono hbw.size)
      clear hb9 hbw
      go_wp2
      go_ret
      exact ⟨rfl, hb10⟩
end Go.Proofs.YtpgpkgpiengmkaaDoor
