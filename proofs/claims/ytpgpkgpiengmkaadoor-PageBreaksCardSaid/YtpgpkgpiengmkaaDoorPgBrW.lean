/-
  Layer 40 (page): the walk of the law PageBreaks.
-/
import Derived.Test.YtpgpkgpiengmkaaDoorPgAw
import Derived.Test.YtpgpkgpiengmkaaDoorPgS
import Derived.Test.YtpgpkgpiengmkaaDoorPgRn
import Derived.Test.YtpgpkgpiengmkaaDoorPgOnW
namespace Go.Proofs.YtpgpkgpiengmkaaDoor
open Go.RowKit
set_option linter.unusedVariables false
set_option linter.unusedSimpArgs false
attribute [local go_sem] B_data B_size

theorem brk_small {A : Option Addr} {l : List Bx} {H : Int} {n m : Nat} {ps : List Pg} {w : World} (hp : PgAt w w.heap.size A m ps) (hl : l.length = n) (hn : n ≤ 60) (hd : ps.map pgD = (brkP l H).map nat2) : m ≤ 1000000 ∧ ∀ x ∈ ps, x.nb ≤ 1000000 := by
  by_cases hE : brkE l H = 0
  · obtain ⟨hO, _, _⟩ := on_ok (n := n) hl hn hE hd
    have h1 : ps.length ≤ (fl ps).length := by
      have h2 : ∀ p ∈ ps, p.bs ≠ [] := fun p hp => (hO.pg p hp).1
      clear hO hd hp
      induction ps with
      | nil => exact Nat.le_refl _
      | cons a r ih =>
        have h3 := ih (fun p hp => h2 p (List.mem_cons_of_mem _ hp))
        have h4 := List.length_pos_iff.2 (h2 a (List.mem_cons_self ..))
        have e : fl (a :: r) = a.bs ++ fl r := rfl
        rw [e, List.length_append, List.length_cons]; omega
    rw [hO.len, hp.len] at h1
    refine ⟨by omega, fun x hx => ?_⟩
    have h2 : x.bs.Sublist (fl ps) := by unfold fl; rw [List.flatMap_def]; exact List.sublist_flatten_of_mem (List.mem_map.2 ⟨x, hx, rfl⟩)
    have h3 := h2.length_le
    rw [(hp.bs x hx).ints_len, hO.len] at h3; omega
  · have h := congrArg List.length hd
    unfold brkP at h
    rw [if_neg hE] at h
    have h2 := hp.len
    have hm0 : ps.length = 0 := by simpa using h
    have hps : ps = [] := List.eq_nil_of_length_eq_zero hm0
    subst hps
    exact ⟨by omega, fun x hx => by cases hx⟩
set_option maxHeartbeats 8000000 in
set_option maxRecDepth 100000 in
theorem pageBreaks_walk (w : World) (A : Option Addr) (n c : Nat) (l : List Bx) (hx : BxAt w w.heap.size A n l) (hn : n ≤ 140737488355328) (H : Int) (hG : GlobP w) :
    Calls Tryd.prog 3 #[.slice A n c, .int .i64 H] w fun e w' => e = .returned (.bool true) ∧ Below w.heap.size w w' := by
  have HL := Lib.hid hx.len
  go_enter Tryd.func3, Tryd.ntmps3
  go_wp2_with fail
  refine (few_any A n c l w hx hn).mono ?_
  rintro e w1 ⟨b, rfl, hbw, hfw⟩
  cases b with
  | false =>
    clear hfw
    go_wp2_with fail
    refine (awake_any _ (hG.below hbw)).mono ?_
    rintro e w9 ⟨rfl, hb9⟩
    have hb10 := hbw.trans (hb9.mono hbw.size)
    clear hb9 hbw
    go_wp2
    go_ret
    exact ⟨rfl, hb10⟩
  | true =>
    have hF := hfw rfl
    have hn60 : n ≤ 60 := by have := hF.n; rw [hx.len] at this; exact this
    clear hfw
    go_wp2_with fail
    refine (break_any A n c l H _ (hx.step hbw) hF).mono ?_
    rintro e w2 ⟨A1, m, c1, ps, rfl, hp, hd, hb2⟩
    have hx2 := (hx.step hbw).step hb2
    replace hbw := hbw.trans (hb2.mono hbw.size)
    clear hb2
    go_wp2_with fail
    refine (rbreak_any A n c l H _ hx2 hF).mono ?_
    rintro e w3 ⟨A2, m2, c2, qs, rfl, hq, hd2, hb3⟩
    replace hp := hp.step hb3
    replace hbw := hbw.trans (hb3.mono hbw.size)
    obtain ⟨s1, s2⟩ := brk_small hp HL.out hn60 hd
    obtain ⟨s3, s4⟩ := brk_small hq HL.out hn60 hd2
    have HEQ : Hid (decide (ps.map pgD = qs.map pgD) = true) := by rw [hd, hd2]; simp [Hid]
    generalize brkE l H = ce at *
    clear hb3 hd hd2 hF hx2
    go_wp2_with fail
    refine (rsame_any A1 A2 m c1 m2 c2 ps qs w3 hp hq s1 s3 s2).mono ?_
    rintro e w4 ⟨rfl, hb4⟩
    rw [HEQ.out]
    replace hbw := hbw.trans (hb4.mono hbw.size)
    clear hb4 hp hq s1 s2 s3 s4 HEQ
    go_wp2_with fail
    refine (awake_any _ (hG.below hbw)).mono ?_
    rintro e w9 ⟨rfl, hb9⟩
    have hb10 := hbw.trans (hb9.mono hbw.size)
    clear hb9 hbw
    go_wp2
    go_ret
    exact ⟨rfl, hb10⟩
end Go.Proofs.YtpgpkgpiengmkaaDoor
