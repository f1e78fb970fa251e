/-
  Layer 40 (page): the walk of the law PagePlaces.
-/
import Derived.Test.YtpgpkgpiengmkaaDoorPgAw
import Derived.Test.YtpgpkgpiengmkaaDoorPgNa
import Derived.Test.YtpgpkgpiengmkaaDoorPgSm
namespace Go.Proofs.YtpgpkgpiengmkaaDoor
open Go.RowKit
set_option linter.unusedVariables false
set_option linter.unusedSimpArgs false
attribute [local go_sem] B_data B_size

theorem plA_len (v : List UInt8) : ∀ (xs : List (List UInt8)) (L : List KV), (plA v L xs).length ≤ L.length + xs.length := by
  intro xs
  induction xs with
  | nil => intro L; exact Nat.le_refl _
  | cons a r ih =>
    intro L
    have h1 := ih (withP L a v)
    have h2 := with_len L a v
    rw [plA, List.length_cons]; omega
theorem anc_len {l : List Bx} (hf : ∀ b ∈ l, FewB b) (x : Int) : (ancOf l x).length ≤ 6 := by
  unfold ancOf
  split
  · cases h : l[x.toNat]? with
    | none => simp
    | some b => exact (hf b (List.mem_of_getElem? h)).1
  · simp
theorem plB_len {l : List Bx} (hf : ∀ b ∈ l, FewB b) (v : List UInt8) : ∀ (bs : List Int) (L : List KV), (plB l v L bs).length ≤ L.length + bs.length * 6 := by
  intro bs
  induction bs with
  | nil => intro L; exact Nat.le_refl _
  | cons a r ih =>
    intro L
    have h1 := ih (plA v L (ancOf l a))
    have h2 := plA_len v (ancOf l a) L
    have h3 := anc_len hf a
    rw [plB, List.length_cons]; omega
theorem plP_len {l : List Bx} (hf : ∀ b ∈ l, FewB b) : ∀ (ps : List Pg) (k : Nat) (L : List KV), (∀ p ∈ ps, p.bs.length ≤ 1000) → (plP l k L ps).length ≤ L.length + ps.length * 6000 := by
  intro ps
  induction ps with
  | nil => intro k L _; exact Nat.le_refl _
  | cons p r ih =>
    intro k L h
    have h1 := ih (k + 1) (plB l (Lib.decDigits (k + 1)) L p.bs) (fun q hq => h q (List.mem_cons_of_mem _ hq))
    have h2 := plB_len hf (Lib.decDigits (k + 1)) p.bs L
    have h3 := h p (List.mem_cons_self ..)
    rw [plP, List.length_cons]; omega
set_option maxHeartbeats 8000000 in
set_option maxRecDepth 100000 in
theorem pagePlaces_walk (w : World) (A : Option Addr) (n c : Nat) (l : List Bx) (hx : BxAt w w.heap.size A n l) (hn : n ≤ 140737488355328) (E : Option Addr) (m d : Nat) (ps : List Pg) (hp : PgAt w w.heap.size E m ps) (hm : m ≤ 140737488355328) (hpb : ∀ p ∈ ps, p.nb ≤ 140737488355328) (hG : GlobP w) :
    Calls Tryd.prog 6 #[.slice A n c, .slice E m d] w fun e w' => e = .returned (.bool true) ∧ Below w.heap.size w w' := by
  have HL := Lib.hid hx.len
  have HM := Lib.hid hp.len
  go_enter Tryd.func6, Tryd.ntmps6
  go_wp2_with fail
  refine (few_any A n c l w hx hn).mono ?_
  rintro e w1 ⟨b, rfl, hbw, hfw⟩
  cases b with
  | false =>
    clear hfw
    go_wp2_with fail
    refine (awake_any _ (hG.below hbw)).mono ?_
    rintro e w9 ⟨rfl, hb9⟩
    have hb10 := hbw.trans (hb9.mono hbw.size)
    clear hb9 hbw
    go_wp2
    go_ret
    exact ⟨rfl, hb10⟩
  | true =>
    have hF := hfw rfl
    have hn60 : n ≤ 60 := by have := hF.n; rw [hx.len] at this; exact this
    clear hfw
    go_wp2_with fail
    refine (small_any E m d ps w1 (hp.step hbw) hm).mono ?_
    rintro e w2 ⟨b, rfl, hb2, hsm⟩
    have hx2 := (hx.step hbw).step hb2
    have hp2 := (hp.step hbw).step hb2
    replace hbw := hbw.trans (hb2.mono hbw.size)
    clear hb2
    cases b with
    | false =>
      clear hsm
      go_wp2_with fail
      refine (awake_any _ (hG.below hbw)).mono ?_
      rintro e w9 ⟨rfl, hb9⟩
      have hb10 := hbw.trans (hb9.mono hbw.size)
      clear hb9 hbw
      go_wp2
      go_ret
      exact ⟨rfl, hb10⟩
    | true =>
      have hS := hsm rfl
      have hPB := hS.pgb
      clear hsm
      go_wp2_with fail
      refine (places_any A E n c m d l ps w2 hx2 hp2 (by omega) hPB hF.b (hG.below hbw)).mono ?_
      rintro e w3 ⟨A1, m1, c1, rfl, hr1, hb3⟩
      have hx3 := hx2.step hb3
      have hp3 := hp2.step hb3
      replace hbw := hbw.trans (hb3.mono hbw.size)
      clear hb3 hx2 hp2
      go_wp2_with fail
      refine (rplaces_any A E n c m d l ps w3 hx3 hp3 (by omega) hPB hF.b).mono ?_
      rintro e w4 ⟨A2, m2, c2, rfl, hr2, hb4⟩
      have hr1' := (hr1.below hb4).more hb4.size
      replace hbw := hbw.trans (hb4.mono hbw.size)
      have hlen := plP_len hF.b ps 0 [] (fun p hp' => by have h1 := (hp.bs p hp').ints_len; have h2 := hPB.b p hp'; omega)
      have hps := hPB.n
      rw [List.length_nil] at hlen
      have e1 := hr1'.count prF 2 prF_len (by omega)
      have e2 := hr2.count prF 2 prF_len (by omega)
      generalize plP l 0 [] ps = L at *
      have hm12 : m1 = m2 := by omega
      have hm1 : m1 ≤ 10000000 := by omega
      subst hm12
      have HE1 := Lib.hid e1
      have HR1 := Lib.hid hr1'
      have HR2 := Lib.hid hr2
      have z1 : ((m1 : Int) != (m1 : Int)) = false := by simp
      clear hr1 hr1' hr2 e1 e2 hb4 hx3 hp3 hPB hS hF hlen
      go_wp2
      go_loopw [7] (fun i wr => ∃ j : Nat, j ≤ m1 ∧ i = .int .i64 j ∧ Below w4.heap.size w4 wr) (fun i _ => m1 - (intOf i).toNat)
      case atStart => exact ⟨0, Nat.zero_le _, rfl, Below.refl _ _⟩
      case round =>
        obtain ⟨j, hj, rfl, hb5⟩ := hrel
        by_cases hlt : j < m1
        · obtain ⟨p, hpj⟩ := get_of (l := L) (k := j) (by rw [HE1.out]; exact hlt)
          obtain ⟨g1, o1, hA1, _, hc1⟩ := (HR1.out.below hb5).elem prF 2 prF_len (by omega) hpj
          obtain ⟨g2, o2, hA2, _, hc2⟩ := (HR2.out.below hb5).elem prF 2 prF_len (by omega) hpj
          subst hA1 hA2
          have s0 := hc1 0 _ rfl
          have s1 := hc1 1 _ rfl
          have t0 := hc2 0 _ rfl
          have t1 := hc2 1 _ rfl
          rw [Nat.add_zero] at s0 t0
          have i1 : (0 : Int) ≤ (j : Int) := by omega
          have i2 : (j : Int) < (m1 : Int) := by omega
          have hne : ∀ W, (binOp .neq 37 (.agg #[.string (B p.1), .string (B p.2)]) (.agg #[.string (B p.1), .string (B p.2)])).run Tryd.prog W = .ok (.bool false) W := fun W => (pair_neqP p p W).trans (by simp [prE])
          clear hc1 hc2
          go_wp2
          go_quiet (fail)
          go_wp2
          go_roundw
          case rel => exact ⟨j + 1, by omega, by go_num, below_drewN hb5 _⟩
          case measure => simp [intOf]; omega
        · replace hbw := hbw.trans (hb5.mono hbw.size)
          clear hb5
          go_wp2_with fail
          refine (awake_any _ (hG.below hbw)).mono ?_
          rintro e w9 ⟨rfl, hb9⟩
          have hb10 := hbw.trans (hb9.mono hbw.size)
          clear hb9 hbw
          go_wp2
          go_ret
          exact ⟨rfl, hb10⟩
end Go.Proofs.YtpgpkgpiengmkaaDoor
