/-
  Layer 33 (markup): the walk of the law MarkupBack.
-/
import Derived.Test.YtlhkpkjcecjomaaMkExW
import Derived.Deep.DeepCutAuto
namespace Go.Proofs.Ytlhkpkjcecjomaa
open Go.RowKit
set_option linter.unusedVariables false
set_option linter.unusedSimpArgs false
attribute [local go_sem] B_data B_size
attribute [local go_sem ↓] Go.wp_at_zero Go.wp_at_succ

/-- a node that came in, and its copy in a block of the call's own -/
structure SI (w : World) (bx : Nat) (n : Nd) (c : NC) (W : World) : Prop where
  b : Below w.heap.size w W
  x : Bx W bx c
  n : NdB W W.heap.size n c
theorem SI.step {w W W' : World} {bx : Nat} {n : Nd} {c : NC} (h : SI w bx n c W) (hb : Below W.heap.size W W') : SI w bx n c W' :=
  ⟨h.b.trans (hb.mono h.b.size), h.x.below hb h.x.lt, h.n.step hb⟩
theorem SI.alloc {w W : World} {bx : Nat} {n : Nd} {c : NC} (h : SI w bx n c W) (o : Obj) : SI w bx n c (W.alloc o) := h.step (below_alloc W o)
theorem SI.new {w : World} {n : Nd} {c : NC} (h : NdB w w.heap.size n c) : SI w w.heap.size n c (w.alloc (.cells #[.string (B c.nm), .string (B c.tx), .slice c.A c.na c.ca, .slice c.K c.nk c.ck] 25)) :=
  ⟨below_alloc w _, Bx.new w c, h.step (below_alloc w _)⟩
set_option maxHeartbeats 8000000 in
set_option maxRecDepth 100000 in
theorem markupBack_walk (w : World) (n : Nd) (c : NC) (hn : NdB w w.heap.size n c) (hok : okN 140737488355328 n) (a : ByteArray) (w0 : a.size ≤ maxLen) :
    Calls Try.prog 6 #[.agg #[.string (B c.nm), .string (B c.tx), .slice c.A c.na c.ca, .slice c.K c.nk c.ck], .string a] w fun e w' => e = .returned (.bool true) ∧ Below w.heap.size w w' := by
  unfold maxLen at w0
  obtain ⟨l, rfl⟩ : ∃ l, a = B l := ⟨a.toList, (B_self a).symm⟩
  rw [B_size] at w0
  have hS := SI.new hn
  have x0 := hS.x.c0
  have x1 := hS.x.c1
  have x2 := hS.x.c2
  have x3 := hS.x.c3
  have C := Lib.hid (small_any n c _ hS.n hok)
  have hnm := NdB.name hn
  have HNM := Lib.hid hnm
  clear hn hok hnm
  go_enter Try.func6, Try.ntmps6
  go_wp2_with fail
  refine C.out.mono ?_
  rintro e w1 ⟨rfl, hb1⟩
  have hS1 := hS.step hb1
  clear C hS x0 x1 x2 x3 hb1
  have x0 := hS1.x.c0
  have x1 := hS1.x.c1
  have x2 := hS1.x.c2
  have x3 := hS1.x.c3
  cases hsm : smallB n
  · go_wp2_with fail
    refine (awake_any _).mono ?_
    rintro e w2 ⟨rfl, hb2⟩
    have hb3 := hS1.b.trans (hb2.mono hS1.b.size)
    clear hb2
    go_wp2
    go_ret
    exact ⟨rfl, hb3⟩
  have hsz := small_sz hsm
  have hok := ok_of_sz 1000000000 n (by omega)
  clear hsm
  by_cases hl : 500 < l.length
  · go_wp2_with fail
    refine (awake_any _).mono ?_
    rintro e w2 ⟨rfl, hb2⟩
    have hb3 := hS1.b.trans (hb2.mono hS1.b.size)
    clear hb2
    go_wp2
    go_ret
    exact ⟨rfl, hb3⟩
  have CK := Lib.hid (check_any n c _ hS1.n hok)
  go_wp2_with fail
  refine CK.out.mono ?_
  rintro e w2 ⟨rfl, hb2⟩
  have hS2 := hS1.step hb2
  clear CK hS1 x0 x1 x2 x3 hb2
  have x0 := hS2.x.c0
  have x1 := hS2.x.c1
  have x2 := hS2.x.c2
  have x3 := hS2.x.c3
  by_cases hcn : ¬ chk n = 0
  · have hc := hcn
    have z1 : (chk n != 0) = true := by simpa using hc
    have z2 : (chk n == 0) = false := by simpa using hc
    go_wp2_with fail
    refine (awake_any _).mono ?_
    rintro e w3 ⟨rfl, hb3⟩
    have hb4 := hS2.b.trans (hb3.mono hS2.b.size)
    clear hb3
    go_wp2
    go_ret
    exact ⟨rfl, hb4⟩
  have hc := Classical.not_not.1 hcn
  clear hcn
  rw [hc]
  have HC := Lib.hid hc
  clear hc
  by_cases hrn : ¬ (c.nm = [] → l.head? = some 60 ∨ l = [])
  · have hr := hrn
    clear hrn
    have hr1 : c.nm = [] := Classical.byContradiction fun h => hr (fun h' => absurd h' h)
    have hr2 : ¬ (l.head? = some 60 ∨ l = []) := fun h => hr (fun _ => h)
    clear hr
    cases l with
    | nil => exact absurd (.inr rfl) hr2
    | cons q l =>
      have hq : q ≠ 60 := fun e => hr2 (.inl (by rw [e]; rfl))
      have d1 : ((q.toNat : Int) != 60) = true := by
        rw [bne_iff_ne]
        intro e
        exact hq (UInt8.toNat_inj.1 (by have : q.toNat = 60 := by omega
                                        rw [this]; rfl))
      have n1 : (c.nm == []) = true := by simp [hr1]
      have n2 : c.nm.isEmpty = true := by simp [hr1]
      have hq0 : (B (q :: l))[0]'(by rw [B_size]; simp) = q := rfl
      clear hr2 hq hr1
      go_wp2_with fail
      refine (awake_any _).mono ?_
      rintro e w3 ⟨rfl, hb3⟩
      have hb4 := hS2.b.trans (hb3.mono hS2.b.size)
      clear hb3
      go_wp2
      go_ret
      exact ⟨rfl, hb4⟩
  have hr := Classical.not_not.1 hrn
  clear hrn
  have HT := Lib.hid (pTop_ok n HC.out l (fun h => hr (HNM.out.trans h)))
  have HR := Lib.hid hr
  clear hr
  go_upto_region 3 with fail
  go_cut [35] (fun v wx => v = .bool false ∧ wx = w2)
  case first =>
    by_cases h0 : c.nm = []
    · have n1 : (c.nm == []) = true := by simp [h0]
      have n2 : c.nm.isEmpty = true := by simp [h0]
      rcases HR.out h0 with h1 | h1
      · obtain ⟨q, rfl⟩ : ∃ q, l = 60 :: q := by
          cases l with
          | nil => cases h1
          | cons a q => exact ⟨q, by rw [Option.some.inj h1]⟩
        have hq0 : (B (60 :: q))[0]'(by rw [B_size]; simp) = 60 := rfl
        clear h0 h1
        go_wp2
        go_meet
        exact ⟨rfl, rfl⟩
      · subst h1
        clear h0
        go_wp2
        go_meet
        exact ⟨rfl, rfl⟩
    · have n1 : (c.nm == []) = false := by simpa using h0
      have n2 : c.nm.isEmpty = false := by simpa using h0
      clear h0
      go_wp2
      go_meet
      exact ⟨rfl, rfl⟩
  case rest =>
    obtain ⟨rfl, rfl⟩ := hcut
    have C := Lib.hid (text_any n c _ hS2.n hok (by omega))
    unfold TPost at C
    rw [HC.out, if_pos rfl] at C
    go_wp2_with fail
    refine C.out.mono ?_
    rintro e w3 ⟨rfl, hb3⟩
    have hS3 := hS2.step hb3
    have hml := mku_sz n
    have hnl : n.nm ≠ [] ∨ True := .inr trivial
    clear C hS2 x0 x1 x2 x3 hb3 hnl
    obtain ⟨Z, eZ, lZ, qZ⟩ := cat_step (mku n) l (B (mku n)) (B l) rfl rfl (by omega)
    have CP := Lib.hid (parse_any Z w3 (by rw [lZ]; omega))
    rw [eZ, HT.out, ← eZ] at CP
    have HZ := Lib.hid eZ
    clear eZ
    go_wp2_with fail
    refine CP.out.mono ?_
    rintro e w4 ⟨hb4, c', k, rfl, hn', hd, hk⟩
    have ek : k = (mku n).length := by
      have h2 := congrArg List.length hd
      rw [List.length_drop] at h2
      omega
    subst ek
    have hB : NdB w4 w4.heap.size n c' := NdAt.keep (fun b hb => hb.2) (fun _ _ => rfl) _ c' hn'
    have hbW := below_alloc w4 (.cells #[.string (B c'.nm), .string (B c'.tx), .slice c'.A c'.na c'.ca, .slice c'.K c'.nk c'.ck] 25)
    have hB2 := hB.step hbW
    have hX := Bx.new w4 c'
    have hS5 := (hS3.step hb4).step hbW
    have x0 := hS5.x.c0
    have x1 := hS5.x.c1
    have x2 := hS5.x.c2
    have x3 := hS5.x.c3
    have y0 := hX.c0
    have y1 := hX.c1
    have y2 := hX.c2
    have y3 := hX.c3
    have CS := Lib.hid (rsame_any n n c' c _ hB2 hS5.n hok hok)
    rw [smN_refl] at CS
    clear hS3 hb4 hB hbW hB2 hX hn' hd hk CP HZ qZ lZ
    generalize mku n = M at *
    go_wp2_with fail
    refine CS.out.mono ?_
    rintro e w5 ⟨rfl, hb5⟩
    have hb6 := hS5.b.trans (hb5.mono hS5.b.size)
    clear CS hS5 hb5 x0 x1 x2 x3 y0 y1 y2 y3
    go_wp2_with fail
    refine (awake_any _).mono ?_
    rintro e w6 ⟨rfl, hb7⟩
    have hb8 := hb6.trans (hb7.mono hb6.size)
    clear hb6 hb7
    go_wp2
    go_ret
    exact ⟨rfl, hb8⟩
end Go.Proofs.Ytlhkpkjcecjomaa
