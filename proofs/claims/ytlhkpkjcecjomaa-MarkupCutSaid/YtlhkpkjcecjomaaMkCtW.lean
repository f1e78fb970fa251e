/-
  Layer 33 (markup): the walk of the law MarkupCut.
-/
import Derived.Test.YtlhkpkjcecjomaaMkBkW
namespace Go.Proofs.Ytlhkpkjcecjomaa
open Go.RowKit
set_option linter.unusedVariables false
set_option linter.unusedSimpArgs false
attribute [local go_sem] B_data B_size
attribute [local go_sem ↓] Go.wp_at_zero Go.wp_at_succ

theorem u16_range {k : Int} (h : (Lit.int .u16 k).wf = true) : 0 ≤ k ∧ k < 65536 := by
  have a : IntKind.u16.min = 0 := rfl
  have b : IntKind.u16.max = 65535 := rfl
  simp [Lit.wf] at h
  omega
set_option maxHeartbeats 8000000 in
set_option maxRecDepth 100000 in
theorem markupCut_walk (w : World) (n : Nd) (c : NC) (hn : NdB w w.heap.size n c) (hok : okN 140737488355328 n) (q : Int) (hq : (Lit.int .u16 q).wf = true) (a : ByteArray) (w0 : a.size ≤ maxLen) (b : ByteArray) (w1 : b.size ≤ maxLen) :
    Calls Try.prog 8 #[.agg #[.string (B c.nm), .string (B c.tx), .slice c.A c.na c.ca, .slice c.K c.nk c.ck], .int .u16 q, .string a, .string b] w fun e w' => e = .returned (.bool true) ∧ Below w.heap.size w w' := by
  unfold maxLen at w0 w1
  obtain ⟨la, rfl⟩ : ∃ l, a = B l := ⟨a.toList, (B_self a).symm⟩
  obtain ⟨lb, rfl⟩ : ∃ l, b = B l := ⟨b.toList, (B_self b).symm⟩
  rw [B_size] at w0 w1
  obtain ⟨q0, q1⟩ := u16_range hq
  have hS := SI.new hn
  have x0 := hS.x.c0
  have x1 := hS.x.c1
  have x2 := hS.x.c2
  have x3 := hS.x.c3
  have C := Lib.hid (small_any n c _ hS.n hok)
  have hnm := NdB.name hn
  have HNM := Lib.hid hnm
  clear hn hok hnm hq
  go_enter Try.func8, Try.ntmps8
  go_wp2_with fail
  refine C.out.mono ?_
  rintro e w1 ⟨rfl, hb1⟩
  have hS1 := hS.step hb1
  clear C hS x0 x1 x2 x3 hb1
  cases hsm : smallB n
  · go_wp2_with fail
    refine (awake_any _).mono ?_
    rintro e w2 ⟨rfl, hb2⟩
    have hb3 := hS1.b.trans (hb2.mono hS1.b.size)
    clear hb2
    go_wp2
    go_ret
    exact ⟨rfl, hb3⟩
  have hsz0 := small_sz hsm
  have hsz : szN n ≤ 1000000000 := by omega
  have hok := ok_of_sz 1000000000 n hsz
  clear hsm hsz0
  by_cases hl : 500 < la.length
  · go_wp2_with fail
    refine (awake_any _).mono ?_
    rintro e w2 ⟨rfl, hb2⟩
    have hb3 := hS1.b.trans (hb2.mono hS1.b.size)
    clear hb2
    go_wp2
    go_ret
    exact ⟨rfl, hb3⟩
  by_cases hl2 : 500 < lb.length
  · go_wp2_with fail
    refine (awake_any _).mono ?_
    rintro e w2 ⟨rfl, hb2⟩
    have hb3 := hS1.b.trans (hb2.mono hS1.b.size)
    clear hb2
    go_wp2
    go_ret
    exact ⟨rfl, hb3⟩
  obtain ⟨Z1, eZ1, lZ1, qZ1⟩ := cat_step la lb (B la) (B lb) rfl rfl (by omega)
  obtain ⟨Z2, eZ2, lZ2, qZ2⟩ := cat_step (esc la) (esc lb) (B (esc la)) (B (esc lb)) rfl rfl (by have := esc_len6 la; have := esc_len6 lb; omega)
  have HZ : Hid (esc Z1 = Z2) := by rw [eZ1, eZ2, esc_append]; rfl
  have hZl : Z1.length ≤ 1000 := by rw [lZ1]; omega
  have HQ : Hid ((esc la == esc lb) = (la == lb)) := by
    unfold Hid
    rw [Bool.eq_iff_iff, beq_iff_eq, beq_iff_eq]
    exact ⟨esc_inj, fun h => by rw [h]⟩
  clear eZ1 eZ2 lZ1 lZ2
  have hqq : ((esc la == esc lb) == (la == lb)) = true := by rw [HQ.out]; simp
  go_wp2_with fail
  refine (escape_any (B Z1) _ (by rw [B_size]; omega)).mono ?_
  rw [B_data, HZ.out]
  rintro e w2 ⟨rfl, hb2⟩
  have hS2 := hS1.step hb2
  clear hS1 hb2
  go_wp2_with fail
  refine (escape_any (B la) _ (by rw [B_size]; omega)).mono ?_
  rw [B_data]
  rintro e w3 ⟨rfl, hb3⟩
  have hS3 := hS2.step hb3
  clear hS2 hb3
  go_wp2_with fail
  refine (escape_any (B lb) _ (by rw [B_size]; omega)).mono ?_
  rw [B_data]
  rintro e w4 ⟨rfl, hb4⟩
  have hS4 := hS3.step hb4
  clear hS3 hb4
  go_wp2_with fail
  refine (escape_any (B la) _ (by rw [B_size]; omega)).mono ?_
  rw [B_data]
  rintro e w5 ⟨rfl, hb5⟩
  have hS5 := hS4.step hb5
  clear hS4 hb5
  go_wp2_with fail
  refine (escape_any (B lb) _ (by rw [B_size]; omega)).mono ?_
  rw [B_data]
  rintro e w6 ⟨rfl, hb6⟩
  have hS6 := hS5.step hb6
  clear hS5 hb6
  have x0 := hS6.x.c0
  have x1 := hS6.x.c1
  have x2 := hS6.x.c2
  have x3 := hS6.x.c3
  have C := Lib.hid (text_any n c _ hS6.n hok hsz)
  unfold TPost at C
  by_cases hcn : ¬ chk n = 0
  · have hc := hcn
    rw [if_neg hc] at C
    have z1 : (chk n != 0) = true := by simpa using hc
    have z2 : (chk n == 0) = false := by simpa using hc
    clear hc hcn
    go_wp2_with fail
    refine C.out.mono ?_
    rintro e w7 ⟨rfl, hb7⟩
    have hS7 := hS6.step hb7
    clear hS6 hb7 C x0 x1 x2 x3
    go_wp2_with fail
    refine (awake_any _).mono ?_
    rintro e w8 ⟨rfl, hb8⟩
    have hb9 := hS7.b.trans (hb8.mono hS7.b.size)
    clear hb8
    go_wp2
    go_ret
    exact ⟨rfl, hb9⟩
  have hc := Classical.not_not.1 hcn
  rw [if_pos hc, hc] at C
  have HC := Lib.hid hc
  have hml := mku_sz n
  have hmp := List.length_pos_iff.2 (mku_ne n hc)
  have HM := Lib.hid (mku_ne n hc)
  clear hcn hc
  go_wp2_with fail
  refine C.out.mono ?_
  rintro e w7 ⟨rfl, hb7⟩
  have hS7 := hS6.step hb7
  clear hS6 hb7 C x0 x1 x2 x3
  have x0 := hS7.x.c0
  by_cases h0 : c.nm = []
  · have n1 : (c.nm == []) = true := by simp [h0]
    have n2 : c.nm.isEmpty = true := by simp [h0]
    clear h0
    go_wp2_with fail
    refine (awake_any _).mono ?_
    rintro e w8 ⟨rfl, hb8⟩
    have hb9 := hS7.b.trans (hb8.mono hS7.b.size)
    clear hb8
    go_wp2
    go_ret
    exact ⟨rfl, hb9⟩
  have n1 : (c.nm == []) = false := by simpa using h0
  have n2 : c.nm.isEmpty = false := by simpa using h0
  obtain ⟨m, hm, hmlt⟩ : ∃ m : Nat, q.tmod ((mku n).length : Int) = (m : Int) ∧ m < (mku n).length := by
    have h1 : 0 ≤ q.tmod ((mku n).length : Int) := Int.tmod_nonneg _ q0
    have h2 : q.tmod ((mku n).length : Int) < ((mku n).length : Int) := Int.tmod_lt_of_pos _ (by omega)
    exact ⟨(q.tmod ((mku n).length : Int)).toNat, by omega, by omega⟩
  have hm' : q % ((mku n).length : Int) = (m : Int) := by rw [← hm]; exact (Int.tmod_eq_emod_of_nonneg q0).symm
  have HT := Lib.hid (pTop_cut n HC.out (fun e => h0 (HNM.out.trans e)) ((mku n).take m) ((mku n).drop m) (List.take_append_drop _ _) (by rw [Ne, List.drop_eq_nil_iff]; omega))
  have hx : (B (mku n)).extract 0 m = B ((mku n).take m) := by rw [B_take, B_data]
  have htl : ((mku n).take m).length ≤ 1000000000 := by rw [List.length_take]; omega
  have hz : ((mku n).length == 0) = false := by rw [beq_eq_false_iff_ne]; omega
  have hz2 : (((mku n).length : Int) == 0) = false := by rw [beq_eq_false_iff_ne]; omega
  have hne1 : (mku n == []) = false := by simpa using HM.out
  have hne2 : (mku n).isEmpty = false := by simpa using HM.out
  clear h0 HM HC HNM
  generalize (mku n).take m = T at *
  generalize mku n = M at *
  have CP := Lib.hid (parse_any T w7 htl)
  rw [HT.out] at CP
  clear HT
  go_wp2_with fail
  refine CP.out.mono ?_
  rintro e w8 ⟨hb8, rfl⟩
  have hS8 := hS7.step hb8
  have hX := Bx.new w8 nc0
  have hS9 := hS8.alloc (.cells #[.string (B []), .string (B []), .slice none 0 0, .slice none 0 0] 25)
  clear hS7 hb8 CP x0 hS8
  go_wp2_with fail
  refine (awake_any _).mono ?_
  rintro e w9 ⟨rfl, hb9⟩
  have hb10 := hS9.b.trans (hb9.mono hS9.b.size)
  clear hb9
  go_wp2
  go_ret
  exact ⟨rfl, hb10⟩
end Go.Proofs.Ytlhkpkjcecjomaa
