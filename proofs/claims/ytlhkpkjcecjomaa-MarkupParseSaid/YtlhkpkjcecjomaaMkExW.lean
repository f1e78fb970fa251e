/-
  Layer 33 (markup): the walk of the law MarkupExact.
-/
import Derived.Test.YtlhkpkjcecjomaaMkAw
import Derived.Test.YtlhkpkjcecjomaaMkOr
namespace Go.Proofs.Ytlhkpkjcecjomaa
open Go.RowKit
set_option linter.unusedVariables false
set_option linter.unusedSimpArgs false
attribute [local go_sem] B_data B_size
attribute [local go_sem ↓] Go.wp_at_zero Go.wp_at_succ

theorem sz_mku : ∀ n, chk n = 0 → szN n ≤ 16 * (mku n).length := by
  refine Nd.ind ?_
  intro nm tx ats ks IH hc
  rw [chk_iff] at hc
  rcases hc with ⟨rfl, rfl, rfl, h1, h2⟩ | ⟨h1, h2, rfl, h4, h5, h6⟩
  · rw [mku, if_pos rfl, szN, szL]
    have := esc_len tx
    have := List.length_pos_iff.2 h1
    simp [mkAs]
    omega
  · have hL : ∀ t, chkKs t ks = 0 → szL ks ≤ 16 * (mkuL ks).length := by
      clear h1 h2 h4 h5 h6
      induction ks with
      | nil => intro t _; rw [szL]; omega
      | cons k r ih =>
        intro t h
        obtain ⟨_, a, b⟩ := (chkKs_cons t k r).1 h
        have := IH k (List.mem_cons_self ..) a
        have := ih (fun x hx => IH x (List.mem_cons_of_mem _ hx)) _ b
        rw [szL, mkuL, List.length_append]
        omega
    have hl := hL _ h6
    rw [szN, mku_elem nm [] ats ks h1, tailN]
    have h0 := List.length_pos_iff.2 h1
    cases he : emptyB nm
    · rw [if_neg (by simp)]
      simp only [List.length_cons, List.length_append, List.length_nil]
      omega
    · rw [if_pos rfl]
      have hk := h4 he
      subst hk
      simp only [szL, List.length_cons, List.length_append, List.length_nil]
      omega
set_option maxHeartbeats 8000000 in
set_option maxRecDepth 100000 in
theorem markupExact_walk (w : World) (a : ByteArray) (w0 : a.size ≤ maxLen) :
    Calls Try.prog 7 #[.string a] w fun e w' => e = .returned (.bool true) ∧ Below w.heap.size w w' := by
  unfold maxLen at w0
  obtain ⟨l, rfl⟩ : ∃ l, a = B l := ⟨a.toList, (B_self a).symm⟩
  rw [B_size] at w0
  by_cases h : 1000 < l.length
  · go_enter Try.func7, Try.ntmps7
    go_wp2_with fail
    refine (awake_any _).mono ?_
    rintro e w1 ⟨rfl, hb⟩
    go_wp2
    go_ret
    exact ⟨rfl, hb⟩
  · have C := Lib.hid (parse_any l w (by omega))
    cases ht : pTop l with
    | error x =>
      have hx0 : x ≠ 0 := by
        unfold pTop at ht
        split at ht
        · injection ht with ht; omega
        · exact pN_err ht
      have z1 : (x != 0) = true := by simpa using hx0
      have z2 : (x == 0) = false := by simpa using hx0
      rw [ht] at C
      clear ht hx0
      go_enter Try.func7, Try.ntmps7
      go_wp2_with fail
      refine C.out.mono ?_
      rintro e w1 ⟨hb1, rfl⟩
      have hX := Bx.new w1 nc0
      have hb2 := hb1.alloc hb1.size (.cells #[.string (B []), .string (B []), .slice none 0 0, .slice none 0 0] 25)
      go_wp2_with fail
      refine (awake_any _).mono ?_
      rintro e w2 ⟨rfl, hb3⟩
      have hb4 := hb2.trans (hb3.mono hb2.size)
      clear hb3 hb2 hX C
      go_wp2
      go_ret
      exact ⟨rfl, hb4⟩
    | ok y =>
      obtain ⟨n, l2⟩ := y
      obtain ⟨hc, he⟩ := pTop_some ht
      have hsz : szN n ≤ 1000000000 := by
        have h1 := sz_mku n hc
        have h2 := congrArg List.length he
        rw [List.length_append] at h2
        omega
      rw [ht] at C
      clear ht
      go_enter Try.func7, Try.ntmps7
      go_wp2_with fail
      refine C.out.mono ?_
      rintro e w1 ⟨hb1, c, k, rfl, hn, hd, hk⟩
      have ek : k = (mku n).length := by
        have h1 := congrArg List.length he
        have h2 := congrArg List.length hd
        rw [List.length_append] at h1
        rw [List.length_drop] at h2
        omega
      subst ek
      have hx : (B l).extract 0 (mku n).length = B (mku n) := by rw [B_take, B_data, ← he, List.take_left]
      have hp := List.length_pos_iff.2 (mku_ne n hc)
      have d1 : decide ((1 : Int) ≤ ((mku n).length : Int)) = true := by simp; omega
      have hB : NdB w1 w1.heap.size n c := NdAt.keep (fun b hb => hb.2) (fun _ _ => rfl) _ c hn
      have hX := Bx.new w1 c
      have hbW := below_alloc w1 (.cells #[.string (B c.nm), .string (B c.tx), .slice c.A c.na c.ca, .slice c.K c.nk c.ck] 25)
      have hB2 := hB.step hbW
      have hb2 := hb1.trans (hbW.mono hb1.size)
      have hok := ok_of_sz 1000000000 n hsz
      have HC := Lib.hid hc
      clear hB hbW hb1 hn hd he C hc
      go_wp2_with fail
      refine (text_any n c _ hB2 hok hsz).mono ?_
      unfold TPost
      rw [HC.out, if_pos rfl]
      rintro e w2 ⟨rfl, hb3⟩
      have hX2 := hX.below hb3 hX.lt
      have hB3 := hB2.step hb3
      have hb4 := hb2.trans (hb3.mono hb2.size)
      have x0 := hX2.c0
      have x1 := hX2.c1
      have x2 := hX2.c2
      have x3 := hX2.c3
      clear hX hb3 hB2 hb2
      generalize mku n = L at *
      go_wp2_with fail
      refine (check_any n c _ hB3 hok).mono ?_
      unfold IPost
      rw [HC.out]
      rintro e w3 ⟨rfl, hb5⟩
      have hb6 := hb4.trans (hb5.mono hb4.size)
      clear x0 x1 x2 x3 hX2 hB3 hb4 hb5
      go_wp2_with fail
      refine (awake_any _).mono ?_
      rintro e w4 ⟨rfl, hb7⟩
      have hb8 := hb6.trans (hb7.mono hb6.size)
      clear hb6 hb7
      go_wp2
      go_ret
      exact ⟨rfl, hb8⟩
end Go.Proofs.Ytlhkpkjcecjomaa
