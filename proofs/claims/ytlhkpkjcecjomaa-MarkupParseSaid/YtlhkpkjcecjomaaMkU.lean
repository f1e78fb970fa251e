/-
  Layer 33 (markup): Plain, the program's.
-/
import Derived.Test.YtlhkpkjcecjomaaMkT
import Derived.Laws.EntriesVeiled
namespace Go.Proofs.Ytlhkpkjcecjomaa
open Go.RowKit
set_option linter.unusedVariables false
set_option linter.unusedSimpArgs false
attribute [local go_sem] B_data B_size

/-- block fb holds the function that adds to the builder at b -/
def Fx (w : World) (fb b : Nat) : Prop := w.heap[fb]? = some (.cells #[.func (.func 42) #[] #[.pointer (some ⟨b, 0, none⟩), .pointer (some ⟨fb, 0, none⟩)]] 67 (0, 0))
theorem Fx.lt {w : World} {fb b : Nat} (h : Fx w fb b) : fb < w.heap.size := (Array.getElem?_eq_some_iff.1 h).1
theorem Fx.cell {w : World} {fb b : Nat} (h : Fx w fb b) : w.cell? ⟨fb, 0, none⟩ = some (.func (.func 42) #[] #[.pointer (some ⟨b, 0, none⟩), .pointer (some ⟨fb, 0, none⟩)]) := by unfold Fx at h; simp [World.cell?, h]
theorem Fx.keep {w w' : World} {fb b : Nat} (h : Fx w fb b) (hk : Bkeep b w w') (hne : fb ≠ b) : Fx w' fb b := kept_cell hk h hne (by decide)
theorem Fx.alloc {w : World} {fb b : Nat} (h : Fx w fb b) (o : Obj) : Fx (w.alloc o) fb b := ((below_alloc w o).block fb h.lt).trans h
set_option maxHeartbeats 4000000 in
set_option maxRecDepth 100000 in
theorem plainAdd_any : ∀ (n : Nd) (c : NC) (b fb : Nat) (L : List UInt8) (w : World), NdB w b n c → okN 1000000000 n → Bd w b L → Fx w fb b → fb ≠ b → L.length + szN n ≤ 100000000000 →
    Calls Try.prog 42 #[.agg #[.string (B c.nm), .string (B c.tx), .slice c.A c.na c.ca, .slice c.K c.nk c.ck], .pointer (some ⟨b, 0, none⟩), .pointer (some ⟨fb, 0, none⟩)] w (WPost b (L ++ pln n) w) := by
  refine Nd.ind ?_
  intro nm tx ats ks IH c b fb L w h hok hbd hfx hfb hsz
  obtain ⟨e1, e2, hA, cs, hK, hkc, hks⟩ := h.parts
  obtain ⟨o1, o2, o3, o4, o5, o6⟩ := hok.parts
  obtain ⟨nm', tx', A, na, ca, K, nk, ck⟩ := c
  have e1 : nm' = nm := e1
  have e2 : tx' = tx := e2
  subst e1 e2
  have hK : Rd w b 4 K nk (cs.flatMap NC.cells) := hK
  have hnk : cs.length = nk := hK.count NC.cells 4 NC.cells_len (by omega)
  rw [hkc, hnk] at o4
  have HNK := Lib.hid (hkc.trans hnk)
  rw [szN] at hsz
  have HE : Hid (pln (.mk nm' tx' ats ks) = if nm' = [] then tx' else plnL ks) := by rw [pln]; rfl
  have HKS := Lib.hid hks
  have HIH := Lib.hid IH
  have HOK := Lib.hid o6
  have HKL := Lib.hid (fun j => plnL_sz ks j)
  have HB := Bx.new w ⟨nm', tx', A, na, ca, K, nk, ck⟩
  have hblt := hbd.lt
  have hflt := hfx.lt
  have hkW : Bkeep b w (w.alloc (.cells #[.string (B nm'), .string (B tx'), .slice A na ca, .slice K nk ck] 25)) := keep_below (below_alloc w _) hblt
  have hbdW := hbd.alloc (.cells #[.string (B nm'), .string (B tx'), .slice A na ca, .slice K nk ck] 25)
  have hfxW := hfx.alloc (.cells #[.string (B nm'), .string (B tx'), .slice A na ca, .slice K nk ck] 25)
  clear hkc hnk hks IH h hok o5 o6 hA hbd hfx
  by_cases h0 : nm' = []
  · have HX : Hid (pln (.mk nm' tx' ats ks) = tx') := by rw [HE.out, if_pos h0]; rfl
    subst h0
    clear HE
    go_enter Try.func42, Try.ntmps42
    go_wp2_with fail
    refine (writeString_any b L (B tx') _ hbdW (by rw [B_size]; omega)).mono ?_
    rintro e w2 ⟨rfl, hd2, hk2⟩
    rw [B_data, ← HX.out] at hd2
    have hk3 := hkW.trans hk2
    go_wp2
    go_end0
    exact ⟨rfl, hd2, hk3⟩
  have n1 : (nm' == []) = false := by simpa using h0
  have n2 : nm'.isEmpty = false := by simpa using h0
  have HE2 : Hid (pln (.mk nm' tx' ats ks) = plnL ks) := by rw [HE.out, if_neg h0]; rfl
  clear HE h0
  go_enter Try.func42, Try.ntmps42
  go_wp2
  generalize w.alloc (.cells #[.string (B nm'), .string (B tx'), .slice A na ca, .slice K nk ck] 25) = W at *
  go_loopw [15] (fun i wr => ∃ j : Nat, j ≤ nk ∧ i = .int .i64 j ∧ Bd wr b (L ++ plnL (ks.take j)) ∧ Bkeep b w wr ∧ Fx wr fb b ∧ b < wr.heap.size) (fun i _ => nk - (intOf i).toNat)
  case atStart => exact ⟨0, Nat.zero_le _, rfl, by simpa [plnL] using hbdW, hkW, hfxW, hbdW.lt⟩
  case round =>
    obtain ⟨t, ht, rfl, hbd, hkw, hfx, hbw⟩ := hrel
    have hkl := HKL.out t
    have hfc := hfx.cell
    have hfl := hfx.lt
    by_cases hlt2 : t < nk
    · obtain ⟨kd, hkd⟩ := get_of (l := ks) (k := t) (by rw [HNK.out]; exact hlt2)
      obtain ⟨kc, hkc, hkn⟩ := HKS.out t kd hkd
      obtain ⟨bb, o, rfl, hbm, hcell⟩ := (hK.kept hkw (Nat.le_refl _)).elem NC.cells 4 NC.cells_len (by omega) hkc
      have HT := Lib.hid (plnL_take hkd)
      have hmm := List.mem_of_getElem? hkd
      have hszk := plnL_szk hkd
      have g0 : wr.cell? ⟨bb, o + t * 4, none⟩ = some (.string (B kc.nm)) := hcell 0 _ rfl
      have g1 : wr.cell? ⟨bb, o + t * 4 + 1, none⟩ = some (.string (B kc.tx)) := hcell 1 _ rfl
      have g2 : wr.cell? ⟨bb, o + t * 4 + 2, none⟩ = some (.slice kc.A kc.na kc.ca) := hcell 2 _ rfl
      have g3 : wr.cell? ⟨bb, o + t * 4 + 3, none⟩ = some (.slice kc.K kc.nk kc.ck) := hcell 3 _ rfl
      have hal := keep_below (below_alloc wr (.cells #[.string (B kc.nm), .string (B kc.tx), .slice kc.A kc.na kc.ca, .slice kc.K kc.nk kc.ck] 25)) hbw
      have hbd1 := hbd.alloc (.cells #[.string (B kc.nm), .string (B kc.tx), .slice kc.A kc.na kc.ca, .slice kc.K kc.nk kc.ck] 25)
      have hfx1 := hfx.alloc (.cells #[.string (B kc.nm), .string (B kc.tx), .slice kc.A kc.na kc.ca, .slice kc.K kc.nk kc.ck] 25)
      have hk3 := hkw.trans hal
      have hkB := (hkn.kept hk3 (Nat.le_refl _))
      have C := Lib.hid (HIH.out kd hmm kc b fb (L ++ plnL (ks.take t)) _ hkB (HOK.out kd hmm) hbd1 hfx1 hfb (by rw [List.length_append]; omega))
      have HT2 : Hid (L ++ plnL (ks.take t) ++ pln kd = L ++ plnL (ks.take (t + 1))) := by rw [HT.out]; simp [Hid]
      clear hcell hkB hbd hkw hal HT hbd1 hfx
      go_wp2_with fail
      refine C.out.mono ?_
      rintro e w5 ⟨rfl, hd5, hk5⟩
      rw [HT2.out] at hd5
      have hk6 := hk3.trans hk5
      have hfx6 := hfx1.keep hk5 hfb
      clear C
      go_wp2
      go_roundw
      case rel => exact ⟨t + 1, by omega, by go_num, hd5, hk6, hfx6, hd5.lt⟩
      case measure => simp [intOf]; omega
    · have HF2 : Hid (L ++ plnL (ks.take t) = L ++ pln (.mk nm' tx' ats ks)) := by rw [HE2.out, List.take_of_length_le (by rw [HNK.out]; omega)]; rfl
      rw [HF2.out] at hbd
      go_wp2
      go_end0
      exact ⟨rfl, hbd, hkw⟩
set_option maxHeartbeats 4000000 in
set_option maxRecDepth 100000 in
theorem plain_any (n : Nd) (c : NC) (w : World) (h : NdB w w.heap.size n c) (hok : okN 1000000000 n) (hsz : szN n ≤ 1000000000) :
    Calls Try.prog 21 #[.agg #[.string (B c.nm), .string (B c.tx), .slice c.A c.na c.ca, .slice c.K c.nk c.ck]] w (SPost (pln n) w) := by
  have hb1 := below_alloc w (.cells #[.string (B c.nm), .string (B c.tx), .slice c.A c.na c.ca, .slice c.K c.nk c.ck] 25)
  obtain ⟨W1, hW1⟩ : ∃ W1, W1 = w.alloc (.cells #[.string (B c.nm), .string (B c.tx), .slice c.A c.na c.ca, .slice c.K c.nk c.ck] 25) := ⟨_, rfl⟩
  have hs1 : W1.heap.size = w.heap.size + 1 := by rw [hW1]; simp
  rw [← hW1] at hb1
  have hd2 : Bd (W1.alloc (.cells #[.pointer none, .slice none 0 0] 52)) W1.heap.size [] := Bd.new W1
  have hb2 := hb1.alloc hb1.size (.cells #[.pointer none, .slice none 0 0] 52)
  obtain ⟨W2, hW2⟩ : ∃ W2, W2 = W1.alloc (.cells #[.pointer none, .slice none 0 0] 52) := ⟨_, rfl⟩
  have hs2 : W2.heap.size = w.heap.size + 1 + 1 := by rw [hW2]; simp [hs1]
  rw [← hW2] at hb2 hd2
  rw [hs1] at hd2
  have hd3 := hd2.alloc (.cells #[.func (.func 42) #[] #[.pointer (some ⟨w.heap.size + 1, 0, none⟩), .pointer (some ⟨w.heap.size + 1 + 1, 0, none⟩)]] 67)
  have hb3 := hb2.alloc hb2.size (.cells #[.func (.func 42) #[] #[.pointer (some ⟨w.heap.size + 1, 0, none⟩), .pointer (some ⟨w.heap.size + 1 + 1, 0, none⟩)]] 67)
  have hf3 : Fx (W2.alloc (.cells #[.func (.func 42) #[] #[.pointer (some ⟨w.heap.size + 1, 0, none⟩), .pointer (some ⟨w.heap.size + 1 + 1, 0, none⟩)]] 67)) (w.heap.size + 1 + 1) (w.heap.size + 1) := by
    have := heap_alloc_new W2 (.cells #[.func (.func 42) #[] #[.pointer (some ⟨w.heap.size + 1, 0, none⟩), .pointer (some ⟨w.heap.size + 1 + 1, 0, none⟩)]] 67)
    rw [hs2] at this
    exact this
  have h3 := (h.below hb3).more (show w.heap.size ≤ w.heap.size + 1 by omega)
  have C := Lib.hid (plainAdd_any n c (w.heap.size + 1) (w.heap.size + 1 + 1) [] _ h3 hok hd3 hf3 (by omega) (by simp; omega))
  subst hW2 hW1
  clear hs1 hs2 hd2 hd3 hf3 h3 hb1 hb2
  go_enter Try.func21, Try.ntmps21
  go_wp2_with fail
  refine C.out.mono ?_
  rintro e w4 ⟨rfl, hd4, hk4⟩
  clear C
  rw [List.nil_append] at hd4
  go_wp2_with fail
  refine (string_any _ _ _ hd4).mono ?_
  rintro e w5 ⟨rfl, hd5, hk5⟩
  have hB := (hb3.trans (hk4.1.mono (by omega))).trans (hk5.1.mono (by omega))
  go_wp2
  go_ret
  exact ⟨rfl, hB⟩
end Go.Proofs.Ytlhkpkjcecjomaa
