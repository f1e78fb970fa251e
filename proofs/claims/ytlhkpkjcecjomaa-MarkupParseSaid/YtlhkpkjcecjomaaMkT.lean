/-
  Layer 33 (markup): Plain.
-/
import Derived.Test.YtlhkpkjcecjomaaMkN
namespace Go.Proofs.Ytlhkpkjcecjomaa
open Go.RowKit
set_option linter.unusedVariables false
set_option linter.unusedSimpArgs false
attribute [local go_sem] B_data B_size

theorem plnL_take {ks : List Nd} {j : Nat} {k : Nd} (h : ks[j]? = some k) : plnL (ks.take (j + 1)) = plnL (ks.take j) ++ pln k := by
  have key : ∀ (a b : List Nd), plnL (a ++ b) = plnL a ++ plnL b := by
    intro a b
    induction a with
    | nil => rw [plnL]; rfl
    | cons x r ih => rw [List.cons_append, plnL, plnL, ih, List.append_assoc]
  obtain ⟨hj, e⟩ := List.getElem?_eq_some_iff.1 h
  rw [List.take_succ_eq_append_getElem hj, key, e, plnL, plnL, List.append_nil]
theorem pln_sz : ∀ n, (pln n).length ≤ szN n := by
  refine Nd.ind ?_
  intro nm tx ats ks IH
  have hL : (plnL ks).length ≤ szL ks := by
    clear tx ats
    induction ks with
    | nil => rw [plnL, szL]; simp
    | cons a r ih =>
      rw [plnL, szL, List.length_append]
      have := IH a (List.mem_cons_self ..)
      have := ih (fun k hk => IH k (List.mem_cons_of_mem _ hk))
      omega
  rw [pln, szN]
  split <;> omega
theorem plnL_szk {ks : List Nd} {j : Nat} {k : Nd} (h : ks[j]? = some k) : (plnL (ks.take j)).length + szN k ≤ szL ks := by
  induction ks generalizing j with
  | nil => simp at h
  | cons a r ih =>
    cases j with
    | zero =>
      have e : a = k := by simpa using h
      subst e
      rw [List.take_zero, plnL, szL]; simp
    | succ j =>
      have := ih (j := j) (by simpa using h)
      have := pln_sz a
      rw [List.take_succ_cons, plnL, szL, List.length_append]; omega
theorem plnL_sz (ks : List Nd) (j : Nat) : (plnL (ks.take j)).length ≤ szL ks := by
  induction ks generalizing j with
  | nil => simp [plnL]
  | cons a r ih =>
    cases j with
    | zero => simp [plnL]
    | succ j => rw [List.take_succ_cons, plnL, szL, List.length_append]; have := ih j; have := pln_sz a; omega
set_option maxHeartbeats 4000000 in
set_option maxRecDepth 100000 in
theorem rplain_any : ∀ (n : Nd) (c : NC) (w : World), NdB w w.heap.size n c → okN 1000000000 n → szN n ≤ 1000000000 →
    Calls Try.prog 22 #[.agg #[.string (B c.nm), .string (B c.tx), .slice c.A c.na c.ca, .slice c.K c.nk c.ck]] w (SPost (pln n) w) := by
  refine Nd.ind ?_
  intro nm tx ats ks IH c w h hok hsz
  obtain ⟨e1, e2, hA, cs, hK, hkc, hks⟩ := h.parts
  obtain ⟨o1, o2, o3, o4, o5, o6⟩ := hok.parts
  obtain ⟨nm', tx', A, na, ca, K, nk, ck⟩ := c
  have e1 : nm' = nm := e1
  have e2 : tx' = tx := e2
  subst e1 e2
  have hK : Rd w w.heap.size 4 K nk (cs.flatMap NC.cells) := hK
  have hnk : cs.length = nk := hK.count NC.cells 4 NC.cells_len (by omega)
  rw [hkc, hnk] at o4
  have HNK := Lib.hid (hkc.trans hnk)
  rw [szN] at hsz
  have HE : Hid (pln (.mk nm' tx' ats ks) = if nm' = [] then tx' else plnL ks) := by rw [pln]; rfl
  have HKS := Lib.hid hks
  have HIH := Lib.hid IH
  have HOK := Lib.hid o6
  have HKL := Lib.hid (fun j => plnL_sz ks j)
  have HKM := Lib.hid (fun k (hk : k ∈ ks) => szL_mem hk)
  have HB := Bx.new w ⟨nm', tx', A, na, ca, K, nk, ck⟩
  have hbW := below_alloc w (.cells #[.string (B nm'), .string (B tx'), .slice A na ca, .slice K nk ck] 25)
  clear hkc hnk hks IH h hok o5 o6 hA
  by_cases h0 : nm' = []
  · have HX : Hid (pln (.mk nm' tx' ats ks) = tx') := by rw [HE.out, if_pos h0]; rfl
    subst h0
    clear HE
    go_enter Try.func22, Try.ntmps22
    go_wp2
    go_ret
    exact ⟨ret_str (congrArg B HX.out.symm), hbW⟩
  have n1 : (nm' == []) = false := by simpa using h0
  have n2 : nm'.isEmpty = false := by simpa using h0
  have HE2 : Hid (pln (.mk nm' tx' ats ks) = plnL ks) := by rw [HE.out, if_neg h0]; rfl
  clear HE h0
  go_enter Try.func22, Try.ntmps22
  go_wp2
  generalize w.alloc (.cells #[.string (B nm'), .string (B tx'), .slice A na ca, .slice K nk ck] 25) = W at *
  go_loopw [3, 4] (fun s i wr => ∃ j : Nat, j ≤ nk ∧ i = .int .i64 j ∧ s = .string (B (plnL (ks.take j))) ∧ Below w.heap.size w wr ∧ Bx wr w.heap.size ⟨nm', tx', A, na, ca, K, nk, ck⟩) (fun _ i _ => nk - (intOf i).toNat)
  case atStart => exact ⟨0, Nat.zero_le _, rfl, by simp [plnL, B], hbW, HB⟩
  case round =>
    obtain ⟨t, ht, rfl, rfl, hbw, HBw⟩ := hrel
    have hws := HBw.lt
    have hbs := hbw.size
    have hkl := HKL.out t
    have b0 := HBw.c0
    have b3 := HBw.c3
    by_cases hlt2 : t < nk
    · obtain ⟨kd, hkd⟩ := get_of (l := ks) (k := t) (by rw [HNK.out]; exact hlt2)
      obtain ⟨kc, hkc, hkn⟩ := HKS.out t kd hkd
      obtain ⟨bb, o, rfl, hbm, hcell⟩ := (hK.below hbw).elem NC.cells 4 NC.cells_len (by omega) hkc
      have HT := Lib.hid (plnL_take hkd)
      have hmm := List.mem_of_getElem? hkd
      have hksz := HKM.out kd hmm
      have hmk := pln_sz kd
      have g0 : wr.cell? ⟨bb, o + t * 4, none⟩ = some (.string (B kc.nm)) := hcell 0 _ rfl
      have g1 : wr.cell? ⟨bb, o + t * 4 + 1, none⟩ = some (.string (B kc.tx)) := hcell 1 _ rfl
      have g2 : wr.cell? ⟨bb, o + t * 4 + 2, none⟩ = some (.slice kc.A kc.na kc.ca) := hcell 2 _ rfl
      have g3 : wr.cell? ⟨bb, o + t * 4 + 3, none⟩ = some (.slice kc.K kc.nk kc.ck) := hcell 3 _ rfl
      have hkB := (hkn.below hbw).more hbs
      have C := Lib.hid (HIH.out kd hmm kc wr hkB (HOK.out kd hmm) (by omega))
      clear hcell hkB
      generalize plnL (ks.take t) = L3 at *
      obtain ⟨Z5, eZ5, lZ5, qZ5⟩ := cat_step L3 (pln kd) (B L3) (B (pln kd)) rfl rfl (by omega)
      have HZ : Hid (Z5 = plnL (ks.take (t + 1))) := by rw [HT.out, eZ5]; rfl
      clear eZ5 lZ5 HT
      go_wp2_with fail
      refine C.out.mono ?_
      rintro e w5 ⟨rfl, hb5⟩
      have hB6 := hbw.trans (hb5.mono hbs)
      have HB6 := HBw.below hb5 HBw.lt
      clear C
      go_wp2
      go_roundw
      case rel => exact ⟨t + 1, by omega, by go_num, by rw [HZ.out], hB6, HB6⟩
      case measure => simp [intOf]; omega
    · have HF2 : Hid (plnL (ks.take t) = pln (.mk nm' tx' ats ks)) := by rw [HE2.out, List.take_of_length_le (by rw [HNK.out]; omega)]; rfl
      rw [HF2.out]
      go_wp2
      go_ret
      exact ⟨rfl, hbw⟩
end Go.Proofs.Ytlhkpkjcecjomaa
