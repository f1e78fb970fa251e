/-
  Layer 33 (markup): weight and small.
-/
import Derived.Test.YtlhkpkjcecjomaaMkW
namespace Go.Proofs.Ytlhkpkjcecjomaa
open Go.RowKit
set_option linter.unusedVariables false
set_option linter.unusedSimpArgs false
attribute [local go_sem] B_data B_size

def wtA (ats : List (List UInt8 × List UInt8)) : Nat := (ats.map fun p => p.1.length / 100 + p.2.length / 300).sum
def wk0 (nm tx : List UInt8) (ats : List (List UInt8 × List UInt8)) (ks : List Nd) : Nat := 1 + ats.length + ks.length + tx.length / 300 + nm.length / 300
mutual
/-- the weight of a node -/
def wt : Nd → Nat → Nat
  | .mk nm tx ats ks, d => if 30 < d ∨ 200 < wk0 nm tx ats ks then 1000 else wtL ks (d + 1) (wk0 nm tx ats ks + wtA ats)
def wtL : List Nd → Nat → Nat → Nat
  | [], _, k => k
  | x :: r, d, k => if k < 1000 then wtL r d (k + wt x d) else k
end
theorem wtL_ge : ∀ (ks : List Nd) (d k : Nat), k ≤ wtL ks d k := by
  intro ks
  induction ks with
  | nil => intro d k; rw [wtL]; exact Nat.le_refl _
  | cons x r ih =>
    intro d k
    rw [wtL]
    split
    · have := ih d (k + wt x d); omega
    · exact Nat.le_refl _
theorem wt_top : ∀ n, okN 140737488355328 n → ∀ d, d ≤ 31 → wt n d + 1000 * d ≤ 2251799813685248 := by
  refine Nd.ind ?_
  intro nm tx ats ks IH hok d hd
  obtain ⟨o1, o2, o3, o4, o5, o6⟩ := hok.parts
  rw [wt]
  by_cases h : 30 < d ∨ 200 < wk0 nm tx ats ks
  · rw [if_pos h]; omega
  · rw [if_neg h]
    have hA : wtA ats ≤ 1900000000000 * ats.length := by
      clear h o3 hok
      unfold wtA
      induction ats with
      | nil => simp
      | cons p r ih =>
        have := ih (fun q hq => o5 q (List.mem_cons_of_mem _ hq))
        have := o5 p (List.mem_cons_self ..)
        simp only [List.map_cons, List.sum_cons, List.length_cons]
        omega
    have hl : ats.length ≤ 200 := by unfold wk0 at h; omega
    have hk0 : wk0 nm tx ats ks + wtA ats ≤ 1125899906842624 := by omega
    generalize wk0 nm tx ats ks + wtA ats = k at *
    have key : ∀ (r : List Nd) (k : Nat), (∀ x ∈ r, x ∈ ks) → k + 1000 * d ≤ 2251799813685248 → wtL r (d + 1) k + 1000 * d ≤ 2251799813685248 := by
      intro r
      induction r with
      | nil => intro k _ h; rw [wtL]; exact h
      | cons x r ih =>
        intro k hm hk
        rw [wtL]
        split
        · have := IH x (hm x (List.mem_cons_self ..)) (o6 x (hm x (List.mem_cons_self ..))) (d + 1) (by omega)
          exact ih _ (fun y hy => hm y (List.mem_cons_of_mem _ hy)) (by omega)
        · exact hk
    exact key ks k (fun _ h => h) (by omega)
theorem mkAs_wt (ats : List (List UInt8 × List UInt8)) : (mkAs ats).length ≤ 2500 * (ats.length + wtA ats) := by
  induction ats with
  | nil => simp [mkAs]
  | cons p r ih =>
    rw [mkAs_cons]
    have := esc_len6 p.2
    unfold wtA at ih ⊢
    simp only [List.map_cons, List.sum_cons, List.length_cons, List.length_append, mkA, List.length_nil] at ih ⊢
    omega
theorem wt_sz : ∀ n d, wt n d ≤ 200 → szN n ≤ 2500 * wt n d := by
  refine Nd.ind ?_
  intro nm tx ats ks IH d h
  rw [wt] at h ⊢
  by_cases h0 : 30 < d ∨ 200 < wk0 nm tx ats ks
  · rw [if_pos h0] at h; omega
  · rw [if_neg h0] at h ⊢
    have hA := mkAs_wt ats
    have key : ∀ (r : List Nd) (k : Nat), (∀ x ∈ r, x ∈ ks) → wtL r (d + 1) k ≤ 200 → 2500 * k + szL r ≤ 2500 * wtL r (d + 1) k := by
      intro r
      induction r with
      | nil => intro k _ h; rw [wtL, szL]; omega
      | cons x r ih =>
        intro k hm hk
        rw [wtL] at hk ⊢
        rw [szL]
        split
        · rename_i hlt
          rw [if_pos hlt] at hk
          have h1 := wtL_ge r (d + 1) (k + wt x (d + 1))
          have h2 := IH x (hm x (List.mem_cons_self ..)) (d + 1) (by omega)
          have h3 := ih _ (fun y hy => hm y (List.mem_cons_of_mem _ hy)) hk
          omega
        · rename_i hlt
          rw [if_neg hlt] at hk
          omega
    have := key ks _ (fun _ h => h) h
    rw [szN]
    unfold wk0 at this ⊢
    omega
theorem szL_len (ks : List Nd) : ks.length ≤ szL ks := by
  induction ks with
  | nil => simp
  | cons a r ih =>
    obtain ⟨nm, tx, ats, ks⟩ := a
    rw [szL, szN, List.length_cons]; omega
theorem mkAs_mem {ats : List (List UInt8 × List UInt8)} {p : List UInt8 × List UInt8} (h : p ∈ ats) : p.1.length ≤ (mkAs ats).length ∧ p.2.length ≤ (mkAs ats).length := by
  induction ats with
  | nil => cases h
  | cons q r ih =>
    rw [mkAs_cons]
    have := esc_len q.2
    simp only [List.length_cons, List.length_append, mkA, List.length_nil]
    rcases List.mem_cons.1 h with rfl | h
    · exact ⟨by omega, by omega⟩
    · have := ih h
      exact ⟨by omega, by omega⟩
theorem ok_of_sz (M : Nat) : ∀ n, szN n ≤ M → okN M n := by
  refine Nd.ind ?_
  intro nm tx ats ks IH h
  rw [szN] at h
  have h1 := szL_len ks
  have h2 := mkAs_len ats
  rw [okN]
  refine ⟨by omega, by omega, by omega, by omega, fun p hp => ?_, ?_⟩
  · have := mkAs_mem hp
    omega
  · have : ∀ r : List Nd, (∀ x ∈ r, x ∈ ks) → okL M r := by
      intro r
      induction r with
      | nil => intro _; trivial
      | cons x r ih =>
        intro hm
        have hx := hm x (List.mem_cons_self ..)
        have := szL_mem hx
        exact ⟨IH x hx (by omega), ih (fun y hy => hm y (List.mem_cons_of_mem _ hy))⟩
    exact this ks (fun _ h => h)
theorem take_snoc2 {α : Type} {l : List α} {j : Nat} {x : α} (h : l[j]? = some x) : l.take (j + 1) = l.take j ++ [x] := by
  obtain ⟨hj, e⟩ := List.getElem?_eq_some_iff.1 h
  rw [List.take_succ_eq_append_getElem hj, e]
theorem wtA_take {ats : List (List UInt8 × List UInt8)} {j : Nat} {p : List UInt8 × List UInt8} (h : ats[j]? = some p) : wtA (ats.take (j + 1)) = wtA (ats.take j) + (p.1.length / 100 + p.2.length / 300) := by
  unfold wtA
  rw [take_snoc2 h, List.map_append, List.sum_append]; simp
theorem wtA_le (ats : List (List UInt8 × List UInt8)) (o5 : ∀ p ∈ ats, p.1.length ≤ 140737488355328 ∧ p.2.length ≤ 140737488355328) (j : Nat) : wtA (ats.take j) ≤ 1900000000000 * j := by
  induction j with
  | zero => simp [wtA]
  | succ j ih =>
    by_cases h : j < ats.length
    · obtain ⟨p, hp⟩ := get_of h
      rw [wtA_take hp]
      have := o5 p (List.mem_of_getElem? hp)
      omega
    · rw [List.take_of_length_le (by omega)]
      rw [List.take_of_length_le (by omega)] at ih
      omega
set_option maxHeartbeats 8000000 in
set_option maxRecDepth 100000 in
theorem weight_any : ∀ (n : Nd) (c : NC) (d : Nat) (di : Int) (w : World), NdB w w.heap.size n c → okN 140737488355328 n → d ≤ 31 → di = (d : Int) →
    Calls Try.prog 25 #[.agg #[.string (B c.nm), .string (B c.tx), .slice c.A c.na c.ca, .slice c.K c.nk c.ck], .int .i64 di] w (IPost ((wt n d : Nat) : Int) w) := by
  refine Nd.ind ?_
  intro nm tx ats ks IH c d di w h hok hd hdi
  subst hdi
  have htop := wt_top _ hok d hd
  have HTOP := Lib.hid htop
  obtain ⟨e1, e2, hA, cs, hK, hkc, hks⟩ := h.parts
  obtain ⟨o1, o2, o3, o4, o5, o6⟩ := hok.parts
  obtain ⟨nm', tx', A, na, ca, K, nk, ck⟩ := c
  have e1 : nm' = nm := e1
  have e2 : tx' = tx := e2
  subst e1 e2
  have hA : Rd w w.heap.size 2 A na (ats.flatMap prF) := hA
  have hK : Rd w w.heap.size 4 K nk (cs.flatMap NC.cells) := hK
  have hna : ats.length = na := hA.count prF 2 prF_len (by omega)
  have hnk : cs.length = nk := hK.count NC.cells 4 NC.cells_len (by omega)
  rw [hna] at o3
  rw [hkc, hnk] at o4
  have HNA := Lib.hid hna
  have HNK := Lib.hid (hkc.trans hnk)
  have HE : Hid (wt (.mk nm' tx' ats ks) d = if 30 < d ∨ 200 < wk0 nm' tx' ats ks then 1000 else wtL ks (d + 1) (wk0 nm' tx' ats ks + wtA ats)) := by rw [wt]; rfl
  have HW0 : Hid (wk0 nm' tx' ats ks = 1 + na + nk + tx'.length / 300 + nm'.length / 300) := by unfold wk0 Hid; rw [hna, hkc, hnk]
  have HKS := Lib.hid hks
  have HIH := Lib.hid IH
  have HOK := Lib.hid o6
  have HO5 := Lib.hid o5
  have HAL := Lib.hid (fun j => wtA_le ats o5 j)
  have HTK := Lib.hid (fun k (hk : k ∈ ks) => fun (hd1 : d + 1 ≤ 31) => wt_top k (o6 k hk) (d + 1) hd1)
  have HB := Bx.new w ⟨nm', tx', A, na, ca, K, nk, ck⟩
  have hbW := below_alloc w (.cells #[.string (B nm'), .string (B tx'), .slice A na ca, .slice K nk ck] 25)
  clear hna hkc hnk hks IH h hok o5 o6 htop
  by_cases h0 : 30 < d ∨ 200 < wk0 nm' tx' ats ks
  · have HX : Hid (((wt (.mk nm' tx' ats ks) d : Nat) : Int) = 1000) := by rw [HE.out, if_pos h0]; rfl
    rw [HW0.out] at h0
    clear HE
    by_cases h30 : 30 < d
    · go_enter Try.func25, Try.ntmps25
      go_wp2
      go_ret
      exact ⟨ret_int HX.out.symm, hbW⟩
    · have h2 : 200 < 1 + na + nk + tx'.length / 300 + nm'.length / 300 := by omega
      have d1 : decide ((30 : Int) < (d : Int)) = false := by simp; omega
      have d2 : decide ((200 : Int) < 1 + (na : Int) + (nk : Int) + (tx'.length : Int) / 300 + (nm'.length : Int) / 300) = true := by simp; omega
      clear h0 h30
      go_enter Try.func25, Try.ntmps25
      go_wp2
      go_ret
      exact ⟨ret_int HX.out.symm, hbW⟩
  have HE2 : Hid (wt (.mk nm' tx' ats ks) d = wtL ks (d + 1) (wk0 nm' tx' ats ks + wtA ats)) := by rw [HE.out, if_neg h0]; rfl
  have hd30 : d ≤ 30 := by omega
  have hk200 : wk0 nm' tx' ats ks ≤ 200 := by omega
  have hk200' : 1 + na + nk + tx'.length / 300 + nm'.length / 300 ≤ 200 := by rw [← HW0.out]; exact hk200
  have hna200 : na ≤ 200 := by omega
  have d1 : decide ((30 : Int) < (d : Int)) = false := by simp; omega
  have d2 : decide ((200 : Int) < 1 + (na : Int) + (nk : Int) + (tx'.length : Int) / 300 + (nm'.length : Int) / 300) = false := by simp; omega
  have HW1 : Hid ((1 + (na : Int) + (nk : Int) + (tx'.length : Int) / 300 + (nm'.length : Int) / 300) = ((wk0 nm' tx' ats ks : Nat) : Int)) := by rw [HW0.out]; unfold Hid; omega
  clear HE h0
  generalize wk0 nm' tx' ats ks = k0 at *
  go_enter Try.func25, Try.ntmps25
  go_wp2
  rw [HW1.out]
  clear d2
  generalize w.alloc (.cells #[.string (B nm'), .string (B tx'), .slice A na ca, .slice K nk ck] 25) = W at *
  go_loopw [5, 6] (fun k i wr => ∃ j : Nat, j ≤ na ∧ i = .int .i64 j ∧ k = .int .i64 ((k0 + wtA (ats.take j) : Nat) : Int) ∧ Below w.heap.size w wr ∧ Bx wr w.heap.size ⟨nm', tx', A, na, ca, K, nk, ck⟩) (fun _ i _ => na - (intOf i).toNat)
  case atStart => exact ⟨0, Nat.zero_le _, rfl, by simp [wtA], hbW, HB⟩
  case round =>
    obtain ⟨j, hj, rfl, rfl, hbw, HBw⟩ := hrel
    have hws := HBw.lt
    have hbs := hbw.size
    have hal := HAL.out j
    have b2 := HBw.c2
    have b3 := HBw.c3
    by_cases hlt : j < na
    · obtain ⟨p, hp⟩ := get_of (l := ats) (k := j) (by rw [HNA.out]; exact hlt)
      obtain ⟨bb, o, rfl, hbm, hcell⟩ := (hA.below hbw).elem prF 2 prF_len (by omega) hp
      have hpl := HO5.out p (List.mem_of_getElem? hp)
      have HT := Lib.hid (wtA_take hp)
      obtain ⟨k, v⟩ := p
      obtain ⟨hp1, hp2⟩ := hpl
      have hp1 : k.length ≤ 140737488355328 := hp1
      have hp2 : v.length ≤ 140737488355328 := hp2
      have c0 : wr.cell? ⟨bb, o + j * 2, none⟩ = some (.string (B k)) := hcell 0 _ rfl
      have c1 : wr.cell? ⟨bb, o + j * 2 + 1, none⟩ = some (.string (B v)) := hcell 1 _ rfl
      have i1 : (0 : Int) ≤ (j : Int) := by omega
      have i2 : (j : Int) < (na : Int) := by omega
      clear hcell
      generalize wtA (ats.take j) = q at *
      have HN : Hid (((k0 + q : Nat) : Int) + (k.length : Int) / 100 + (v.length : Int) / 300 = ((k0 + wtA (ats.take (j + 1)) : Nat) : Int)) := by rw [HT.out]; unfold Hid; push_cast; omega
      obtain ⟨Q, hQ⟩ : ∃ Q : Int, ((k0 + q : Nat) : Int) = Q := ⟨_, rfl⟩
      have hQ1 : 0 ≤ Q := by omega
      have hQ2 : Q ≤ 400000000000000 := by omega
      rw [hQ] at HN ⊢
      clear hQ
      have t1 : (k.length : Int).tdiv 100 = (k.length : Int) / 100 := Int.tdiv_eq_ediv_of_nonneg (by omega)
      have t2 : (v.length : Int).tdiv 300 = (v.length : Int) / 300 := Int.tdiv_eq_ediv_of_nonneg (by omega)
      have w1 : IntKind.i64.wrap ((k.length : Int) / 100) = (k.length : Int) / 100 := IntWalk.i64_in _ (by omega)
      have w2 : IntKind.i64.wrap ((v.length : Int) / 300) = (v.length : Int) / 300 := IntWalk.i64_in _ (by omega)
      have w3 : IntKind.i64.wrap (Q + (k.length : Int) / 100) = Q + (k.length : Int) / 100 := IntWalk.i64_in _ (by omega)
      have w4 : IntKind.i64.wrap (Q + (k.length : Int) / 100 + (v.length : Int) / 300) = Q + (k.length : Int) / 100 + (v.length : Int) / 300 := IntWalk.i64_in _ (by omega)
      go_wp2
      go_quiet (fail)
      clear w1 w2 w3 w4 t1 t2
      go_wp2
      go_roundw
      case rel => exact ⟨j + 1, by omega, by go_num, by rw [← HN.out], below_drewN hbw _, HBw⟩
      case measure => simp [intOf]; omega
    · have HF : Hid (k0 + wtA (ats.take j) = k0 + wtA ats) := by rw [List.take_of_length_le (by rw [HNA.out]; omega)]; rfl
      have hfa : k0 + wtA ats ≤ 400000000000000 := by rw [← HF.out]; omega
      rw [HF.out]
      have HR0 : Hid (wt (.mk nm' tx' ats ks) d = wtL (ks.drop 0) (d + 1) (k0 + wtA ats)) := HE2
      generalize k0 + wtA ats = q0 at *
      clear HE2
      go_wp2
      rename World => wo
      clear b2 b3
      go_loopw [5, 7] (fun k i wr => ∃ j q : Nat, j ≤ nk ∧ i = .int .i64 j ∧ k = .int .i64 (q : Int) ∧ q ≤ 2251799813685248 ∧ Below w.heap.size w wr ∧ Bx wr w.heap.size ⟨nm', tx', A, na, ca, K, nk, ck⟩ ∧ Hid (wt (.mk nm' tx' ats ks) d = wtL (ks.drop j) (d + 1) q)) (fun _ i _ => nk - (intOf i).toNat)
      case atStart => exact ⟨0, q0, Nat.zero_le _, rfl, rfl, by omega, hbw, HBw, HR0⟩
      case round =>
        obtain ⟨t, q, ht, rfl, rfl, hq, hbw, HBw, hr⟩ := hrel
        have hws := HBw.lt
        have hbs := hbw.size
        have b3 := HBw.c3
        by_cases hlt2 : t < nk
        · obtain ⟨kd, hkd⟩ := get_of (l := ks) (k := t) (by rw [HNK.out]; exact hlt2)
          have HR : Hid (wt (.mk nm' tx' ats ks) d = if q < 1000 then wtL (ks.drop (t + 1)) (d + 1) (q + wt kd (d + 1)) else q) := by rw [hr.out, drop_get hkd, wtL]; rfl
          clear hr
          by_cases hq1 : q < 1000
          · obtain ⟨kc, hkc, hkn⟩ := HKS.out t kd hkd
            obtain ⟨bb, o, rfl, hbm, hcell⟩ := (hK.below hbw).elem NC.cells 4 NC.cells_len (by omega) hkc
            have hmm := List.mem_of_getElem? hkd
            have htk := HTK.out kd hmm (by omega)
            have HR2 : Hid (wt (.mk nm' tx' ats ks) d = wtL (ks.drop (t + 1)) (d + 1) (q + wt kd (d + 1))) := by rw [HR.out, if_pos hq1]; rfl
            have g0 : wr.cell? ⟨bb, o + t * 4, none⟩ = some (.string (B kc.nm)) := hcell 0 _ rfl
            have g1 : wr.cell? ⟨bb, o + t * 4 + 1, none⟩ = some (.string (B kc.tx)) := hcell 1 _ rfl
            have g2 : wr.cell? ⟨bb, o + t * 4 + 2, none⟩ = some (.slice kc.A kc.na kc.ca) := hcell 2 _ rfl
            have g3 : wr.cell? ⟨bb, o + t * 4 + 3, none⟩ = some (.slice kc.K kc.nk kc.ck) := hcell 3 _ rfl
            have hkB := (hkn.below hbw).more hbs
            have C := Lib.hid (HIH.out kd hmm kc (d + 1) ((d : Int) + 1) wr hkB (HOK.out kd hmm) (by omega) (by omega))
            clear hcell hkB HR
            generalize wt kd (d + 1) = wk at *
            go_wp2_with fail
            refine C.out.mono ?_
            rintro e w5 ⟨rfl, hb5⟩
            have hB6 := hbw.trans (hb5.mono hbs)
            have HB6 := HBw.below hb5 HBw.lt
            clear C
            go_wp2
            go_roundw
            case rel => exact ⟨t + 1, q + wk, by omega, by go_num, by go_num, by omega, hB6, HB6, HR2⟩
            case measure => simp [intOf]; omega
          · have HX : Hid ((q : Int) = ((wt (.mk nm' tx' ats ks) d : Nat) : Int)) := by rw [HR.out, if_neg hq1]; rfl
            have dq : decide ((q : Int) < 1000) = false := by simp; omega
            clear HR
            go_wp2
            go_ret
            exact ⟨ret_int HX.out, hbw⟩
        · have HX : Hid ((q : Int) = ((wt (.mk nm' tx' ats ks) d : Nat) : Int)) := by rw [hr.out, List.drop_of_length_le (by rw [HNK.out]; omega), wtL]; rfl
          go_wp2
          go_ret
          exact ⟨ret_int HX.out, hbw⟩
def smallB (n : Nd) : Bool := decide (wt n 0 ≤ 200)
theorem small_sz {n : Nd} (h : smallB n = true) : szN n ≤ 500000 := by
  have h : wt n 0 ≤ 200 := of_decide_eq_true h
  have := wt_sz n 0 h
  omega
set_option maxHeartbeats 1000000 in
set_option maxRecDepth 100000 in
theorem small_any (n : Nd) (c : NC) (w : World) (h : NdB w w.heap.size n c) (hok : okN 140737488355328 n) :
    Calls Try.prog 9 #[.agg #[.string (B c.nm), .string (B c.tx), .slice c.A c.na c.ca, .slice c.K c.nk c.ck]] w (BPost (smallB n) w) := by
  have hbW := below_alloc w (.cells #[.string (B c.nm), .string (B c.tx), .slice c.A c.na c.ca, .slice c.K c.nk c.ck] 25)
  have C := Lib.hid (weight_any n c 0 0 _ ((h.below hbW).more hbW.size) hok (by omega) rfl)
  have HS : Hid (smallB n = decide (wt n 0 ≤ 200)) := rfl
  generalize wt n 0 = k at *
  go_enter Try.func9, Try.ntmps9
  go_wp2_with fail
  refine C.out.mono ?_
  rintro e w1 ⟨rfl, hb1⟩
  clear C
  go_wp2
  all_goals
    go_ret
    refine ⟨ret_bool ?_, hbW.trans (hb1.mono hbW.size)⟩
    rw [HS.out, Bool.eq_iff_iff]
    simp only [decide_eq_true_eq]
    omega
end Go.Proofs.Ytlhkpkjcecjomaa
