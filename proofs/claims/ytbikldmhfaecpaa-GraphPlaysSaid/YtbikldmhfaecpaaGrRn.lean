/-
  Layer 48 (graph), the reference: Stale.
-/
import Derived.Test.YtbikldmhfaecpaaGrRm
import Derived.Test.YtbikldmhfaecpaaGrJ
namespace Go.Proofs.Ytbikldmhfaecpaa
open Go.RowKit
set_option linter.unusedVariables false
set_option linter.unusedSimpArgs false
attribute [local go_sem] B_data B_size

theorem Rd.cut {w : World} {M n k cap : Nat} {A : Option Addr} {xs : List Nm} (h : Rd w M 1 A n (strs xs)) (hk : k ≤ n) (hc : n ≤ cap) : Rd w M 1 (if cap = k then A else A.map (·.add k)) (n - k) (strs (xs.drop k)) := by
  have hl := h.strs_length
  refine ⟨by rw [strs_len, List.length_drop, hl, Nat.mul_one], fun hn => ?_⟩
  obtain ⟨ad, rfl, hb, hcell⟩ := h.2 (by omega)
  rw [if_neg (by omega)]
  refine ⟨ad.add k, rfl, by rw [addr_block]; exact hb, fun j u hu => ?_⟩
  rw [addr_add]
  refine hcell (k + j) u ?_
  unfold strs at hu ⊢
  rw [List.map_drop, List.getElem?_drop] at hu
  exact hu
theorem Rd.take {w : World} {M n k : Nat} {A : Option Addr} {xs : List Nm} (h : Rd w M 1 A n (strs xs)) (hk : k ≤ n) : Rd w M 1 A k (strs (xs.take k)) := by
  have hl := h.strs_length
  refine ⟨by rw [strs_len, List.length_take, hl, Nat.mul_one]; exact Nat.min_eq_left hk, fun hn => ?_⟩
  obtain ⟨ad, rfl, hb, hcell⟩ := h.2 (by omega)
  refine ⟨ad, rfl, hb, fun j u hu => hcell j u ?_⟩
  unfold strs at hu ⊢
  rw [List.map_take, List.getElem?_take] at hu
  split at hu
  · exact hu
  · cases hu
def insN (x : Nm) : List Nm → List Nm
  | [] => [x]
  | a :: r => if a < x then a :: insN x r else x :: a :: r
theorem insN_eq (x : Nm) : ∀ (l : List Nm) (k : Nat), (∀ a ∈ l.take k, a < x) → (∀ b, l[k]? = some b → ¬ b < x) → k ≤ l.length → insN x l = l.take k ++ x :: l.drop k
  | [], k, _, _, h => by simp at h; subst h; rfl
  | a :: r, 0, _, h, _ => by
    have := h a rfl
    rw [insN, if_neg this]; rfl
  | a :: r, k + 1, h1, h2, h3 => by
    have ha := h1 a (by simp)
    rw [insN, if_pos ha, insN_eq x r k (fun b hb => h1 b (by simp [hb])) (fun b hb => h2 b (by simpa using hb)) (by simpa using h3)]
    rfl
theorem own_lt_ne {w : World} {base e sz n : Nat} {v : Value} {xs : List Value} (h : w.ownsRow base e sz v n xs) {k c : Nat} : v.ownBlock = none ∨ v.ownBlock ≠ (Value.slice (some ⟨w.heap.size, 0, none⟩) k c).ownBlock := by
  cases hb : v.ownBlock with
  | none => exact .inl rfl
  | some b => exact .inr (fun e => by have h1 := (h.lt b hb).2; have e : some b = some w.heap.size := e; injection e with e; omega)
def stIns (acc : List Nm) (v : VM) : List Nm := if v.rule = true ∧ v.fresh = false then insN v.nm acc else acc
def staleR (L : List VM) : List Nm := L.foldl stIns []
theorem insN_len (x : Nm) : ∀ l : List Nm, (insN x l).length = l.length + 1
  | [] => rfl
  | a :: r => by
    rw [insN]
    split
    · rw [List.length_cons, insN_len x r]; rfl
    · rfl
theorem staleR_snoc (L : List VM) (v : VM) : staleR (L ++ [v]) = stIns (staleR L) v := by unfold staleR; rw [List.foldl_append]; rfl
theorem staleR_len (L : List VM) : ∀ acc : List Nm, (L.foldl stIns acc).length ≤ acc.length + L.length := by
  induction L with
  | nil => intro acc; simp
  | cons v r ih =>
    intro acc
    have := ih (stIns acc v)
    rw [List.foldl_cons]
    have h2 : (stIns acc v).length ≤ acc.length + 1 := by unfold stIns; split; rw [insN_len]; exact Nat.le_refl _; exact Nat.le_succ _
    simp only [List.length_cons]; omega
set_option maxHeartbeats 16000000 in
set_option maxRecDepth 100000 in
theorem rstl_any {rb c N : Nat} {A : Option Addr} {L : List VM} {w0 : World} {X : Nat → Prop} (w : World) (h : RG rb A c L N w0 w X) (hl : L.length ≤ 5000) :
    Calls Try.prog 23 #[.pointer (some ⟨rb, 0, none⟩)] w fun e w' => ∃ v, e = .returned v ∧ TRow w' w.heap.size v (staleR L) ∧ Below w.heap.size w w' := by
  obtain ⟨m, hm⟩ : ∃ m, L.length = m := ⟨_, rfl⟩
  have HM := Lib.hid hm
  have H := Lib.hid h
  rw [hm] at hl
  clear hm h
  go_enter Try.func23, Try.ntmps23
  go_wp2
  go_loopw [3, 4, 5, 6] (fun v3 v4 _ _ wr => ∃ i : Nat, v4 = .int .i64 i ∧ i ≤ m ∧ Below w.heap.size w wr ∧ TRow wr w.heap.size v3 (staleR (L.take i))) (fun _ i _ _ _ => m - (intOf i).toNat)
  case atStart => exact ⟨0, rfl, Nat.zero_le _, Below.refl _ _, World.ownsRow_nil _ _ _ _⟩
  case round =>
    obtain ⟨i, rfl, hi, hbw, ho⟩ := hrel
    have hR := H.out.below hbw
    have k0 := hR.h0
    rw [HM.out] at k0
    by_cases hlt : i < m
    · obtain ⟨v, hv⟩ := get_of (l := L) (k := i) (by rw [HM.out]; exact hlt)
      obtain ⟨g, rfl, hg, c0, c1, c2, c3, c4, c5, c6, c7, c8, c9⟩ := hR.at10 hv
      clear c2 c3 c4 c5 c6 c7 c8
      have i1 : (0 : Int) ≤ (i : Int) := by omega
      have i2 : (i : Int) < (m : Int) := by omega
      have HNX : Hid (staleR (L.take (i + 1)) = stIns (staleR (L.take i)) v) := Lib.hid (by rw [take_one hv, staleR_snoc])
      have HB := Lib.hid hbw
      have HO := Lib.hid ho
      have hlen : (staleR (L.take i)).length ≤ i := by
        have := staleR_len (L.take i) []
        rw [List.length_take, HM.out] at this
        unfold staleR; simp at this ⊢; omega
      have HHR := Lib.hid (fun (W : World) (hW : Below w.heap.size w W) => H.out.below hW)
      have HV := Lib.hid hv
      clear hbw ho hR hv
      by_cases hc : v.rule = true ∧ v.fresh = false
      · obtain ⟨q1, q2⟩ := hc
        rw [q1] at c1
        rw [q2] at c9
        have HNX2 : Hid (staleR (L.take (i + 1)) = insN v.nm (staleR (L.take i))) := Lib.hid (by rw [HNX.out]; unfold stIns; rw [if_pos ⟨q1, q2⟩])
        clear HNX q1 q2
        generalize staleR (L.take i) = acc at *
        obtain ⟨q, hq⟩ : ∃ q, acc.length = q := ⟨_, rfl⟩
        obtain ⟨A2, d2, rfl, hd2⟩ := own_form HO.out
        have ho' := HO.out
        unfold TRow at ho'
        rw [hq] at ho' hlen hd2 ⊢
        have HQ := Lib.hid hq
        have HO2 := Lib.hid ho'
        clear ho' hq HO
        go_wp2
        go_loopw [5] (fun v5 wr => ∃ k : Nat, v5 = .int .i64 k ∧ k ≤ q ∧ Below w.heap.size w wr ∧ wr.ownsRow w.heap.size 9 1 (.slice A2 q d2) q (strs acc) ∧ Hid (∀ a ∈ acc.take k, a < v.nm)) (fun k _ => q - (intOf k).toNat)
        case atStart => exact ⟨0, rfl, Nat.zero_le _, HB.out, HO2.out, Lib.hid (fun a ha => by simp at ha)⟩
        case round =>
          obtain ⟨k, rfl, hk, hbw, ho, hall⟩ := hrel
          by_cases hlt2 : k < q
          · obtain ⟨x, hx⟩ := get_of (l := acc) (k := k) (by rw [HQ.out]; exact hlt2)
            obtain ⟨g2, o2, rfl, hg2, e0⟩ := (Rd.of_own ho).strk hx
            have i3 : (0 : Int) ≤ (k : Int) := by omega
            have i4 : (k : Int) < (q : Int) := by omega
            have hR2 := HHR.out _ hbw
            have k02 := hR2.h0
            rw [HM.out] at k02
            obtain ⟨g', hgg, _, c0', _⟩ := hR2.at10 HV.out
            injection hgg with hgg; injection hgg with hgg
            subst hgg
            by_cases hlx : x < v.nm
            · have x1 : Op.bytesLess x v.nm = true := by rw [bytesLess_eq]; exact decide_eq_true hlx
              have HAL := Lib.hid (all_take hall.out hlx hx)
              have HBW := Lib.hid hbw
              have HOW := Lib.hid ho
              clear hbw ho hall hx hlx hR2
              go_wp2_with fail
              go_quiet (fail)
              go_wp2
              go_roundw
              case rel => exact ⟨k + 1, by go_num, by omega, below_dn HBW.out _, own_below HOW.out (below_dn (Below.refl _ _) _), HAL⟩
              case measure => simp [intOf]; omega
            · have x1 : Op.bytesLess x v.nm = false := by rw [bytesLess_eq]; exact decide_eq_false hlx
              have HINS : Hid (insN v.nm acc = acc.take k ++ v.nm :: acc.drop k) := Lib.hid (insN_eq v.nm acc k hall.out (fun b hb => by rw [hx] at hb; injection hb with hb; rw [← hb]; exact hlx) (by rw [HQ.out]; omega))
              have HBW := Lib.hid hbw
              have HOW := Lib.hid ho
              clear hbw ho hall hx hlx hR2
              go_wp2_with fail
              go_quiet (fail)
              have HBT := Lib.hid (below_dn HBW.out nq)
              have HRT := Lib.hid (own_below HOW.out (below_dn (Below.refl _ _) nq))
              have hszT := HBT.out.size
              have j1 : (0 : Int) ≤ (k : Int) := by omega
              have j2 : (k : Int) ≤ (q : Int) := by omega
              have j3 : (k : Int) ≤ (d2 : Int) := by omega
              have j4 : k ≤ d2 := by omega
              go_wp2_with (refine wpList_appT rfl (.tmp 59) (.tmp 62) rfl _ (wr.drewN nq).heap.size (wr.drewN nq).heap.size _ 0 [] (lit_ownT (wr.drewN nq) (wr.drewN nq).heap.size (Nat.le_refl _)) _ k _ (acc.take k) (((Rd.of_own HRT.out).below (below_alloc _ _)).take (by omega)) (by omega) (by omega) (below_alloc _ _).size rfl rfl ?_)
              intro A5 c5 w5 ho5 hb5 hg5
              have ho5 : w5.ownsRow (wr.drewN nq).heap.size 9 1 (.slice A5 k c5) k (strs (acc.take k)) := by simpa using ho5
              have HO5 := Lib.hid ho5
              have HB5 : Hid (Below w.heap.size w w5) := Lib.hid (HBT.out.trans (((below_alloc (wr.drewN nq) (.cells #[] 9)).trans hb5).mono hszT))
              have hs5 : (wr.drewN nq).heap.size ≤ w5.heap.size := Nat.le_trans (below_alloc (wr.drewN nq) (.cells #[] 9)).size hb5.size
              have HR5 : Hid (w5.ownsRow w.heap.size 9 1 (.slice (some ⟨g2, o2, none⟩) q d2) q (strs acc)) := Lib.hid ((HRT.out.alloc _).kept hg5 (own_lt_ne HRT.out))
              have HL5 := Lib.hid (fun b (hb : (Value.slice (some ⟨g2, o2, none⟩) q d2).ownBlock = some b) => (HRT.out.lt b hb).2)
              have hR5 := HHR.out _ HB5.out
              have k05 := hR5.h0
              rw [HM.out] at k05
              obtain ⟨g', hgg, _, c05, _⟩ := hR5.at10 HV.out
              injection hgg with hgg; injection hgg with hgg
              subst hgg
              clear ho5 hb5 hg5 hR5
              go_wp2_with (refine wpList_appL rfl (.tmp 64) (.tmp 73) rfl w5 v.nm (wr.drewN nq).heap.size _ k (acc.take k) HO5.out rfl rfl (by omega) hs5 ?_)
              intro g6 cap6 w6 ho6 hg6 hb6 hl6
              have HO6 := Lib.hid ho6
              have hs6 : (wr.drewN nq).heap.size ≤ w6.heap.size := Nat.le_trans hs5 hb6.size
              have HB6 : Hid (Below w.heap.size w w6) := Lib.hid (HB5.out.trans (hb6.mono hszT))
              have HR6 : Hid (w6.ownsRow w.heap.size 9 1 (.slice (some ⟨g2, o2, none⟩) q d2) q (strs acc)) := Lib.hid (HR5.out.kept hg6 (by
                cases hb : (Value.slice (some ⟨g2, o2, none⟩) q d2).ownBlock with
                | none => exact .inl rfl
                | some b =>
                  refine .inr (fun e => ?_)
                  have h1 := HL5.out b hb
                  have h2 := (HO5.out.lt b e.symm).1
                  omega))
              have hcut := (Rd.of_own HR6.out).cut (k := k) (cap := d2) (by omega) hd2
              simp only [Option.map_some, Option.map_none, addr_lit] at hcut
              rw [if_neg (show ¬ d2 = k by omega)] at hcut
              have HCUT := Lib.hid hcut
              clear ho6 hg6 hb6 hl6 hcut c05 k05
              go_wp2_with (refine wpList_appT rfl (.tmp 75) (.tmp 78) rfl w6 (wr.drewN nq).heap.size w6.heap.size _ (k + 1) (acc.take k ++ [v.nm]) HO6.out _ (q - k) _ (acc.drop k) HCUT.out (by omega) (by omega) hs6 rfl rfl ?_)
              intro A7 c7 w7 ho7 hb7 _
              have HO7 : Hid (TRow w7 w.heap.size (.slice A7 (k + 1 + (q - k)) c7) (insN v.nm acc)) := Lib.hid (by
                have hll : (insN v.nm acc).length = k + 1 + (q - k) := by have := HQ.out; rw [insN_len]; omega
                unfold TRow
                rw [hll, HINS.out]
                have := own_more ho7 hszT
                simpa using this)
              have HB7 : Hid (Below w.heap.size w w7) := Lib.hid (HB6.out.trans (hb7.mono hszT))
              clear ho7 hb7
              go_wp2
              go_roundw
              case rel => exact ⟨i + 1, by go_num, by omega, HB7.out, by rw [HNX2.out]; exact HO7.out⟩
              case measure => simp [intOf]; omega
          · obtain rfl : k = q := by omega
            have HINS : Hid (insN v.nm acc = acc.take k ++ v.nm :: acc.drop k) := Lib.hid (insN_eq v.nm acc k hall.out (fun b hb => by have := (List.getElem?_eq_some_iff.1 hb).1; rw [HQ.out] at this; omega) (by rw [HQ.out]; exact Nat.le_refl _))
            have HBW := Lib.hid hbw
            have HOW := Lib.hid ho
            clear hbw ho hall
            have hd0 : decide ((k : Int) < (k : Int)) = false := by simp
            cases A2 with
            | none =>
              have hk0 : k = 0 := by
                rcases HOW.out.2 with ⟨_, h0⟩ | ⟨_, _, _, h0, _⟩
                · exact h0
                · cases h0
              have hd20 : d2 = 0 := by
                rcases HOW.out.2 with ⟨h0, _⟩ | ⟨_, _, _, h0, _⟩
                · injection h0
                · cases h0
              subst hk0
              subst hd20
              go_wp2_with fail
              go_quiet (fail)
              have HBT := Lib.hid (below_dn HBW.out nq)
              have HRT := Lib.hid (own_below HOW.out (below_dn (Below.refl _ _) nq))
              have hszT := HBT.out.size
              have j1 : (0 : Int) ≤ (0 : Int) := by omega
              have j2 : (0 : Int) ≤ (0 : Int) := by omega
              have j3 : (0 : Int) ≤ (0 : Int) := by omega
              have j4 : 0 ≤ 0 := by omega
              go_wp2_with (refine wpList_appT rfl (.tmp 59) (.tmp 62) rfl _ (wr.drewN nq).heap.size (wr.drewN nq).heap.size _ 0 [] (lit_ownT (wr.drewN nq) (wr.drewN nq).heap.size (Nat.le_refl _)) _ 0 _ (acc.take 0) (((Rd.of_own HRT.out).below (below_alloc _ _)).take (by omega)) (by omega) (by omega) (below_alloc _ _).size rfl rfl ?_)
              intro A5 c5 w5 ho5 hb5 hg5
              have ho5 : w5.ownsRow (wr.drewN nq).heap.size 9 1 (.slice A5 0 c5) 0 (strs (acc.take 0)) := by simpa using ho5
              have HO5 := Lib.hid ho5
              have HB5 : Hid (Below w.heap.size w w5) := Lib.hid (HBT.out.trans (((below_alloc (wr.drewN nq) (.cells #[] 9)).trans hb5).mono hszT))
              have hs5 : (wr.drewN nq).heap.size ≤ w5.heap.size := Nat.le_trans (below_alloc (wr.drewN nq) (.cells #[] 9)).size hb5.size
              have HR5 : Hid (w5.ownsRow w.heap.size 9 1 (.slice none 0 0) 0 (strs acc)) := Lib.hid ((HRT.out.alloc _).kept hg5 (own_lt_ne HRT.out))
              have HL5 := Lib.hid (fun b (hb : (Value.slice none 0 0).ownBlock = some b) => (HRT.out.lt b hb).2)
              have hR5 := HHR.out _ HB5.out
              have k05 := hR5.h0
              rw [HM.out] at k05
              obtain ⟨g', hgg, _, c05, _⟩ := hR5.at10 HV.out
              injection hgg with hgg; injection hgg with hgg
              subst hgg
              clear ho5 hb5 hg5 hR5
              go_wp2_with (refine wpList_appL rfl (.tmp 64) (.tmp 73) rfl w5 v.nm (wr.drewN nq).heap.size _ 0 (acc.take 0) HO5.out rfl rfl (by omega) hs5 ?_)
              intro g6 cap6 w6 ho6 hg6 hb6 hl6
              have HO6 := Lib.hid ho6
              have hs6 : (wr.drewN nq).heap.size ≤ w6.heap.size := Nat.le_trans hs5 hb6.size
              have HB6 : Hid (Below w.heap.size w w6) := Lib.hid (HB5.out.trans (hb6.mono hszT))
              have HR6 : Hid (w6.ownsRow w.heap.size 9 1 (.slice none 0 0) 0 (strs acc)) := Lib.hid (HR5.out.kept hg6 (by
                cases hb : (Value.slice none 0 0).ownBlock with
                | none => exact .inl rfl
                | some b =>
                  refine .inr (fun e => ?_)
                  have h1 := HL5.out b hb
                  have h2 := (HO5.out.lt b e.symm).1
                  omega))
              have hcut := (Rd.of_own HR6.out).cut (k := 0) (cap := 0) (by omega) hd2
              simp only [Option.map_some, Option.map_none, addr_lit] at hcut
              simp only [ite_self] at hcut
              have HCUT := Lib.hid hcut
              clear ho6 hg6 hb6 hl6 hcut c05 k05
              go_wp2_with (refine wpList_appT rfl (.tmp 75) (.tmp 78) rfl w6 (wr.drewN nq).heap.size w6.heap.size _ (0 + 1) (acc.take 0 ++ [v.nm]) HO6.out _ (0 - 0) _ (acc.drop 0) HCUT.out (by omega) (by omega) hs6 rfl rfl ?_)
              intro A7 c7 w7 ho7 hb7 _
              have HO7 : Hid (TRow w7 w.heap.size (.slice A7 (0 + 1 + (0 - 0)) c7) (insN v.nm acc)) := Lib.hid (by
                have hll : (insN v.nm acc).length = 0 + 1 + (0 - 0) := by have := HQ.out; rw [insN_len]; omega
                unfold TRow
                rw [hll, HINS.out]
                have := own_more ho7 hszT
                simpa using this)
              have HB7 : Hid (Below w.heap.size w w7) := Lib.hid (HB6.out.trans (hb7.mono hszT))
              clear ho7 hb7
              go_wp2
              go_roundw
              case rel => exact ⟨i + 1, by go_num, by omega, HB7.out, by rw [HNX2.out]; exact HO7.out⟩
              case measure => simp [intOf]; omega
            | some ad =>
              obtain ⟨g2, o2, rfl⟩ : ∃ g2 o2, ad = ⟨g2, o2, none⟩ := by
                rcases HOW.out.2 with ⟨h0, _⟩ | ⟨g', _, _, h0, _⟩
                · cases h0
                · injection h0 with h0; injection h0 with h0
                  exact ⟨g', 0, h0⟩
              by_cases hdk : d2 = k
              · go_wp2_with fail
                go_quiet (fail)
                have HBT := Lib.hid (below_dn HBW.out nq)
                have HRT := Lib.hid (own_below HOW.out (below_dn (Below.refl _ _) nq))
                have hszT := HBT.out.size
                have j1 : (0 : Int) ≤ (k : Int) := by omega
                have j2 : (k : Int) ≤ (k : Int) := by omega
                have j3 : (k : Int) ≤ (d2 : Int) := by omega
                have j4 : k ≤ d2 := by omega
                go_wp2_with (refine wpList_appT rfl (.tmp 59) (.tmp 62) rfl _ (wr.drewN nq).heap.size (wr.drewN nq).heap.size _ 0 [] (lit_ownT (wr.drewN nq) (wr.drewN nq).heap.size (Nat.le_refl _)) _ k _ (acc.take k) (((Rd.of_own HRT.out).below (below_alloc _ _)).take (by omega)) (by omega) (by omega) (below_alloc _ _).size rfl rfl ?_)
                intro A5 c5 w5 ho5 hb5 hg5
                have ho5 : w5.ownsRow (wr.drewN nq).heap.size 9 1 (.slice A5 k c5) k (strs (acc.take k)) := by simpa using ho5
                have HO5 := Lib.hid ho5
                have HB5 : Hid (Below w.heap.size w w5) := Lib.hid (HBT.out.trans (((below_alloc (wr.drewN nq) (.cells #[] 9)).trans hb5).mono hszT))
                have hs5 : (wr.drewN nq).heap.size ≤ w5.heap.size := Nat.le_trans (below_alloc (wr.drewN nq) (.cells #[] 9)).size hb5.size
                have HR5 : Hid (w5.ownsRow w.heap.size 9 1 (.slice (some ⟨g2, o2, none⟩) k d2) k (strs acc)) := Lib.hid ((HRT.out.alloc _).kept hg5 (own_lt_ne HRT.out))
                have HL5 := Lib.hid (fun b (hb : (Value.slice (some ⟨g2, o2, none⟩) k d2).ownBlock = some b) => (HRT.out.lt b hb).2)
                have hR5 := HHR.out _ HB5.out
                have k05 := hR5.h0
                rw [HM.out] at k05
                obtain ⟨g', hgg, _, c05, _⟩ := hR5.at10 HV.out
                injection hgg with hgg; injection hgg with hgg
                subst hgg
                clear ho5 hb5 hg5 hR5
                go_wp2_with (refine wpList_appL rfl (.tmp 64) (.tmp 73) rfl w5 v.nm (wr.drewN nq).heap.size _ k (acc.take k) HO5.out rfl rfl (by omega) hs5 ?_)
                intro g6 cap6 w6 ho6 hg6 hb6 hl6
                have HO6 := Lib.hid ho6
                have hs6 : (wr.drewN nq).heap.size ≤ w6.heap.size := Nat.le_trans hs5 hb6.size
                have HB6 : Hid (Below w.heap.size w w6) := Lib.hid (HB5.out.trans (hb6.mono hszT))
                have HR6 : Hid (w6.ownsRow w.heap.size 9 1 (.slice (some ⟨g2, o2, none⟩) k d2) k (strs acc)) := Lib.hid (HR5.out.kept hg6 (by
                  cases hb : (Value.slice (some ⟨g2, o2, none⟩) k d2).ownBlock with
                  | none => exact .inl rfl
                  | some b =>
                    refine .inr (fun e => ?_)
                    have h1 := HL5.out b hb
                    have h2 := (HO5.out.lt b e.symm).1
                    omega))
                have hcut := (Rd.of_own HR6.out).cut (k := k) (cap := d2) (by omega) hd2
                simp only [Option.map_some, Option.map_none, addr_lit] at hcut
                rw [if_pos hdk, Nat.sub_self] at hcut
                have HCUT := Lib.hid hcut
                clear ho6 hg6 hb6 hl6 hcut c05 k05
                go_wp2_with (refine wpList_appT rfl (.tmp 75) (.tmp 78) rfl w6 (wr.drewN nq).heap.size w6.heap.size _ (k + 1) (acc.take k ++ [v.nm]) HO6.out _ 0 _ (acc.drop k) HCUT.out (by omega) (by omega) hs6 rfl rfl ?_)
                intro A7 c7 w7 ho7 hb7 _
                have HO7 : Hid (TRow w7 w.heap.size (.slice A7 (k + 1 + 0) c7) (insN v.nm acc)) := Lib.hid (by
                  have hll : (insN v.nm acc).length = k + 1 + 0 := by have := HQ.out; rw [insN_len]; omega
                  unfold TRow
                  rw [hll, HINS.out]
                  have := own_more ho7 hszT
                  simpa using this)
                have HB7 : Hid (Below w.heap.size w w7) := Lib.hid (HB6.out.trans (hb7.mono hszT))
                clear ho7 hb7
                go_wp2
                go_roundw
                case rel => exact ⟨i + 1, by go_num, by omega, HB7.out, by rw [HNX2.out]; exact HO7.out⟩
                case measure => simp [intOf]; omega
              · go_wp2_with fail
                go_quiet (fail)
                have HBT := Lib.hid (below_dn HBW.out nq)
                have HRT := Lib.hid (own_below HOW.out (below_dn (Below.refl _ _) nq))
                have hszT := HBT.out.size
                have j1 : (0 : Int) ≤ (k : Int) := by omega
                have j2 : (k : Int) ≤ (k : Int) := by omega
                have j3 : (k : Int) ≤ (d2 : Int) := by omega
                have j4 : k ≤ d2 := by omega
                go_wp2_with (refine wpList_appT rfl (.tmp 59) (.tmp 62) rfl _ (wr.drewN nq).heap.size (wr.drewN nq).heap.size _ 0 [] (lit_ownT (wr.drewN nq) (wr.drewN nq).heap.size (Nat.le_refl _)) _ k _ (acc.take k) (((Rd.of_own HRT.out).below (below_alloc _ _)).take (by omega)) (by omega) (by omega) (below_alloc _ _).size rfl rfl ?_)
                intro A5 c5 w5 ho5 hb5 hg5
                have ho5 : w5.ownsRow (wr.drewN nq).heap.size 9 1 (.slice A5 k c5) k (strs (acc.take k)) := by simpa using ho5
                have HO5 := Lib.hid ho5
                have HB5 : Hid (Below w.heap.size w w5) := Lib.hid (HBT.out.trans (((below_alloc (wr.drewN nq) (.cells #[] 9)).trans hb5).mono hszT))
                have hs5 : (wr.drewN nq).heap.size ≤ w5.heap.size := Nat.le_trans (below_alloc (wr.drewN nq) (.cells #[] 9)).size hb5.size
                have HR5 : Hid (w5.ownsRow w.heap.size 9 1 (.slice (some ⟨g2, o2, none⟩) k d2) k (strs acc)) := Lib.hid ((HRT.out.alloc _).kept hg5 (own_lt_ne HRT.out))
                have HL5 := Lib.hid (fun b (hb : (Value.slice (some ⟨g2, o2, none⟩) k d2).ownBlock = some b) => (HRT.out.lt b hb).2)
                have hR5 := HHR.out _ HB5.out
                have k05 := hR5.h0
                rw [HM.out] at k05
                obtain ⟨g', hgg, _, c05, _⟩ := hR5.at10 HV.out
                injection hgg with hgg; injection hgg with hgg
                subst hgg
                clear ho5 hb5 hg5 hR5
                go_wp2_with (refine wpList_appL rfl (.tmp 64) (.tmp 73) rfl w5 v.nm (wr.drewN nq).heap.size _ k (acc.take k) HO5.out rfl rfl (by omega) hs5 ?_)
                intro g6 cap6 w6 ho6 hg6 hb6 hl6
                have HO6 := Lib.hid ho6
                have hs6 : (wr.drewN nq).heap.size ≤ w6.heap.size := Nat.le_trans hs5 hb6.size
                have HB6 : Hid (Below w.heap.size w w6) := Lib.hid (HB5.out.trans (hb6.mono hszT))
                have HR6 : Hid (w6.ownsRow w.heap.size 9 1 (.slice (some ⟨g2, o2, none⟩) k d2) k (strs acc)) := Lib.hid (HR5.out.kept hg6 (by
                  cases hb : (Value.slice (some ⟨g2, o2, none⟩) k d2).ownBlock with
                  | none => exact .inl rfl
                  | some b =>
                    refine .inr (fun e => ?_)
                    have h1 := HL5.out b hb
                    have h2 := (HO5.out.lt b e.symm).1
                    omega))
                have hcut := (Rd.of_own HR6.out).cut (k := k) (cap := d2) (by omega) hd2
                simp only [Option.map_some, Option.map_none, addr_lit] at hcut
                rw [if_neg hdk, Nat.sub_self] at hcut
                have HCUT := Lib.hid hcut
                clear ho6 hg6 hb6 hl6 hcut c05 k05
                go_wp2_with (refine wpList_appT rfl (.tmp 75) (.tmp 78) rfl w6 (wr.drewN nq).heap.size w6.heap.size _ (k + 1) (acc.take k ++ [v.nm]) HO6.out _ 0 _ (acc.drop k) HCUT.out (by omega) (by omega) hs6 rfl rfl ?_)
                intro A7 c7 w7 ho7 hb7 _
                have HO7 : Hid (TRow w7 w.heap.size (.slice A7 (k + 1 + 0) c7) (insN v.nm acc)) := Lib.hid (by
                  have hll : (insN v.nm acc).length = k + 1 + 0 := by have := HQ.out; rw [insN_len]; omega
                  unfold TRow
                  rw [hll, HINS.out]
                  have := own_more ho7 hszT
                  simpa using this)
                have HB7 : Hid (Below w.heap.size w w7) := Lib.hid (HB6.out.trans (hb7.mono hszT))
                clear ho7 hb7
                go_wp2
                go_roundw
                case rel => exact ⟨i + 1, by go_num, by omega, HB7.out, by rw [HNX2.out]; exact HO7.out⟩
                case measure => simp [intOf]; omega
      · have HNX2 : Hid (staleR (L.take (i + 1)) = staleR (L.take i)) := Lib.hid (by rw [HNX.out]; unfold stIns; rw [if_neg hc])
        have hcc : (v.rule && !v.fresh) = false := by
          cases h1 : v.rule <;> cases h2 : v.fresh <;> simp_all
        have hcc1 : v.rule = false ∨ (v.rule = true ∧ v.fresh = true) := by
          cases h1 : v.rule <;> cases h2 : v.fresh <;> simp_all
        rcases hcc1 with h1 | ⟨h1, h2⟩
        · rw [h1] at c1
          clear hc HNX hcc h1
          go_wp2
          go_roundw
          case rel => exact ⟨i + 1, by go_num, by omega, HB.out, by rw [HNX2.out]; exact HO.out⟩
          case measure => simp [intOf]; omega
        · rw [h1] at c1
          rw [h2] at c9
          clear hc HNX hcc h1 h2
          go_wp2
          go_roundw
          case rel => exact ⟨i + 1, by go_num, by omega, HB.out, by rw [HNX2.out]; exact HO.out⟩
          case measure => simp [intOf]; omega
    · obtain rfl : i = m := by omega
      rw [List.take_of_length_le (by rw [HM.out]; exact Nat.le_refl _)] at ho
      have HB := Lib.hid hbw
      have HO := Lib.hid ho
      clear hbw ho hR
      go_wp2
      go_ret
      exact ⟨_, rfl, HO.out, HB.out⟩
end Go.Proofs.Ytbikldmhfaecpaa
