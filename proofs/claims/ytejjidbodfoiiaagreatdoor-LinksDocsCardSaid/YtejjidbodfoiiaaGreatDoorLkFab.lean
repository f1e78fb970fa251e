/-
  Layer 44 (links), plain: a link from a page to another page.
  Layer 44 (links): two lists of faults are the same (the law's own loop).
-/
import Derived.Test.YtejjidbodfoiiaaGreatDoorLkXYZ
import Derived.Test.YtejjidbodfoiiaaGreatDoorNm
namespace Go.Proofs.YtejjidbodfoiiaaGreatDoor
open Go.RowKit
set_option linter.unusedVariables false
set_option linter.unusedSimpArgs false

theorem prt_clean {c : UInt8} (h : prtB c = true) : c < 128 ∧ cleanB c = true ∧ c ≠ 35 := by
  unfold prtB letB at h
  simp only [Bool.or_eq_true, Bool.and_eq_true, decide_eq_true_eq] at h
  have h1 : 45 ≤ c.toNat ∧ c.toNat < 127 := by omega
  refine ⟨UInt8.lt_iff_toNat_lt.2 (by show c.toNat < 128; omega), ?_, fun e => by rw [e] at h1; simp at h1⟩
  unfold cleanB
  simp only [Bool.or_eq_true, Bool.and_eq_true, decide_eq_true_eq, bne_iff_ne, ne_eq]
  exact .inr ⟨UInt8.le_iff_toNat_le.2 (by show 32 ≤ c.toNat; omega), fun e => by rw [e] at h1; simp at h1⟩
theorem valid_ascii : ∀ {s : Bs}, (∀ c ∈ s, c < 128 ∧ cleanB c = true) → validB s = true := by
  intro s
  induction s with
  | nil => intro _; rfl
  | cons c r ih =>
    intro h
    obtain ⟨h1, h2⟩ := h c (List.mem_cons_self ..)
    rw [validB_cons, if_pos h1, h2, ih (fun x hx => h x (List.mem_cons_of_mem _ hx))]
    rfl
theorem nm3_prt {s : Bs} (h : nm3 s = true) : ∀ c ∈ s, prtB c = true := by
  simp only [nm3, Bool.and_eq_true] at h
  exact fun c hc => List.all_eq_true.1 h.2 c hc
def bxN : Bs := [98, 47, 120, 46, 104, 116, 109, 108]
def byN : Bs := [98, 47, 121, 46, 104, 116, 109, 108]
def yH : Bs := [121, 46, 104, 116, 109, 108]
def hT (tg : Bs) : Bs := yH ++ 35 :: tg
def t1F (tg : Bs) : Bs := mku (pgN [113] (hT tg))
def t2F (id : Bs) : Bs := mku (pgN id (35 :: id))
theorem valid_nm {s : Bs} (h : nm3 s = true) : validB s = true := valid_ascii fun c hc => by
  obtain ⟨a, b, _⟩ := prt_clean (nm3_prt h c hc)
  exact ⟨a, b⟩
theorem valid_sh {s : Bs} (h : nm3 s = true) : validB (35 :: s) = true := valid_ascii fun c hc => by
  rcases List.mem_cons.1 hc with rfl | hc
  · exact ⟨by decide, by decide⟩
  · obtain ⟨a, b, _⟩ := prt_clean (nm3_prt h c hc)
    exact ⟨a, b⟩
theorem valid_hT {s : Bs} (h : nm3 s = true) : validB (hT s) = true := valid_ascii fun c hc => by
  rcases List.mem_append.1 hc with hc | hc
  · have : ∀ c ∈ yH, c < 128 ∧ cleanB c = true := by decide
    exact this c hc
  · rcases List.mem_cons.1 hc with rfl | hc
    · exact ⟨by decide, by decide⟩
    · obtain ⟨a, b, _⟩ := prt_clean (nm3_prt h c hc)
      exact ⟨a, b⟩
theorem sheet_1 {tg : Bs} (h : nm3 tg = true) : sheet (bxN, t1F tg) = some (pgN [113] (hT tg)) := sheet_pg (by decide +kernel) (by decide +kernel) (valid_hT h)
theorem sheet_2 {id : Bs} (h : nm3 id = true) : sheet (byN, t2F id) = some (pgN id (35 :: id)) := sheet_pg (by decide +kernel) (valid_nm h) (valid_sh h)
theorem outB_hT (tg : Bs) : outB (hT tg) = false := by
  have h1 : List.isPrefixOf [47, 47] (hT tg) = false := rfl
  have h2 : lets (hT tg) = 1 := by
    show ((121 :: 46 :: ([104, 116, 109, 108] ++ 35 :: tg)).takeWhile letC).length = 1
    rw [List.takeWhile_cons, if_pos (by decide), List.takeWhile_cons, if_neg (by decide)]; rfl
  unfold outB
  rw [h1, h2]
  have h3 : (hT tg)[1]? = some 46 := rfl
  rw [h3]; decide
theorem outB_sh (s : Bs) : outB (35 :: s) = false := by
  have h1 : List.isPrefixOf [47, 47] (35 :: s) = false := rfl
  have h2 : lets (35 :: s) = 0 := by
    show ((35 :: s).takeWhile letC).length = 0
    rw [List.takeWhile_cons, if_neg (by decide)]; rfl
  unfold outB
  rw [h1, h2]; rfl
theorem path_hT (tg : Bs) : pathOf (hT tg) = yH ∧ fragOf (hT tg) = tg ∧ hasF (hT tg) = true := by
  refine ⟨?_, ?_, ?_⟩
  · rfl
  · rfl
  · unfold hasF hT; simp
theorem path_sh (s : Bs) : pathOf (35 :: s) = [] ∧ fragOf (35 :: s) = s ∧ hasF (35 :: s) = true := by
  refine ⟨rfl, rfl, by unfold hasF; simp⟩
theorem join_y : Fil.joinF bxN yH = byN := by decide +kernel
/-- without the other page -/
theorem faults_f1 {tg : Bs} (h : nm3 tg = true) : faults [(bxN, t1F tg)] = [(fileK, bxN, hT tg)] := by
  have hs := sheet_1 h
  have e : faults [(bxN, t1F tg)] = pageF [(bxN, t1F tg)] 0 (bxN, t1F tg) := by
    unfold faults
    rw [List.length_singleton, faultsTo_succ]; simp [faultsTo]
  rw [e, pageF_one hs, refF_in (outB_hT tg)]
  refine chkF_none ?_
  unfold meantOf
  rw [(path_hT tg).1, if_neg (by decide), join_y, if_neg (by decide)]
  have : (bxN == byN) = false := by decide
  simp [idxOf, List.findIdx?_cons, this]
/-- with it -/
theorem faults_f2 {id tg : Bs} (h1 : nm3 id = true) (h2 : nm3 tg = true) : faults [(bxN, t1F tg), (byN, t2F id)] = if id = tg then [] else [(anchorK, bxN, hT tg)] := by
  have hs1 := sheet_1 h2
  have hs2 := sheet_2 h1
  have e : faults [(bxN, t1F tg), (byN, t2F id)] = pageF [(bxN, t1F tg), (byN, t2F id)] 0 (bxN, t1F tg) ++ pageF [(bxN, t1F tg), (byN, t2F id)] 1 (byN, t2F id) := by
    unfold faults
    show faultsTo _ (1 + 1) = _
    rw [faultsTo_succ, show (1 : Nat) = 0 + 1 from rfl, faultsTo_succ]
    simp [faultsTo]
  have ha : ancN (byN, t2F id) = [id] := by unfold ancN; rw [hs2]; exact (vals_pg _ _).1
  have m1 : meantOf [(bxN, t1F tg), (byN, t2F id)] 0 bxN (hT tg) = some 1 := by
    unfold meantOf
    rw [(path_hT tg).1, if_neg (by decide), join_y, if_neg (by decide)]
    have e1 : (bxN == byN) = false := by decide
    have e2 : (byN == byN) = true := by decide
    simp [idxOf, List.findIdx?_cons, e1, e2]
  have m2 : meantOf [(bxN, t1F tg), (byN, t2F id)] 1 byN (35 :: id) = some 1 := by unfold meantOf; rw [(path_sh id).1, if_pos rfl]
  rw [e, pageF_one hs1, pageF_one hs2, refF_in (outB_hT tg), refF_in (outB_sh id), chkF_meant (f := (byN, t2F id)) m1 rfl, chkF_meant (f := (byN, t2F id)) m2 rfl, ha, (path_hT tg).2.1, (path_hT tg).2.2, (path_sh id).2.1, (path_sh id).2.2]
  by_cases hx : id = tg
  · subst hx; simp
  · have : ¬ tg = id := fun e => hx e.symm
    simp [hx, this]
theorem nm3_len {s : Bs} (h : nm3 s = true) : s.length ≤ 60 := by
  simp only [nm3, Bool.and_eq_true, decide_eq_true_eq] at h
  exact h.1.1.2
theorem pg_len (id href : Bs) (h1 : id.length ≤ 100) (h2 : href.length ≤ 100) : (mku (pgN id href)).length ≤ 50000 := by
  have e1 := esc_len6 id
  have e2 := esc_len6 href
  have e3 : (esc [116]).length = 1 := by decide +kernel
  have a1 : (mkAs [(idK, id)]).length ≤ 700 := by simp [mkAs, idK]; omega
  have a2 : (mkAs [(hrefK, href)]).length ≤ 700 := by simp [mkAs, hrefK]; omega
  have b1 : emptyB [112] = false := by decide +kernel
  have b2 : emptyB [97] = false := by decide +kernel
  simp only [pgN, aN, tN, mku, mkuL, b1, b2]
  simp [e3]
  omega
theorem t_lens {id tg : Bs} (h1 : nm3 id = true) (h2 : nm3 tg = true) : (t1F tg).length ≤ 50000 ∧ (t2F id).length ≤ 50000 := by
  have l1 := nm3_len h1
  have l2 := nm3_len h2
  exact ⟨pg_len _ _ (by decide) (by simp [hT, yH]; omega), pg_len _ _ (by omega) (by simp; omega)⟩
end Go.Proofs.YtejjidbodfoiiaaGreatDoor
namespace Go.Proofs.YtejjidbodfoiiaaGreatDoor
open Go.RowKit
set_option linter.unusedVariables false
set_option linter.unusedSimpArgs false

attribute [local go_sem] B_data B_size
set_option maxHeartbeats 1000000 in
theorem ft_ne (x y : Ft) (W : World) : (binOp .neq 36 (.agg #[.string (B x.1), .string (B x.2.1), .string (B x.2.2)]) (.agg #[.string (B y.1), .string (B y.2.1), .string (B y.2.2)])).run Tryz.prog W = .ok (.bool (!decide (x = y))) W := by
  obtain ⟨x1, x2, x3⟩ := x
  obtain ⟨y1, y2, y3⟩ := y
  go_simp
  by_cases h1 : x1 = y1 <;> by_cases h2 : x2 = y2 <;> by_cases h3 : x3 = y3 <;> simp [h1, h2, h3]
theorem take_same {α : Type} {a b : List α} {j : Nat} {x y : α} (h : a.take j = b.take j) (hx : a[j]? = some x) (hy : b[j]? = some y) : a.take (j + 1) = b.take (j + 1) ↔ x = y := by
  rw [List.take_add_one, List.take_add_one, hx, hy, h]
  simp
attribute [local go_sem ↓] ft_ne
set_option maxHeartbeats 8000000 in
set_option maxRecDepth 100000 in
theorem same_any (ps qs : List Ft) (A C : Option Addr) (n c m d : Nat) (w : World) (ha : Rd w w.heap.size 3 A n (ps.flatMap ftC)) (hb : Rd w w.heap.size 3 C m (qs.flatMap ftC)) (h1 : ps.length ≤ 1000000000000) (h2 : qs.length ≤ 1000000000000) :
    Calls Tryz.prog 14 #[.slice A n c, .slice C m d] w (fun e w' => e = .returned (.bool (decide (ps = qs))) ∧ Below w.heap.size w w') := by
  have hn : ps.length = n := ha.count ftC 3 ftC_len (by omega)
  have hm : qs.length = m := hb.count ftC 3 ftC_len (by omega)
  subst hn hm
  go_enter Tryz.func14, Tryz.ntmps14
  by_cases hl : ps.length = qs.length
  · have dl : decide ((ps.length : Int) = (qs.length : Int)) = true := by simp [hl]
    go_wp2
    go_loopw [5] (fun i wr => ∃ (j : Nat), j ≤ ps.length ∧ i = .int .i64 j ∧ ps.take j = qs.take j ∧ Below w.heap.size w wr) (fun i _ => ps.length - (intOf i).toNat)
    case atStart => exact ⟨0, Nat.zero_le _, rfl, rfl, .refl _ _⟩
    case round =>
      obtain ⟨j, hj, rfl, ht, hb2⟩ := hrel
      by_cases hlt : j < ps.length
      · have hfa : ps[j]? = some ps[j] := List.getElem?_eq_getElem hlt
        have hfb : qs[j]? = some (qs[j]'(by omega)) := List.getElem?_eq_getElem (by omega)
        have HT := Lib.hid (take_same ht hfa hfb)
        generalize ps[j] = x at *
        generalize qs[j]'(_) = y at *
        obtain ⟨b1, o1, rfl, hbm1, hcell1⟩ := (ha.below hb2).elem ftC 3 ftC_len (by omega) hfa
        obtain ⟨b3, o3, rfl, hbm3, hcell3⟩ := (hb.below hb2).elem ftC 3 ftC_len (by omega) hfb
        have x0 : wr.cell? ⟨b1, o1 + j * 3, none⟩ = some (.string (B x.1)) := hcell1 0 _ rfl
        have x1 : wr.cell? ⟨b1, o1 + j * 3 + 1, none⟩ = some (.string (B x.2.1)) := hcell1 1 _ rfl
        have x2 : wr.cell? ⟨b1, o1 + j * 3 + 2, none⟩ = some (.string (B x.2.2)) := hcell1 2 _ rfl
        have y0 : wr.cell? ⟨b3, o3 + j * 3, none⟩ = some (.string (B y.1)) := hcell3 0 _ rfl
        have y1 : wr.cell? ⟨b3, o3 + j * 3 + 1, none⟩ = some (.string (B y.2.1)) := hcell3 1 _ rfl
        have y2 : wr.cell? ⟨b3, o3 + j * 3 + 2, none⟩ = some (.string (B y.2.2)) := hcell3 2 _ rfl
        have hj1 : (j : Int) < (ps.length : Int) := by omega
        have hj2 : (j : Int) < (qs.length : Int) := by omega
        clear hcell1 hcell3
        cases hxy : decide (x = y)
        · have hx : x ≠ y := of_decide_eq_false hxy
          go_wp2_with fail
          go_quiet (fail)
          go_wp2
          go_ret
          refine ⟨ret_bool ?_, below_drewN hb2 _⟩
          have : ¬ ps = qs := fun e => hx (HT.out.1 (by rw [e]))
          rw [decide_eq_false this]
        · have hx : x = y := of_decide_eq_true hxy
          go_wp2_with fail
          go_quiet (fail)
          go_wp2
          go_roundw
          case rel => exact ⟨j + 1, by omega, by go_num, HT.out.2 hx, below_drewN hb2 _⟩
          case measure => simp [intOf]; omega
      · have hj1 : ¬ (j : Int) < (ps.length : Int) := by omega
        go_wp2
        go_ret
        refine ⟨ret_bool ?_, hb2⟩
        rw [List.take_of_length_le (by omega), List.take_of_length_le (by omega)] at ht
        rw [decide_eq_true ht]
  · have dl : decide ((ps.length : Int) = (qs.length : Int)) = false := by simp; omega
    go_wp2
    go_ret
    refine ⟨ret_bool ?_, .refl _ _⟩
    have : ¬ ps = qs := fun e => hl (by rw [e])
    rw [decide_eq_false this]
end Go.Proofs.YtejjidbodfoiiaaGreatDoor
