/-
  Layer 44 (links): awake: the page's examples.
  Layer 44 (links): the law's few, paged.
  Layer 44 (links): lists of files appended to one of the call's own.
-/
import Derived.Test.YtejjidbodfoiiaaGreatDoorLkRW
import Derived.Test.YtejjidbodfoiiaaGreatDoorLkN
import Derived.Test.YtejjidbodfoiiaaGreatDoorLkU
import Derived.Deep.RegionLaw
import Derived.Maps.AppendAt
import Derived.Deep.Upon
import Derived.Deep.AppendLies
import Derived.Deep.Onto
import Derived.Laws.OwnMore
namespace Go.Proofs.YtejjidbodfoiiaaGreatDoor
open Go.RowKit
set_option linter.unusedVariables false
set_option linter.unusedSimpArgs false
attribute [local go_sem] B_data B_size

def xN : Bs := [120, 46, 104, 116, 109, 108]
def h1A : Bs := [35, 97]
def h2A : Bs := [109, 97, 105, 108, 116, 111, 58, 98]
def t1A : Bs := mku (pgN [98] h1A)
def t2A : Bs := mku (pgN [98] h2A)
def inA : In := .mk 14 [115] [] [] [] ⟨[], []⟩ [] [] []
def bkA : Bk := .mk 1 0 [] [] [] [] [] ⟨[], []⟩ [inA] []
theorem pageF_one {fs : List Fl} {f : Fl} {i : Nat} {id href : Bs} (hs : sheet f = some (pgN id href)) : pageF fs i f = refF fs i f.1 href := by
  unfold pageF
  rw [hs]
  simp only
  rw [refs_pg]; simp
theorem sheet_pg {nm id href : Bs} (hn : named nm = true) (h1 : validB id = true) (h2 : validB href = true) : sheet (nm, mku (pgN id href)) = some (pgN id href) := by
  unfold sheet
  rw [if_pos hn]; exact read_pg id href h1 h2
theorem faults_A : faults [(xN, t1A)] = [(anchorK, xN, h1A)] := by
  have hs : sheet (xN, t1A) = some (pgN [98] h1A) := sheet_pg (by decide +kernel) (by decide +kernel) (by decide +kernel)
  have e : faults [(xN, t1A)] = pageF [(xN, t1A)] 0 (xN, t1A) := by
    unfold faults
    rw [List.length_singleton, faultsTo_succ]; simp [faultsTo]
  have hm : meantOf [(xN, t1A)] 0 xN h1A = some 0 := by unfold meantOf; rw [if_pos (by decide)]
  rw [e, pageF_one hs, refF_in (by decide), chkF_meant (f := (xN, t1A)) hm rfl]
  have ha : ancN (xN, t1A) = [[98]] := by unfold ancN; rw [hs]; exact (vals_pg _ _).1
  rw [ha]
  decide
theorem outs_A : outsN [(xN, t2A)] = [h2A] := by
  have hs : sheet (xN, t2A) = some (pgN [98] h2A) := sheet_pg (by decide +kernel) (by decide +kernel) (by decide +kernel)
  have e : outsTo [(xN, t2A)] 1 = [h2A] := by
    rw [outsTo_succ _ 0 (f := (xN, t2A)) rfl, hs]
    simp only
    rw [refs_pg]
    decide
  unfold outsN
  rw [List.length_singleton, e, List.mergeSort_singleton]
  rfl
theorem doc_A : docF [bkA] = [(refK, [], [115])] := by decide +kernel
theorem t_len : t1A.length ≤ 800 ∧ t2A.length ≤ 800 := by decide +kernel
theorem file_row (w : World) (a b : Bs) : Rd (w.alloc (.cells #[.string (B a), .string (B b)] 39)) (w.alloc (.cells #[.string (B a), .string (B b)] 39)).heap.size 2 (some ⟨w.heap.size, 0, none⟩) 1 ([(a, b)].flatMap flC) := by
  have h := rd_newN w (flC (a, b)) 39 2 1 rfl
  have e : (w.alloc (.cells #[.string (B a), .string (B b)] 39)).heap.size = w.heap.size + 1 := by simp
  rw [e]
  exact h
def icA : IC := ⟨14, [115], [], [], [], .nil, .nil, .nil, .nil, .nil⟩
def bcA (b : Nat) : BC := ⟨1, 0, [], [], [], [], [], .nil, .nil, ⟨some ⟨b, 0, none⟩, 1, 1⟩, .nil⟩
theorem rdT0 {w : World} {S : Nat → Prop} {sz : Nat} : RdT w S sz .nil [] := ⟨rd0, by simp [Sl.nil]⟩
theorem doc_mem (w : World) : BsB ((w.alloc (.cells (IC.cells icA).toArray 52)).alloc (.cells (BC.cells (bcA w.heap.size)).toArray 54)) ((w.alloc (.cells (IC.cells icA).toArray 52)).alloc (.cells (BC.cells (bcA w.heap.size)).toArray 54)).heap.size [bkA] ⟨some ⟨w.heap.size + 1, 0, none⟩, 1, 1⟩ := by
  obtain ⟨W1, hW1⟩ : ∃ W1, W1 = w.alloc (.cells (IC.cells icA).toArray 52) := ⟨_, rfl⟩
  obtain ⟨W2, hW2⟩ : ∃ W2, W2 = W1.alloc (.cells (BC.cells (bcA w.heap.size)).toArray 54) := ⟨_, rfl⟩
  have s1 : W1.heap.size = w.heap.size + 1 := by rw [hW1]; simp
  have s2 : W2.heap.size = w.heap.size + 1 + 1 := by rw [hW2]; simp [s1]
  have r1 : Rd W1 (w.heap.size + 1) 10 (some ⟨w.heap.size, 0, none⟩) 1 ([icA].flatMap IC.cells) := by rw [hW1]; exact rd_newN w (IC.cells icA) _ 10 1 rfl
  have r2 : Rd W2 (W1.heap.size + 1) 11 (some ⟨W1.heap.size, 0, none⟩) 1 ([bcA w.heap.size].flatMap BC.cells) := by rw [hW2]; exact rd_newN W1 (BC.cells (bcA w.heap.size)) _ 11 1 rfl
  have b2 : Below W1.heap.size W1 W2 := by rw [hW2]; exact below_alloc W1 _
  rw [← hW1, ← hW2]
  have R1 : RdS W2 (fun b => b < W2.heap.size) 10 (some ⟨w.heap.size, 0, none⟩) 1 ([icA].flatMap IC.cells) := ((r1.below (b2.mono (by omega))).more (by omega)).rdB
  have R2 : Rd W2 W2.heap.size 11 (some ⟨w.heap.size + 1, 0, none⟩) 1 ([bcA w.heap.size].flatMap BC.cells) := by
    have := r2.more (M' := W2.heap.size) (by omega)
    rw [s1] at this; exact this
  have hI : InAt W2 (fun b => b < W2.heap.size) inA icA := ⟨by intro s hs; simp [inT, aoT] at hs; rcases hs with rfl | rfl <;> simp, ⟨rfl, rfl, rfl, rfl, rfl⟩, ⟨rdT0, rdT0⟩, rdT0, rdT0, [], rdT0, rfl⟩
  have hB : BkB W2 W2.heap.size bkA (bcA w.heap.size) := ⟨by intro s hs; simp [bkT, aoT] at hs; subst hs; simp, ⟨rfl, rfl, rfl, rfl, rfl, rfl, rfl⟩, ⟨rdT0, rdT0⟩, ⟨[icA], ⟨R1, by simp [bcA]⟩, hI, rfl⟩, [], rdT0, rfl⟩
  refine ⟨[bcA w.heap.size], R2, ⟨rfl, by simp⟩, fun i k hk => ?_⟩
  match i, hk with
  | 0, hk => cases hk; exact ⟨_, rfl, hB⟩
theorem ev_A : (evL [bkA]).length ≤ 1000000000 := by decide +kernel
set_option maxHeartbeats 8000000 in
set_option maxRecDepth 100000 in
theorem lawake_any (w : World) (hG : Fil.Glob w) : Calls Tryz.prog 8 #[] w (fun e w' => e = .returned (.bool true) ∧ Below w.heap.size w w') := by
  have h98 : (B [98]) = ⟨#[98]⟩ := rfl
  have HP1 : Hid (∀ V, Calls Tryz.prog 19 #[.string ⟨#[98]⟩, .string ⟨#[35, 97]⟩] V fun e w' => e = .returned (.tuple #[.string (B t1A), .int .i64 0]) ∧ Below V.heap.size V w') := fun V => (page_any [98] h1A V (by decide) (by decide)).mono fun e w' h => by
    have hc : chk (pgN [98] h1A) = 0 := chk_pg _ _ (by decide +kernel) (by decide +kernel)
    obtain ⟨h1, h2⟩ := h
    rw [if_pos hc, hc] at h1
    exact ⟨h1, h2⟩
  have HP2 : Hid (∀ V, Calls Tryz.prog 19 #[.string ⟨#[98]⟩, .string ⟨#[109, 97, 105, 108, 116, 111, 58, 98]⟩] V fun e w' => e = .returned (.tuple #[.string (B t2A), .int .i64 0]) ∧ Below V.heap.size V w') := fun V => (page_any [98] h2A V (by decide) (by decide)).mono fun e w' h => by
    have hc : chk (pgN [98] h2A) = 0 := chk_pg _ _ (by decide +kernel) (by decide +kernel)
    obtain ⟨h1, h2⟩ := h
    rw [if_pos hc, hc] at h1
    exact ⟨h1, h2⟩
  go_enter Tryz.func8, Tryz.ntmps8
  go_wp2_with fail
  refine (HP1.out _).mono ?_
  rintro e w1 ⟨rfl, hb1⟩
  go_wp2_with fail
  have hba := below_alloc w1 (.cells #[.string ⟨#[120, 46, 104, 116, 109, 108]⟩, .string (B t1A)] 39)
  have hr1 := file_row w1 xN t1A
  have hB1 := hb1.trans (hba.mono hb1.size)
  refine (lcheck_any [(xN, t1A)] _ 1 1 _ hr1 (by omega) (fun f hf => by rw [List.mem_singleton] at hf; subst hf; exact ⟨by decide, Nat.le_trans t_len.1 (by omega)⟩) (hG.below hB1 (Nat.le_refl _))).mono ?_
  rintro e w2 ⟨A1, c1, rfl, hf1, hb2⟩
  rw [faults_A] at hf1
  rw [faults_A]
  have hB2 := hB1.trans (hb2.mono hB1.size)
  obtain ⟨b1, o1, rfl, hl1, hcell⟩ := hf1.elem ftC 3 ftC_len (k := 0) (by decide) rfl
  have x0 : w2.cell? ⟨b1, o1, none⟩ = some (.string (B anchorK)) := by have := hcell 0 _ rfl; simpa using this
  have x1 : w2.cell? ⟨b1, o1 + 1, none⟩ = some (.string (B xN)) := by have := hcell 1 _ rfl; simpa using this
  have x2 : w2.cell? ⟨b1, o1 + 2, none⟩ = some (.string (B h1A)) := by have := hcell 2 _ rfl; simpa using this
  clear hcell hf1 hr1 hba hb2 hB1
  go_wp2_with fail
  refine (HP2.out _).mono ?_
  rintro e w3 ⟨rfl, hb3⟩
  have hB3 := hB2.trans (hb3.mono hB2.size)
  have x0 := keeps hb3 (Nat.le_refl _) x0
  have x1 := keeps hb3 (Nat.le_refl _) x1
  have x2 := keeps hb3 (Nat.le_refl _) x2
  go_wp2_with fail
  have hba := below_alloc w3 (.cells #[.string ⟨#[120, 46, 104, 116, 109, 108]⟩, .string (B t2A)] 39)
  have hr2 := file_row w3 xN t2A
  have hB4 := hB3.trans (hba.mono hB3.size)
  have x0 := keeps hba (Nat.le_refl _) x0
  have x1 := keeps hba (Nat.le_refl _) x1
  have x2 := keeps hba (Nat.le_refl _) x2
  refine (lout_any [(xN, t2A)] _ 1 1 _ hr2 (by omega) (fun f hf => by rw [List.mem_singleton] at hf; subst hf; exact ⟨by decide, Nat.le_trans t_len.2 (by omega)⟩)).mono ?_
  intro e w5 hP5
  rw [outs_A] at hP5
  obtain ⟨A2, c2, rfl, hr5, hb5⟩ := hP5.lp
  obtain ⟨ad2, e2, hc2⟩ := hr5.str (k := 0) (by simp)
  have hc2 : w5.cell? (ad2.add 0) = some (.string (B h2A)) := hc2
  subst e2
  have x0 := keeps hb5 (Nat.le_refl _) x0
  have x1 := keeps hb5 (Nat.le_refl _) x1
  have x2 := keeps hb5 (Nat.le_refl _) x2
  have hB5 := hB4.trans (hb5.mono hB4.size)
  clear hba hr2 hb3 hb5 hP5 hr5
  go_wp2_with fail
  have hbd : Below w5.heap.size w5 ((w5.alloc (.cells (IC.cells icA).toArray 52)).alloc (.cells (BC.cells (bcA w5.heap.size)).toArray 54)) := (below_alloc w5 _).trans ((below_alloc _ _).mono (by simp))
  have hB6 := hB5.trans (hbd.mono hB5.size)
  refine (ldoc_any [bkA] (.slice none 0 0) _ 1 1 _ (doc_mem w5) ev_A).mono ?_
  rintro e w7 ⟨A3, c3, rfl, hf7, hb7⟩
  rw [doc_A] at hf7
  rw [doc_A]
  have hb57 := hbd.trans (hb7.mono hbd.size)
  have x0 := keeps hb57 (Nat.le_refl _) x0
  have x1 := keeps hb57 (Nat.le_refl _) x1
  have x2 := keeps hb57 (Nat.le_refl _) x2
  have hc2 := keeps hb57 (Nat.le_refl _) hc2
  have hB7 := hB6.trans (hb7.mono hB6.size)
  obtain ⟨b3, o3, rfl, hl3, hcell⟩ := hf7.elem ftC 3 ftC_len (k := 0) (by decide) rfl
  have y0 : w7.cell? ⟨b3, o3, none⟩ = some (.string (B refK)) := by have := hcell 0 _ rfl; simpa using this
  have y1 : w7.cell? ⟨b3, o3 + 1, none⟩ = some (.string (B [])) := by have := hcell 1 _ rfl; simpa using this
  have y2 : w7.cell? ⟨b3, o3 + 2, none⟩ = some (.string (B [115])) := by have := hcell 2 _ rfl; simpa using this
  clear hcell hf7 hb7 hb57 hbd
  have e0 : ad2.add 0 = ad2 := by unfold Addr.add; simp
  rw [e0] at hc2
  have X0 : w7.cell? ⟨b1, o1, none⟩ = some (.string ⟨#[97, 110, 99, 104, 111, 114]⟩) := x0
  have X1 : w7.cell? ⟨b1, o1 + 1, none⟩ = some (.string ⟨#[120, 46, 104, 116, 109, 108]⟩) := x1
  have X2 : w7.cell? ⟨b1, o1 + 2, none⟩ = some (.string ⟨#[35, 97]⟩) := x2
  have Y0 : w7.cell? ⟨b3, o3, none⟩ = some (.string ⟨#[114, 101, 102, 101, 114, 101, 110, 99, 101]⟩) := y0
  have Y1 : w7.cell? ⟨b3, o3 + 1, none⟩ = some (.string ⟨#[]⟩) := y1
  have Y2 : w7.cell? ⟨b3, o3 + 2, none⟩ = some (.string ⟨#[115]⟩) := y2
  have C2 : w7.cell? ad2 = some (.string ⟨#[109, 97, 105, 108, 116, 111, 58, 98]⟩) := hc2
  clear x0 x1 x2 y0 y1 y2 hc2
  go_wp2
  go_ret
  exact ⟨rfl, hB7⟩
end Go.Proofs.YtejjidbodfoiiaaGreatDoor
namespace Go.Proofs.YtejjidbodfoiiaaGreatDoor
open Go.RowKit
set_option linter.unusedVariables false
set_option linter.unusedSimpArgs false
attribute [local go_sem] B_data B_size

def smF (f : Fl) : Bool := decide (f.1.length ≤ 250) && decide (f.2.length ≤ 800)
/-- are files few and small? -/
def fewB (fs : List Fl) : Bool := decide (fs.length ≤ 6) && fs.all smF
set_option maxHeartbeats 4000000 in
set_option maxRecDepth 100000 in
theorem few_any (fs : List Fl) (A : Option Addr) (n c : Nat) (w : World) (h : Rd w w.heap.size 2 A n (fs.flatMap flC)) (hn : n ≤ maxLen) :
    Calls Tryz.prog 7 #[.slice A n c] w (fun e w' => e = .returned (.bool (fewB fs)) ∧ Below w.heap.size w w') := by
  have hlen : fs.length = n := h.count flC 2 flC_len (by omega)
  by_cases h6 : n ≤ 6
  · have d6 : decide ((6 : Int) < (n : Int)) = false := by simp; omega
    subst hlen
    have HF : Hid (fewB fs = fs.all smF) := by unfold fewB; simp [h6, Hid]
    go_enter Tryz.func7, Tryz.ntmps7
    go_wp2
    go_loopw [3] (fun i wr => ∃ (j : Nat), j ≤ fs.length ∧ i = .int .i64 j ∧ Below w.heap.size w wr ∧ Hid ((fs.take j).all smF = true)) (fun i _ => fs.length - (intOf i).toNat)
    case atStart => exact ⟨0, Nat.zero_le _, rfl, .refl _ _, rfl⟩
    case round =>
      obtain ⟨j, hj, rfl, hb, ha⟩ := hrel
      by_cases hlt : j < fs.length
      · have hfj : fs[j]? = some fs[j] := List.getElem?_eq_getElem hlt
        have HT : Hid ((fs.take (j + 1)).all smF = ((fs.take j).all smF && smF fs[j])) := by rw [List.take_succ_eq_append_getElem hlt, List.all_append]; simp [Hid]
        have HX : Hid (smF fs[j] = false → fs.all smF = false) := fun e => by rw [List.all_eq_false]; exact ⟨_, List.getElem_mem hlt, by rw [e]; simp⟩
        generalize fs[j] = f at *
        obtain ⟨bb, o, rfl, hbm, hcell⟩ := (h.below hb).elem flC 2 flC_len (by omega) hfj
        have c0 : wr.cell? ⟨bb, o + j * 2, none⟩ = some (.string (B f.1)) := hcell 0 _ rfl
        have c1 : wr.cell? ⟨bb, o + j * 2 + 1, none⟩ = some (.string (B f.2)) := hcell 1 _ rfl
        have hj1 : (j : Int) < (fs.length : Int) := by omega
        clear hcell
        by_cases hf1 : f.1.length ≤ 250
        · have d1 : decide ((250 : Int) < (f.1.length : Int)) = false := by simp; omega
          by_cases hf2 : f.2.length ≤ 800
          · have d2 : decide ((800 : Int) < (f.2.length : Int)) = false := by simp; omega
            have hs : Hid ((fs.take (j + 1)).all smF = true) := by rw [HT.out, ha.out]; simp [smF, hf1, hf2, Hid]
            go_wp2
            go_roundw
            case rel => exact ⟨j + 1, by omega, by go_num, hb, hs⟩
            case measure => simp [intOf]; omega
          · have d2 : decide ((800 : Int) < (f.2.length : Int)) = true := by simp; omega
            have hs : Hid (fewB fs = false) := by rw [HF.out, HX.out (by simp [smF, hf2])]; rfl
            go_wp2
            go_ret
            exact ⟨ret_bool hs.out.symm, hb⟩
        · have d1 : decide ((250 : Int) < (f.1.length : Int)) = true := by simp; omega
          have hs : Hid (fewB fs = false) := by rw [HF.out, HX.out (by simp [smF, hf1])]; rfl
          go_wp2
          go_ret
          exact ⟨ret_bool hs.out.symm, hb⟩
      · have hs : Hid (fewB fs = true) := by rw [HF.out]; have := ha.out; rwa [List.take_of_length_le (by omega)] at this
        go_wp2
        go_ret
        exact ⟨ret_bool hs.out.symm, hb⟩
  · have d6 : decide ((6 : Int) < (n : Int)) = true := by simp; omega
    have hf : Hid (fewB fs = false) := by unfold fewB; rw [hlen]; simp [h6, Hid]
    go_enter Tryz.func7, Tryz.ntmps7
    go_wp2
    go_ret
    exact ⟨ret_bool hf.out.symm, .refl _ _⟩
theorem suf_drop (s p : Bs) : p.isSuffixOf s = (decide (p.length ≤ s.length) && (s.drop (s.length - p.length) == p)) := by
  have := Lib.hasSuffix_of_drop s p
  unfold Lib.hasSuffix at this
  exact this.symm
set_option maxHeartbeats 4000000 in
set_option maxRecDepth 100000 in
theorem paged_any (s : Bs) (w : World) (hs : s.length ≤ 9000000000000000000) :
    Calls Tryz.prog 16 #[.string (B s)] w (fun e w' => e = .returned (.bool (named s)) ∧ w' = w) := by
  have ex5 : (B s).extract (s.length - 5) s.length = B (s.drop (s.length - 5)) := by rw [B_extract, toList_B, List.take_length]
  have ex6 : (B s).extract (s.length - 6) s.length = B (s.drop (s.length - 6)) := by rw [B_extract, toList_B, List.take_length]
  have HN : Hid (named s = ((decide ((5 : Int) ≤ (s.length : Int)) && (s.drop (s.length - 5) == [46, 104, 116, 109, 108])) || (decide ((6 : Int) ≤ (s.length : Int)) && (s.drop (s.length - 6) == [46, 120, 104, 116, 109, 108])))) := by
    unfold named Hid
    rw [suf_drop, suf_drop]
    have e5 : decide (dotH.length ≤ s.length) = decide ((5 : Int) ≤ (s.length : Int)) := by rw [decide_eq_decide]; show 5 ≤ s.length ↔ _; omega
    have e6 : decide (dotX.length ≤ s.length) = decide ((6 : Int) ≤ (s.length : Int)) := by rw [decide_eq_decide]; show 6 ≤ s.length ↔ _; omega
    rw [e5, e6]; rfl
  go_enter Tryz.func16, Tryz.ntmps16
  go_wp2
  all_goals
    go_ret
    refine ⟨ret_bool ?_, rfl⟩
    rw [HN.out]
    first
      | (simp_all; done)
      | (simp_all; intros; omega)
end Go.Proofs.YtejjidbodfoiiaaGreatDoor
namespace Go.Proofs.YtejjidbodfoiiaaGreatDoor
open Go.RowKit
set_option linter.unusedVariables false
set_option linter.unusedSimpArgs false
attribute [local go_sem] B_data B_size

def flv (fs : List Fl) : List Value := fs.flatMap flC
theorem flv_append (a b : List Fl) : flv (a ++ b) = flv a ++ flv b := by simp [flv]
theorem flv_one (gs : List Fl) : ∀ u ∈ flv gs, u.oneCell' = true := by
  intro u hu
  obtain ⟨f, _, hf⟩ := List.mem_flatMap.1 hu
  simp [flC] at hf
  rcases hf with rfl | rfl <;> rfl
theorem Tryz.infoFile : (Tryz.prog.info? 39).map (fun i => (i.zero, i.size, i.bytes)) = some (some (.agg #[.string ⟨#[]⟩, .string ⟨#[]⟩]), 2, 32) := by kernel_rfl
theorem below_al {w X : World} (h : Below w.heap.size w X) (o : Obj) : Below w.heap.size w (X.alloc o) := h.alloc h.size o
/-- any list of files appended to a list in a block of the call's own -/
theorem run_appF (ty : TypeId) (W : World) (base M : Nat) (v : Value) (n : Nat) (fs : List Fl) (hE : W.ownsRow base 39 2 v n (flv fs))
    (A : Option Addr) (m c : Nat) (gs : List Fl) (hr : Rd W M 2 A m (flv gs)) (hn : n ≤ 1000000) (hm : m ≤ 1000000) (hbase : base ≤ W.heap.size) :
    ∃ A' c' w', (Builtin.append_ #[22, 22] ty #[v, .slice A m c]).run Tryz.prog W = .ok (.slice A' (n + m) c') w' ∧ w'.ownsRow base 39 2 (.slice A' (n + m) c') (n + m) (flv (fs ++ gs)) ∧ Below base W w' ∧ W.grownBy w' v.ownBlock := by
  obtain ⟨i0, hi, hz0, hz1, hz2⟩ := info_parts Tryz.infoFile
  have hl := hr.1
  have hgl := (hr.count flC 2 flC_len (by omega))
  obtain ⟨A0, c0, rfl, hle⟩ := own_form hE
  by_cases h0 : m = 0
  · subst h0
    have hx : gs = [] := List.eq_nil_of_length_eq_zero hgl
    subst hx
    rw [List.append_nil]
    cases A with
    | none =>
      have h := run_append_nothing (P := Tryz.prog) W 22 22 ty 39 i0 Tryz.underlying22 hi A0 n c0 hle (.slice none 0 c) (Src.ofNil W Tryz.underlying22 c)
      exact ⟨_, _, W, h, hE, Below.refl _ _, ⟨rfl, rfl, rfl, Nat.le_refl _, fun _ _ _ => rfl⟩⟩
    | some ad =>
      have h := run_append_nothing (P := Tryz.prog) W 22 22 ty 39 i0 Tryz.underlying22 hi A0 n c0 hle (.slice (some ad) 0 c) (Src.ofSlice W Tryz.underlying22 ad 0 c [] (by simp) (fun j u h => by simp at h) (fun u h => by cases h))
      exact ⟨_, _, W, h, hE, Below.refl _ _, ⟨rfl, rfl, rfl, Nat.le_refl _, fun _ _ _ => rfl⟩⟩
  · obtain ⟨ad, rfl, hlt, hc⟩ := hr.2 (by omega)
    obtain ⟨v', w', h1, h2, h3, _, _⟩ := run_append_own_at (P := Tryz.prog) W base 22 ty 39 i0 (.agg #[.string ⟨#[]⟩, .string ⟨#[]⟩]) 2 32 Tryz.underlying22 hi hz0 hz1 hz2 rfl (by decide) _ n (flv fs) hE ad m c (flv gs) hl hc (flv_one gs) (by simp only [maxLen]; omega) (by omega) hbase
    rw [← flv_append] at h2
    obtain ⟨g', cap, rfl, _, _⟩ := h2.form (by omega)
    exact ⟨_, _, w', h1, h2, below_of_grown h3 hbase fun k hk => (hE.lt k hk).1, h3⟩
/-- the same, as one operation of a plain region -/
theorem wpList_appF {ops : Array Oper} {rest : List Oper} {o : Oper} {a : Act} {Q : Exit → Act → World → Prop} (hgd : o.guard = none) (s y : Operand)
    (ho : o.op = .call { callee := .builtin .append, args := #[s, y], argTypes := #[22, 22] })
    (W : World) (base M : Nat) (v : Value) (n : Nat) (fs : List Fl) (hE : W.ownsRow base 39 2 v n (flv fs))
    (A : Option Addr) (m c : Nat) (gs : List Fl) (hr : Rd W M 2 A m (flv gs)) (hn : n ≤ 1000000) (hm : m ≤ 1000000) (hbase : base ≤ W.heap.size)
    (hs : a.eval s = v) (hy : a.eval y = .slice A m c)
    (h : ∀ A' c' w', w'.ownsRow base 39 2 (.slice A' (n + m) c') (n + m) (flv (fs ++ gs)) → Below base W w' → W.grownBy w' v.ownBlock → wpList Tryz.prog ops Q rest (a.put o.dst (.slice A' (n + m) c')) w') :
    wpList Tryz.prog ops Q (o :: rest) a W :=
  wpList_plain hgd fun _ hK => by
    obtain ⟨A', c', w', hr, h1, h2, h3⟩ := run_appF o.type W base M v n fs hE A m c gs hr hn hm hbase
    unfold Oper.wp execOp
    simp only [ho, resolve, invoke, builtin, Sem.run_bind, Sem.run_pure, Result.andThen_ok, List.map_toArray, List.map_cons, List.map_nil, hs, hy, hr]
    exact hK _ _ (h A' c' w' h1 h2 h3)
/-- the same, as one step of a region that draws -/
theorem step_appF {ops : Array Oper} {o : Oper} {a : Act} {K : Act → World → Prop} {Q : Exit → Act → World → Prop} {E : Prop} (hgd : o.guard = none) (s y : Operand)
    (ho : o.op = .call { callee := .builtin .append, args := #[s, y], argTypes := #[22, 22] })
    (W : World) (base M : Nat) (v : Value) (n : Nat) (fs : List Fl) (hE : W.ownsRow base 39 2 v n (flv fs))
    (A : Option Addr) (m c : Nat) (gs : List Fl) (hr : Rd W M 2 A m (flv gs)) (hn : n ≤ 1000000) (hm : m ≤ 1000000) (hbase : base ≤ W.heap.size)
    (hs : a.eval s = v) (hy : a.eval y = .slice A m c)
    (h : ∀ A' c' w', w'.ownsRow base 39 2 (.slice A' (n + m) c') (n + m) (flv (fs ++ gs)) → Below base W w' → W.grownBy w' v.ownBlock → K (a.put o.dst (.slice A' (n + m) c')) w') :
    if Region.wanted o (yielded ops a.tmps) = true then Oper.wp Tryz.prog o a W K Q else E := by
  have hw : Region.wanted o (yielded ops a.tmps) = true := by simp [Region.wanted, hgd]
  rw [if_pos hw]
  obtain ⟨A', c', w', hr, h1, h2, h3⟩ := run_appF o.type W base M v n fs hE A m c gs hr hn hm hbase
  unfold Oper.wp execOp
  simp only [ho, resolve, invoke, builtin, Sem.run_bind, Sem.run_pure, Result.andThen_ok, List.map_toArray, List.map_cons, List.map_nil, hs, hy, hr]
  exact h A' c' w' h1 h2 h3
/-- an empty list in a block of its own -/
theorem lit_own (w : World) (base : Nat) (hb : base ≤ w.heap.size) : (w.alloc (.cells #[] 39)).ownsRow base 39 2 (.slice (some ⟨w.heap.size, 0, none⟩) 0 0) 0 (flv []) := World.ownsRow_lit w #[] 0 hb (by decide) rfl
/-- a row of one file, made ahead of an append to another row -/
theorem rowP0 {Y w5 : World} {a b : Bs} {tb : Nat} {row : Option Nat} (hq : Y.heap[tb]? = some (.cells #[.string (B a), .string (B b)] 39 (0, 0))) (hg : Y.grownBy w5 row) (hne : some tb ≠ row) : Rd w5 w5.heap.size 2 (some ⟨tb, 0, none⟩) 1 (flv [(a, b)]) := by
  have hl := (Array.getElem?_eq_some_iff.1 hq).1
  have h5 := (hg.block tb hl hne).trans hq
  refine ⟨rfl, fun _ => ⟨_, rfl, (Array.getElem?_eq_some_iff.1 h5).1, fun j u hj => ?_⟩⟩
  rw [addr_lit, cell_of_row w5 tb _ _ _ _ h5]
  simpa [flv, flC] using hj
theorem rowP1 {X w5 : World} {a b : Bs} (hg : ((X.alloc (.cells #[.string (B a), .string (B b)] 39)).alloc (.cells #[] 39)).grownBy w5 (Value.slice (some ⟨X.heap.size + 1, 0, none⟩) 0 0).ownBlock) : Rd w5 w5.heap.size 2 (some ⟨X.heap.size, 0, none⟩) 1 (flv [(a, b)]) := by
  refine rowP0 ?_ hg ?_
  · exact ((below_alloc _ _).block X.heap.size (by simp)).trans (heap_alloc_new X _)
  · intro e
    injection e with e
    have e : X.heap.size = X.heap.size + 1 := e
    omega
theorem rowP2 {X w5 : World} {a b : Bs} (hg : ((X.alloc (.cells #[] 39)).alloc (.cells #[.string (B a), .string (B b)] 39)).grownBy w5 (Value.slice (some ⟨X.heap.size, 0, none⟩) 0 0).ownBlock) : Rd w5 w5.heap.size 2 (some ⟨X.heap.size + 1, 0, none⟩) 1 (flv [(a, b)]) := by
  refine rowP0 ?_ hg ?_
  · have := heap_alloc_new (X.alloc (.cells #[] 39)) (.cells #[.string (B a), .string (B b)] 39)
    simpa using this
  · intro e
    injection e with e
    have e : X.heap.size + 1 = X.heap.size := e
    omega
theorem own_al {w : World} {base e sz n : Nat} {v : Value} {xs : List Value} (h : w.ownsRow base e sz v n xs) (o : Obj) : (w.alloc o).ownsRow base e sz v n xs := h.alloc o
theorem own_dr {w : World} {base e sz n : Nat} {v : Value} {xs : List Value} (h : w.ownsRow base e sz v n xs) : w.drew.ownsRow base e sz v n xs := h
theorem below_dr {M : Nat} {w X : World} (h : Below M w X) : Below M w X.drew := h.drew
theorem lit_own1 (X : World) (T : Obj) (base : Nat) (hb : base ≤ X.heap.size) : ((X.alloc T).alloc (.cells #[] 39)).ownsRow base 39 2 (.slice (some ⟨X.heap.size + 1, 0, none⟩) 0 0) 0 (flv []) := by
  have e : (X.alloc T).heap.size = X.heap.size + 1 := by simp
  have h := lit_own (X.alloc T) base (by omega)
  rw [e] at h
  exact h
theorem gr_dr {X w : World} {row : Option Nat} (h : X.drew.grownBy w row) : X.grownBy w row := ⟨h.os, h.tape, h.output, h.size, h.block⟩
theorem small_snoc {fs : List Fl} {a b : Bs} (h : ∀ f ∈ fs, f.1.length ≤ 250 ∧ f.2.length ≤ 800) (ha : a.length ≤ 250) (hb : b.length ≤ 800) : ∀ f ∈ fs ++ [(a, b)], f.1.length ≤ 900000 ∧ f.2.length ≤ 50000 := by
  intro f hf
  rcases List.mem_append.1 hf with h1 | h1
  · have := h f h1; omega
  · rw [List.mem_singleton] at h1; subst h1; constructor <;> simp <;> omega
/-- is a fault known? -/
def knB (l : List Ft) (y : Ft) : Bool := l.any fun x => decide (x = y) || (decide (y.1 = anchorK) && decide (x = (fileK, y.2.1, y.2.2)))
theorem knB_take {l : List Ft} {k : Nat} (h : k < l.length) (y : Ft) : knB (l.take (k + 1)) y = (knB (l.take k) y || (decide (l[k] = y) || (decide (y.1 = anchorK) && decide (l[k] = (fileK, y.2.1, y.2.2))))) := by
  unfold knB
  rw [List.take_succ_eq_append_getElem h, List.any_append]
  simp
theorem knB_known {a b : List Ft} (h : Known a b) {y : Ft} (hy : y ∈ b) : knB a y = true := by
  unfold knB
  rw [List.any_eq_true]
  rcases h.2 y hy with h1 | ⟨h1, h2⟩
  · exact ⟨y, h1, by simp⟩
  · exact ⟨_, h2, by simp [h1]⟩
theorem ft_eq (x y : Ft) (W : World) : (binOp .eql 36 (.agg #[.string (B x.1), .string (B x.2.1), .string (B x.2.2)]) (.agg #[.string (B y.1), .string (B y.2.1), .string (B y.2.2)])).run Tryz.prog W = .ok (.bool (decide (x = y))) W := by
  obtain ⟨x1, x2, x3⟩ := x
  obtain ⟨y1, y2, y3⟩ := y
  go_simp
  by_cases h1 : x1 = y1 <;> by_cases h2 : x2 = y2 <;> by_cases h3 : x3 = y3 <;> simp [h1, h2, h3]
theorem ft_eqf (x : Ft) (y2 y3 : Bs) (W : World) : (binOp .eql 36 (.agg #[.string (B x.1), .string (B x.2.1), .string (B x.2.2)]) (.agg #[.string ⟨#[102, 105, 108, 101]⟩, .string (B y2), .string (B y3)])).run Tryz.prog W = .ok (.bool (decide (x = (fileK, y2, y3)))) W := ft_eq x (fileK, y2, y3) W
end Go.Proofs.YtejjidbodfoiiaaGreatDoor
