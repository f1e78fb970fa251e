/-
  Layer 44 (links): Outside: the references to other places, sorted, each once.
  Layer 44 (links): the law's page.
-/
import Derived.Test.YtejjidbodfoiiaaGreatDoorLkIJQ
import Derived.Sort.OwnSorted
import Derived.Lib.RowBridge
import Derived.Test.YtejjidbodfoiiaaGreatDoorMkAwE
namespace Go.Proofs.YtejjidbodfoiiaaGreatDoor
open Go.RowKit
set_option linter.unusedVariables false
set_option linter.unusedSimpArgs false
attribute [local go_sem] B_data B_size

theorem strs_enc (l : List Bs) : strs l = l.map encStr := rfl
/-- a slice of texts of the call's own, sorted -/
theorem sort_any {w : World} {base : Nat} {v : Value} {l : List Bs} (h : w.ownsRow base 9 1 v l.length (strs l)) (hl : l.length ≤ 1000000000) :
    Calls Tryz.prog 23 #[v] w fun e w' => e = .returned (.tuple #[]) ∧ w'.ownsRow base 9 1 v l.length (strs (l.mergeSort fun x y => decide (x ≤ y))) ∧ w.grownBy w' v.ownBlock := by
  rcases h.2 with ⟨rfl, h0⟩ | ⟨g, cap, cur, rfl, hb, hc, h1, h2, h3, h4⟩
  · have : l = [] := List.eq_nil_of_length_eq_zero h0
    subst this
    refine (Tryz.slices_Sort_string_none none 0 w).mono ?_
    rintro e w' ⟨rfl, rfl⟩
    exact ⟨rfl, by simpa using h, World.grownBy.refl _ _⟩
  · refine (Tryz.slices_Sort_string g 0 cap l w (holds_of_block hc (by rw [← strs_enc]; simpa using h4)) (Array.getElem?_eq_some_iff.1 hc).1 (by omega)).mono ?_
    rintro e w' ⟨rfl, n, os, rfl⟩
    exact ⟨rfl, ownsRow_sorted (List.length_mergeSort l) hb hc h1 h2 h3, grownBy_sorted _⟩
theorem compact_any {w : World} {base : Nat} {v : Value} {l : List Bs} (h : w.ownsRow base 9 1 v l.length (strs l)) (hl : l.length ≤ 1000000000) :
    Calls Tryz.prog 24 #[v] w fun e w' => ∃ v', e = .returned v' ∧ w'.ownsRow base 9 1 v' (Lib.compact l).length (strs (Lib.compact l)) ∧ w.grownBy w' v.ownBlock := by
  rcases h.2 with ⟨rfl, h0⟩ | ⟨g, cap, cur, rfl, hb, hc, h1, h2, h3, h4⟩
  · have : l = [] := List.eq_nil_of_length_eq_zero h0
    subst this
    refine (Tryz.slices_Compact_string_empty none 0 w).mono ?_
    rintro e w' ⟨rfl, rfl⟩
    have e0 : Lib.compact ([] : List Bs) = [] := rfl
    exact ⟨_, rfl, by rw [e0]; exact h, World.grownBy.refl _ _⟩
  · refine (Tryz.slices_Compact_string g 0 cap l w (holds_of_block hc (by rw [← strs_enc]; simpa using h4)) (by omega) h1).mono ?_
    rintro e w' ⟨rfl, q, rfl⟩
    have hcl := Lib.compact_length_le l
    have hlen : (Lib.compact l ++ List.replicate (l.length - (Lib.compact l).length) []).length = l.length := by rw [List.length_append, List.length_replicate]; omega
    have hs := ownsRow_sorted (w := w) (n := q) (os := #[]) (base := base) (ts := Lib.compact l ++ List.replicate (l.length - (Lib.compact l).length) []) hlen hb hc h1 h2 h3
    have hg := grownBy_sorted (w := w) (g := g) (n := q) (os := #[]) (Lib.compact l ++ List.replicate (l.length - (Lib.compact l).length) []).toArray
    rw [Sort.grow_empty] at hs hg
    refine ⟨_, rfl, ?_, hg⟩
    rcases hs.2 with ⟨e, _⟩ | ⟨g', cap', cur', e, hb', hc', h1', h2', h3', h4'⟩
    · cases e
    · injection e with e1 e2 e3
      injection e1 with e1
      injection e1 with e1
      subst e1 e3
      refine ⟨by rw [strs_len]; omega, .inr ⟨g, cap, cur', rfl, hb, hc', by omega, h2, h3', ?_⟩⟩
      have e6 : cur'.toList.take ((Lib.compact l).length * 1) = (cur'.toList.take (l.length * 1)).take ((Lib.compact l).length * 1) := by rw [List.take_take, Nat.min_eq_left (by omega)]
      rw [e6, h4', List.map_append, Nat.mul_one, List.take_append_of_le_length (by simp), List.take_of_length_le (by simp)]
      rfl
/-- the references to other places of files, in order -/
theorem outsTo_succ (fs : List Fl) (k : Nat) {f : Fl} (h : fs[k]? = some f) : outsTo fs (k + 1) = outsTo fs k ++ match sheet f with
    | none => []
    | some n => (refsN n).filter outB := by
  obtain ⟨hk, e⟩ := List.getElem?_eq_some_iff.1 h
  unfold outsTo
  rw [List.take_succ_eq_append_getElem hk, List.flatMap_append, e, List.flatMap_cons, List.flatMap_nil, List.append_nil]
  congr 1
theorem outsTo_len {fs : List Fl} (hf : ∀ f ∈ fs, f.2.length ≤ 50000) : ∀ k, k ≤ fs.length → (outsTo fs k).length ≤ 1600000 * k := by
  intro k
  induction k with
  | zero => intro _; simp [outsTo]
  | succ k ih =>
    intro hk
    have h1 := ih (by omega)
    have e : fs[k]? = some fs[k] := List.getElem?_eq_getElem (by omega)
    rw [outsTo_succ fs k e, List.length_append]
    cases hs : sheet fs[k] with
    | none => simp only [List.length_nil]; omega
    | some n =>
      have h2 := refs_le hs (hf fs[k] (List.getElem_mem _))
      have h3 := List.length_filter_le outB (refsN n)
      simp only
      omega
def outsN (fs : List Fl) : List Bs := Lib.compact ((outsTo fs fs.length).mergeSort fun x y => decide (x ≤ y))
set_option maxHeartbeats 4000000 in
set_option maxRecDepth 100000 in
theorem lout_any (fs : List Fl) (A : Option Addr) (n c : Nat) (w : World) (h : Rd w w.heap.size 2 A n (fs.flatMap flC)) (hn : n ≤ 100) (hf : ∀ f ∈ fs, f.1.length ≤ 900000 ∧ f.2.length ≤ 50000) :
    Calls Tryz.prog 9 #[.slice A n c] w (OPost (outsN fs) w) := by
  have hlen : fs.length = n := h.count flC 2 flC_len (by omega)
  subst hlen
  have HS := Lib.hid (fun V (hV : Rd V V.heap.size 2 A fs.length (fs.flatMap flC)) => sheets_any fs A fs.length c V hV (by omega) (fun f h => by have := hf f h; omega))
  have HF := Lib.hid hf
  clear hf
  go_enter Tryz.func9, Tryz.ntmps9
  go_wp2_with fail
  refine (HS.out _ h).mono ?_
  rintro e w1 ⟨sb, cs, rfl, hsb, hI, hb1⟩
  have hU := hI.u
  have hst := hI.lt
  clear HS hI
  generalize hT : w1.heap.size = t at *
  have hbt := hb1.size
  go_wp2
  go_loopw [3, 11] (fun fv i wr => ∃ (j : Nat), j ≤ fs.length ∧ i = .int .i64 j ∧ wr.ownsRow t 9 1 fv (outsTo fs j).length (strs (outsTo fs j)) ∧ Below w.heap.size w wr ∧ ShU wr sb t fs cs ∧ t ≤ wr.heap.size) (fun _ i _ => fs.length - (intOf i).toNat)
  case atStart => exact ⟨0, Nat.zero_le _, rfl, ⟨rfl, .inl ⟨rfl, rfl⟩⟩, hb1, hU, by omega⟩
  case round =>
    clear hU hb1
    obtain ⟨j, hj, rfl, hown, hb, hU, htw⟩ := hrel
    have hlo := outsTo_len (fs := fs) (fun f h => (HF.out f h).2) j hj
    by_cases hlt : j < fs.length
    · have hfj : fs[j]? = some fs[j] := List.getElem?_eq_getElem hlt
      have HT := Lib.hid (outsTo_succ fs j hfj)
      generalize fs[j] = f at *
      have hj1 : (j : Int) < (fs.length : Int) := by omega
      obtain ⟨hf1, hf2⟩ := HF.out f (List.mem_of_getElem? hfj)
      have hjc : j < cs.length := by rw [hU.len]; exact hlt
      have hoc : cs[j]? = some cs[j] := List.getElem?_eq_getElem hjc
      have hat := hU.at1 j f _ hfj hoc
      generalize cs[j] = oc at *
      cases hs : sheet f with
      | none =>
        rw [hs] at hat HT
        have hat : oc = none := hat
        subst hat
        have HT : Hid (outsTo fs (j + 1) = outsTo fs j) := by rw [HT.out]; simp [Hid]
        have z0 := hU.sh.cell hoc 0 _ (by omega) rfl
        have z1 := hU.sh.cell hoc 1 _ (by omega) rfl
        have z2 := hU.sh.cell hoc 2 _ (by omega) rfl
        have z3 := hU.sh.cell hoc 3 _ (by omega) rfl
        have z4 := hU.sh.cell hoc 4 _ (by omega) rfl
        rw [Nat.add_zero] at z0
        have hbA := below_alloc wr (.cells #[.bool false, .string ⟨#[]⟩, .string ⟨#[]⟩, .slice none 0 0, .slice none 0 0] 61)
        have hownA := own_below hown hbA
        have hUA := hU.keep fun b _ h => hbA.block b (by omega)
        have hBA := hb.trans (hbA.mono hb.size)
        have hsA := hbA.size
        rw [← HT.out] at hownA
        go_wp2
        go_roundw
        case rel => exact ⟨j + 1, by omega, by go_num, hownA, hBA, hUA, by omega⟩
        case measure => simp [intOf]; omega
      | some nd =>
        rw [hs] at hat HT
        obtain ⟨nc, rfl, hnd⟩ := hat
        have HT : Hid (outsTo fs (j + 1) = outsTo fs j ++ (refsN nd).filter outB) := HT.out
        have z0 := hU.sh.cell hoc 0 _ (by omega) rfl
        have z1 := hU.sh.cell hoc 1 _ (by omega) rfl
        have z2 := hU.sh.cell hoc 2 _ (by omega) rfl
        have z3 := hU.sh.cell hoc 3 _ (by omega) rfl
        have z4 := hU.sh.cell hoc 4 _ (by omega) rfl
        rw [Nat.add_zero] at z0
        obtain ⟨hz1, hz2, hz3⟩ := sheet_sz hs hf2
        have hrl := refs_le hs hf2
        have hbA := below_alloc wr (.cells #[.bool true, .string (B nc.nm), .string (B nc.tx), .slice nc.A nc.na nc.ca, .slice nc.K nc.nk nc.ck] 61)
        have hsA : (wr.alloc (.cells #[.bool true, .string (B nc.nm), .string (B nc.tx), .slice nc.A nc.na nc.ca, .slice nc.K nc.nk nc.ck] 61)).heap.size = wr.heap.size + 1 := by simp
        have hnB : NdB (wr.alloc (.cells #[.bool true, .string (B nc.nm), .string (B nc.tx), .slice nc.A nc.na nc.ca, .slice nc.K nc.nk nc.ck] 61)) (wr.alloc (.cells #[.bool true, .string (B nc.nm), .string (B nc.tx), .slice nc.A nc.na nc.ca, .slice nc.K nc.nk nc.ck] 61)).heap.size nd nc := NdAt.keep (fun b hb => by rw [hsA]; omega) (fun b hb => hbA.block b (by omega)) nd nc hnd
        have HRF := Lib.hid (refs_any nd nc _ hnB hz2 (by omega))
        clear hnd hnB
        generalize refsN nd = R at *
        go_wp2_with fail
        refine HRF.out.mono ?_
        intro e w3 hP3
        obtain ⟨A5, c5, rb, rfl, hR5, hrb, hrl5, hb3⟩ := hP3.row sb (by omega)
        have hb4 := hbA.trans (hb3.mono (by omega))
        have hown3 := own_below hown hb4
        have hU3 := hU.keep fun b _ h => hb4.block b (by omega)
        have hB3 := hb.trans (hb4.mono hb.size)
        have hs3 := hb4.size
        obtain ⟨A1, c1, rfl, hnc⟩ := own_form hown3
        have hno : (Value.slice A1 (outsTo fs j).length c1).ownBlock ≠ some rb := by
          intro ho
          have := hown.lt rb ho
          rcases hrb with e | e <;> omega
        clear HRF hP3 z0 z1 z2 z3 z4
        go_wp2
        go_loopw [3, 22] (fun fv i wr => ∃ (i2 : Nat), i2 ≤ R.length ∧ i = .int .i64 i2 ∧ wr.ownsRow t 9 1 fv (outsTo fs j ++ (R.take i2).filter outB).length (strs (outsTo fs j ++ (R.take i2).filter outB)) ∧ Below w.heap.size w wr ∧ ShU wr sb t fs cs ∧ t ≤ wr.heap.size ∧ RdS wr (fun b => b = rb) 1 A5 R.length (strs R) ∧ (fv.ownBlock ≠ some rb ∧ rb < wr.heap.size)) (fun _ i _ => R.length - (intOf i).toNat)
        case atStart => exact ⟨0, Nat.zero_le _, rfl, by simpa using hown3, hB3, hU3, by omega, hR5, hno, hrl5⟩
        case round =>
          clear hown3 hR5 hno hrl5 hU3 hB3 hown hb hU
          obtain ⟨i2, hi2, rfl, hown, hb, hU, htw, hR5, hno, hrl5⟩ := hrel
          by_cases hlt2 : i2 < R.length
          · have hrr : R[i2]? = some R[i2] := List.getElem?_eq_getElem hlt2
            have HT2 : Hid ((R.take (i2 + 1)).filter outB = (R.take i2).filter outB ++ if outB R[i2] then [R[i2]] else []) := by rw [List.take_succ_eq_append_getElem hlt2, List.filter_append]; simp [List.filter_cons, Hid]
            have hfl := List.length_filter_le outB (R.take i2)
            rw [List.length_take] at hfl
            obtain ⟨ad, rfl, hc⟩ := (hR5.rd (M := rb + 1) (fun b hb => by omega)).str hlt2
            rw [show R.getD i2 [] = R[i2] by simp [List.getD, hrr]] at hc
            have hrm := hz3 _ (List.getElem_mem hlt2)
            generalize R[i2] = r at *
            have HO := Lib.hid (fun V => outside_any r V (by omega))
            cases hout : outB r
            · rw [hout] at HO
              have HT3 : Hid (outsTo fs j ++ (R.take (i2 + 1)).filter outB = outsTo fs j ++ (R.take i2).filter outB) := by rw [HT2.out, hout]; simp [Hid]
              rw [← HT3.out] at hown
              go_wp2_with fail
              refine (HO.out _).mono ?_
              rintro e w5 ⟨rfl, rfl⟩
              go_wp2
              go_roundw
              case rel => exact ⟨i2 + 1, by omega, by go_num, hown, hb, hU, htw, hR5, hno, hrl5⟩
              case measure => simp [intOf]; omega
            · rw [hout] at HO
              have HT3 : Hid (outsTo fs j ++ (R.take (i2 + 1)).filter outB = outsTo fs j ++ (R.take i2).filter outB ++ [r]) := by rw [HT2.out, hout]; simp [Hid]
              obtain ⟨A2, c2, rfl, hnc2⟩ := own_form hown
              generalize hV2 : outsTo fs j ++ (R.take i2).filter outB = V2 at *
              have hV2l : V2.length ≤ 1000000000 := by rw [← hV2, List.length_append]; omega
              go_wp2_with fail
              refine (HO.out _).mono ?_
              rintro e w5 ⟨rfl, rfl⟩
              clear hnc
              go_wp2_with (at_builtin; (refine wpList_app2 rfl (.tmp 28) (.tmp 30) 25 rfl 9 (.string ⟨#[]⟩) 1 16 Tryz.underlying25 Tryz.info9 rfl (by omega) w5 [.string (B r)] rfl (by simp; rfl) t (.slice A2 V2.length c2) V2.length (strs V2) hown rfl rfl (by omega) (by omega) htw ?_))
              intro v' w6 hown6 hgr hb6 hat
              have e1 : strs V2 ++ [.string (B r)] = strs (V2 ++ [r]) := strs_snoc V2 r
              have e2 : V2.length + 1 = (V2 ++ [r]).length := by simp
              rw [e1, e2, ← HT3.out] at hown6
              have hs6 := hgr.size
              have hU6 := hU.keep fun b _ h => hb6.block b (by omega)
              have hB6 := hb.trans (hb6.mono (by omega))
              have hR6 : RdS w6 (fun b => b = rb) 1 (some ad) R.length (strs R) := hR5.keep fun b hb => by subst hb; exact hgr.block b hrl5 fun e => hno e.symm
              have hno6 : v'.ownBlock ≠ some rb := fun e => by
                rcases hat with h | h
                · exact hno (h ▸ e)
                · rw [h] at e
                  injection e with e
                  omega
              clear hgr hb6 hat hR5 hown
              go_wp2
              go_roundw
              case rel => exact ⟨i2 + 1, by omega, by go_num, hown6, hB6, hU6, by omega, hR6, hno6, by omega⟩
              case measure => simp [intOf]; omega
          · rw [List.take_of_length_le (by omega), ← HT.out] at hown
            go_wp2
            go_roundw
            case rel => exact ⟨j + 1, by omega, by go_num, hown, hb, hU, htw⟩
            case measure => simp [intOf]; omega
    · have hjn : j = fs.length := by omega
      subst hjn
      have HSO := Lib.hid (sort_any hown (by omega))
      go_wp2_with fail
      refine HSO.out.mono ?_
      rintro e w5 ⟨rfl, hown5, hg5⟩
      have hb5 : Below w.heap.size w w5 := hb.grown hg5 hb.size fun k hk => by have := (hown.lt k hk).1; omega
      have hl5 : ((outsTo fs fs.length).mergeSort fun x y => decide (x ≤ y)).length = (outsTo fs fs.length).length := List.length_mergeSort _
      rw [← hl5] at hown5
      have HCO := Lib.hid (compact_any hown5 (by omega))
      go_wp2_with fail
      refine HCO.out.mono ?_
      rintro e w6 ⟨v6, rfl, hown6, hg6⟩
      have hb6 : Below w.heap.size w w6 := hb5.grown hg6 hb5.size fun k hk => by have := (hown5.lt k hk).1; omega
      clear HSO HCO
      go_wp2
      go_ret
      exact ⟨v6, rfl, own_mono hown6 (by omega), hb6⟩
end Go.Proofs.YtejjidbodfoiiaaGreatDoor
namespace Go.Proofs.YtejjidbodfoiiaaGreatDoor
open Go.RowKit
set_option linter.unusedVariables false
set_option linter.unusedSimpArgs false
attribute [local go_sem] B_data B_size

def tN : Nd := .mk [] [116] [] []
def aN (href : Bs) : Nd := .mk [97] [] [(hrefK, href)] [tN]
/-- the law's page -/
def pgN (id href : Bs) : Nd := .mk [112] [] [(idK, id)] [aN href]
theorem pg_sz (id href : Bs) (h1 : id.length ≤ 1000) (h2 : href.length ≤ 1000) : szN (pgN id href) ≤ 100000 := by
  have e1 := esc_len6 id
  have e2 := esc_len6 href
  have a1 : (mkAs [(idK, id)]).length ≤ 7000 := by simp [mkAs, idK]; omega
  have a2 : (mkAs [(hrefK, href)]).length ≤ 7000 := by simp [mkAs, hrefK]; omega
  have a3 : (mkAs []).length = 0 := rfl
  simp only [pgN, aN, tN, szN, szL, a3]
  simp
  omega
set_option maxHeartbeats 4000000 in
set_option maxRecDepth 100000 in
theorem page_any (id href : Bs) (w : World) (h1 : id.length ≤ 1000) (h2 : href.length ≤ 1000) :
    Calls Tryz.prog 19 #[.string (B id), .string (B href)] w (TPost (pgN id href) w) := by
  obtain ⟨W1, hW1⟩ : ∃ W1, W1 = w.alloc (.cells #[.string ⟨#[104, 114, 101, 102]⟩, .string (B href)] 71) := ⟨_, rfl⟩
  obtain ⟨W2, hW2⟩ : ∃ W2, W2 = W1.alloc (.cells #[.string ⟨#[]⟩, .string ⟨#[116]⟩, .slice none 0 0, .slice none 0 0] 65) := ⟨_, rfl⟩
  obtain ⟨W3, hW3⟩ : ∃ W3, W3 = W2.alloc (.cells #[.string ⟨#[97]⟩, .string ⟨#[]⟩, .slice (some ⟨w.heap.size, 0, none⟩) 1 1, .slice (some ⟨w.heap.size + 1, 0, none⟩) 1 1] 65) := ⟨_, rfl⟩
  obtain ⟨W4, hW4⟩ : ∃ W4, W4 = W3.alloc (.cells #[.string ⟨#[105, 100]⟩, .string (B id)] 71) := ⟨_, rfl⟩
  obtain ⟨W5, hW5⟩ : ∃ W5, W5 = W4.alloc (.cells #[.string ⟨#[97]⟩, .string ⟨#[]⟩, .slice (some ⟨w.heap.size, 0, none⟩) 1 1, .slice (some ⟨w.heap.size + 1, 0, none⟩) 1 1] 65) := ⟨_, rfl⟩
  have s1 : W1.heap.size = w.heap.size + 1 := by rw [hW1]; simp
  have s2 : W2.heap.size = w.heap.size + 1 + 1 := by rw [hW2]; simp [s1]
  have s3 : W3.heap.size = w.heap.size + 1 + 1 + 1 := by rw [hW3]; simp [s2]
  have s4 : W4.heap.size = w.heap.size + 1 + 1 + 1 + 1 := by rw [hW4]; simp [s3]
  have b1 : Below w.heap.size w W1 := by rw [hW1]; exact below_alloc w _
  have b2 : Below W1.heap.size W1 W2 := by rw [hW2]; exact below_alloc W1 _
  have b3 : Below W2.heap.size W2 W3 := by rw [hW3]; exact below_alloc W2 _
  have b4 : Below W3.heap.size W3 W4 := by rw [hW4]; exact below_alloc W3 _
  have b5 : Below W4.heap.size W4 W5 := by rw [hW5]; exact below_alloc W4 _
  have b35 := b4.trans (b5.mono (by omega))
  have b25 := b3.trans (b35.mono (by omega))
  have b15 := b2.trans (b25.mono (by omega))
  have b05 := b1.trans (b15.mono (by omega))
  have r1 : Rd W1 (w.heap.size + 1) 2 (some ⟨w.heap.size, 0, none⟩) 1 (prF (hrefK, href)) := by rw [hW1]; exact rd_newN w (prF (hrefK, href)) _ 2 1 rfl
  have r2 : Rd W2 (W1.heap.size + 1) 4 (some ⟨W1.heap.size, 0, none⟩) 1 (NC.cells ⟨[], [116], none, 0, 0, none, 0, 0⟩) := by rw [hW2]; exact rd_newN W1 (NC.cells ⟨[], [116], none, 0, 0, none, 0, 0⟩) _ 4 1 rfl
  have r4 : Rd W4 (W3.heap.size + 1) 2 (some ⟨W3.heap.size, 0, none⟩) 1 (prF (idK, id)) := by rw [hW4]; exact rd_newN W3 (prF (idK, id)) _ 2 1 rfl
  have r5 : Rd W5 (W4.heap.size + 1) 4 (some ⟨W4.heap.size, 0, none⟩) 1 (NC.cells ⟨[97], [], some ⟨w.heap.size, 0, none⟩, 1, 1, some ⟨w.heap.size + 1, 0, none⟩, 1, 1⟩) := by
    rw [hW5]; exact rd_newN W4 (NC.cells ⟨[97], [], some ⟨w.heap.size, 0, none⟩, 1, 1, some ⟨w.heap.size + 1, 0, none⟩, 1, 1⟩) _ 4 1 rfl
  have s5 : W5.heap.size = w.heap.size + 1 + 1 + 1 + 1 + 1 := by rw [hW5]; simp [s4]
  have R1 : Rd W5 W5.heap.size 2 (some ⟨w.heap.size, 0, none⟩) 1 (prF (hrefK, href)) := (r1.below (b15.mono (by omega))).more (by omega)
  have R2 : Rd W5 W5.heap.size 4 (some ⟨w.heap.size + 1, 0, none⟩) 1 (NC.cells ⟨[], [116], none, 0, 0, none, 0, 0⟩) := by
    have := (r2.below (M := W1.heap.size + 1) (b25.mono (by omega))).more (M' := W5.heap.size) (by omega)
    rw [s1] at this; exact this
  have R4 : Rd W5 W5.heap.size 2 (some ⟨w.heap.size + 1 + 1 + 1, 0, none⟩) 1 (prF (idK, id)) := by
    have := (r4.below (M := W3.heap.size + 1) (b5.mono (by omega))).more (M' := W5.heap.size) (by omega)
    rw [s3] at this; exact this
  have R5 : Rd W5 W5.heap.size 4 (some ⟨w.heap.size + 1 + 1 + 1 + 1, 0, none⟩) 1 (NC.cells ⟨[97], [], some ⟨w.heap.size, 0, none⟩, 1, 1, some ⟨w.heap.size + 1, 0, none⟩, 1, 1⟩) := by
    have := r5.more (M' := W5.heap.size) (by omega)
    rw [s4] at this; exact this
  have hT : NdAt W5 (fun b => b < W5.heap.size) tN ⟨[], [116], none, 0, 0, none, 0, 0⟩ := ⟨rfl, rfl, rd0, [], rd0, rfl⟩
  have hA : NdAt W5 (fun b => b < W5.heap.size) (aN href) ⟨[97], [], some ⟨w.heap.size, 0, none⟩, 1, 1, some ⟨w.heap.size + 1, 0, none⟩, 1, 1⟩ := ⟨rfl, rfl, R1.rdB, [⟨[], [116], none, 0, 0, none, 0, 0⟩], R2.rdB, hT, rfl⟩
  have hP : NdB W5 W5.heap.size (pgN id href) ⟨[112], [], some ⟨w.heap.size + 1 + 1 + 1, 0, none⟩, 1, 1, some ⟨w.heap.size + 1 + 1 + 1 + 1, 0, none⟩, 1, 1⟩ := ⟨rfl, rfl, R4.rdB, [⟨[97], [], some ⟨w.heap.size, 0, none⟩, 1, 1, some ⟨w.heap.size + 1, 0, none⟩, 1, 1⟩], R5.rdB, hA, rfl⟩
  have hsz := pg_sz id href h1 h2
  obtain ⟨TX, hTX⟩ : ∃ TX, TX = (if chk (pgN id href) = 0 then mku (pgN id href) else []) := ⟨_, rfl⟩
  obtain ⟨CK, hCK⟩ : ∃ CK, CK = chk (pgN id href) := ⟨_, rfl⟩
  have C := Lib.hid ((text_any (pgN id href) _ W5 hP (ok_of_sz _ _ (by omega)) (by omega)).mono (R' := fun e w' => e = .returned (.tuple #[.string (B TX), .int .i64 CK]) ∧ Below W5.heap.size W5 w') (fun e w' h => by rw [hTX, hCK]; exact h))
  have HFIN : Hid (∀ w', Below w.heap.size w w' → TPost (pgN id href) w (.returned (.tuple #[.string (B TX), .int .i64 CK])) w') := fun w' hb => by rw [hTX, hCK]; exact ⟨rfl, hb⟩
  clear hTX hCK
  subst hW5 hW4 hW3 hW2 hW1
  clear s1 s2 s3 s4 s5 b1 b2 b3 b4 b5 b35 b25 b15 r1 r2 r4 r5 R1 R2 R4 R5 hT hA hP
  generalize pgN id href = nd at *
  go_enter Tryz.func19, Tryz.ntmps19
  go_wp2_with fail
  refine C.out.mono ?_
  rintro e w6 ⟨rfl, hb6⟩
  clear C
  go_wp2
  go_ret2
  exact HFIN.out _ (b05.trans (hb6.mono b05.size))
theorem chk_tN : chk tN = 0 := by decide +kernel
theorem chkAs_one (k v : Bs) (hk : nameB k = true) (hv : validB v = true) : chkAs [] [(k, v)] = 0 := by
  simp [chkAs, hk, hv]
theorem chk_pg (id href : Bs) (h1 : validB id = true) (h2 : validB href = true) : chk (pgN id href) = 0 := by
  have e1 := chkAs_one idK id (by decide +kernel) h1
  have e2 := chkAs_one hrefK href (by decide +kernel) h2
  have ha : chk (aN href) = 0 := by
    rw [aN, chk_iff]
    refine .inr ⟨by decide, by decide +kernel, rfl, fun h => absurd h (by decide +kernel), e2, ?_⟩
    rw [chkKs, chkKs]
    simp [chk_tN]
  rw [pgN, chk_iff]
  refine .inr ⟨by decide, by decide +kernel, rfl, fun h => absurd h (by decide +kernel), e1, ?_⟩
  rw [chkKs, chkKs]
  simp [ha]
theorem vals_pg (id href : Bs) : vals idK (pgN id href) = [id] ∧ vals hrefK (pgN id href) = [href] ∧ vals srcK (pgN id href) = [] := by
  refine ⟨?_, ?_, ?_⟩ <;> simp [pgN, aN, tN, vals, valsL, valAs, idK, hrefK, srcK]
theorem refs_pg (id href : Bs) : refsN (pgN id href) = [href] := by
  unfold refsN
  rw [(vals_pg id href).2.1, (vals_pg id href).2.2]; rfl
/-- what was written is read -/
theorem read_pg (id href : Bs) (h1 : validB id = true) (h2 : validB href = true) : readN (mku (pgN id href)) = some (pgN id href) := by
  have h := pTop_ok (pgN id href) (chk_pg id href h1 h2) [] (fun h => absurd h (by simp [pgN, Nd.nm]))
  rw [List.append_nil] at h
  unfold readN
  rw [h]
end Go.Proofs.YtejjidbodfoiiaaGreatDoor
