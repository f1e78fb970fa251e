/-
  Layer 44 (links): the walk of LinksOthers.
-/
import Derived.Test.YtejjidbodfoiiaaGreatDoorLkXYZ
namespace Go.Proofs.YtejjidbodfoiiaaGreatDoor
open Go.RowKit
set_option linter.unusedVariables false
set_option linter.unusedSimpArgs false
attribute [local go_sem] B_data B_size
attribute [local go_sem ↓] ft_eq ft_eqf

set_option maxHeartbeats 60000000 in
set_option maxRecDepth 100000 in
theorem linksOthers_walk (W : World) (A : Option Addr) (n c : Nat) (fs : List Fl) (h0 : Rd W W.heap.size 2 A n (fs.flatMap flC)) (l0 : n ≤ c ∧ c ≤ maxLen) (a b : Bs) (hG : Fil.Glob W) :
    Calls Tryz.prog 5 #[.slice A n c, .agg #[.string (B a), .string (B b)]] W (fun e W' => e = .returned (.bool true) ∧ Below W.heap.size W W') := by
  have hml : maxLen ≤ 9223372036854775807 := by decide
  have hlen : fs.length = n := h0.count flC 2 flC_len (by omega)
  have HFW := Lib.hid (fun V (hV : Rd V V.heap.size 2 A n (fs.flatMap flC)) => few_any fs A n c V hV (by omega))
  have HAW := Lib.hid (fun V (hV : Fil.Glob V) => lawake_any V hV)
  have hbw := below_alloc W (.cells #[.string (B a), .string (B b)] 39)
  go_enter Tryz.func5, Tryz.ntmps5
  go_wp2_with fail
  have f0 : (W.alloc (.cells #[.string (B a), .string (B b)] 39)).cell? ⟨W.heap.size, 0, none⟩ = some (.string (B a)) := by simp
  have f1 : (W.alloc (.cells #[.string (B a), .string (B b)] 39)).cell? ⟨W.heap.size, 1, none⟩ = some (.string (B b)) := by simp
  refine (HFW.out _ ((h0.below hbw).more hbw.size)).mono ?_
  rintro e w1 ⟨rfl, hb1⟩
  have hB1 := hbw.trans (hb1.mono hbw.size)
  have f0 := keeps hb1 (Nat.le_refl _) f0
  have f1 := keeps hb1 (Nat.le_refl _) f1
  clear HFW hbw hb1
  cases hfw : fewB fs
  · go_wp2_with fail
    refine (HAW.out _ (hG.below hB1 (Nat.le_refl _))).mono ?_
    rintro e w9 ⟨rfl, hb9⟩
    have hB9 := hB1.trans (hb9.mono hB1.size)
    go_wp2
    go_ret
    exact ⟨rfl, hB9⟩
  · have hn6 : fs.length ≤ 6 := by unfold fewB at hfw; simp at hfw; exact hfw.1
    have hsm : ∀ f ∈ fs, f.1.length ≤ 250 ∧ f.2.length ≤ 800 := fun f hf => by unfold fewB smF at hfw; simp at hfw; exact hfw.2 f.1 f.2 hf
    by_cases ha : a.length ≤ 250
    · have d1 : decide ((250 : Int) < (a.length : Int)) = false := by simp; omega
      by_cases hb : b.length ≤ 800
      · have d2 : decide ((800 : Int) < (b.length : Int)) = false := by simp; omega
        have HPG := Lib.hid (fun V => paged_any a V (by omega))
        cases hnm : named a
        · rw [hnm] at HPG
          go_wp2_with fail
          refine (HPG.out _).mono ?_
          rintro e w2 ⟨rfl, rfl⟩
          subst hlen
          have hwl : W.heap.size < w2.heap.size := World.block_lt_of_cell? w2 _ f0
          clear HPG
          go_wp2
          go_loopw [5] (fun i wr => ∃ (j : Nat), j ≤ fs.length ∧ i = .int .i64 j ∧ Below w2.heap.size w2 wr) (fun i _ => fs.length - (intOf i).toNat)
          case atStart => exact ⟨0, Nat.zero_le _, rfl, .refl _ _⟩
          case round =>
            obtain ⟨j, hj, rfl, hb2⟩ := hrel
            have hB2 := hB1.trans (hb2.mono hB1.size)
            have f0 := keeps hb2 (Nat.le_refl _) f0
            have f1 := keeps hb2 (Nat.le_refl _) f1
            by_cases hlt : j < fs.length
            · have hfj : fs[j]? = some fs[j] := List.getElem?_eq_getElem hlt
              generalize fs[j] = f at *
              obtain ⟨bb, o, rfl, hbm, hcell⟩ := (h0.below hB2).elem flC 2 flC_len (by omega) hfj
              have c0 : wr.cell? ⟨bb, o + j * 2, none⟩ = some (.string (B f.1)) := hcell 0 _ rfl
              have hj1 : (j : Int) < (fs.length : Int) := by omega
              clear hcell
              cases hfa : f.1 == a
              · go_wp2
                go_quiet (fail)
                go_wp2
                go_roundw
                case rel => exact ⟨j + 1, by omega, by go_num, below_drewN hb2 _⟩
                case measure => simp [intOf]; omega
              · go_wp2
                go_quiet (fail)
                have hB3 := below_drewN hB2 nq
                go_wp2_with fail
                refine (HAW.out _ (hG.below hB3 (Nat.le_refl _))).mono ?_
                rintro e w9 ⟨rfl, hb9⟩
                have hB9 := hB3.trans (hb9.mono hB3.size)
                go_wp2
                go_ret
                exact ⟨rfl, hB9⟩
            · go_wp2_with fail
              refine (lcheck_any fs A fs.length c wr ((h0.below hB2).more hB2.size) (by omega) (fun f hf => by have := hsm f hf; omega) (hG.below hB2 (Nat.le_refl _))).mono ?_
              rintro e w3 ⟨A1, c1, rfl, hf3, hb3⟩
              have hB3 := hB2.trans (hb3.mono hB2.size)
              have f0 := keeps hb3 (Nat.le_refl _) f0
              have f1 := keeps hb3 (Nat.le_refl _) f1
              go_wp2_with fail
              have hwl3 : W.heap.size < w3.heap.size := World.block_lt_of_cell? w3 _ f0
              have hF0 := Lib.hid f0
              have hF1 := Lib.hid f1
              go_region_law
                (first
                  | (refine step_appF (by rfl) (.tmp 49) (.tmp 50) (by rfl) _ w3.heap.size W.heap.size _ 0 [] (by repeat (first | exact lit_own1 _ _ w3.heap.size (show Below w3.heap.size w3 _ from (by repeat (first | exact Below.refl _ _ | refine below_dr ?_ | refine below_al ?_ _))).size | exact lit_own _ w3.heap.size (show Below w3.heap.size w3 _ from (by repeat (first | exact Below.refl _ _ | refine below_dr ?_ | refine below_al ?_ _))).size | apply own_dr | apply own_al)) A fs.length c fs (h0.below (by repeat (first | exact hB3 | refine below_dr ?_ | refine below_al ?_ _))) (by omega) (by omega) (show Below w3.heap.size w3 _ from (by repeat (first | exact Below.refl _ _ | refine below_dr ?_ | refine below_al ?_ _))).size (by rfl) (by rfl) ?_; intro A5 c5 w5 ho5 hb5 hg5; simp only [Nat.zero_add, List.nil_append] at ho5; have hX5 := Lib.hid ((show Below w3.heap.size w3 _ from (by repeat (first | exact Below.refl _ _ | refine below_dr ?_ | refine below_al ?_ _))).trans hb5); have f0 := (hX5.out.cell (p := ⟨W.heap.size, 0, none⟩) hwl3).trans hF0.out; have f1 := (hX5.out.cell (p := ⟨W.heap.size, 1, none⟩) hwl3).trans hF1.out; (first | have hT5 := Lib.hid (rowP1 hg5) | have hT5 := Lib.hid (rowP2 hg5) | have hT5 := Lib.hid (rowP1 (gr_dr hg5)) | have hT5 := Lib.hid (rowP2 (gr_dr hg5)) | skip); clear hg5 hb5)
                  | (refine step_appF (by rfl) (.tmp 51) (.tmp 53) (by rfl) _ w3.heap.size _ (.slice A5 fs.length c5) fs.length fs (by repeat (first | exact ho5 | apply own_dr | apply own_al)) _ 1 1 [(a, b)] (by first | exact file_row _ a b | exact hT5.out | exact (file_row _ a b).below (Below.refl _ _).drew | exact hT5.out.below (Below.refl _ _).drew) (by omega) (by omega) (hX5.out.trans ((show Below w5.heap.size w5 _ from (by repeat (first | exact Below.refl _ _ | refine below_dr ?_ | refine below_al ?_ _))).mono hX5.out.size)).size (by rfl) (by rfl) ?_; intro A6 c6 w6 ho6 hb6 hg6; have hX6 := Lib.hid ((hX5.out.trans ((show Below w5.heap.size w5 _ from (by repeat (first | exact Below.refl _ _ | refine below_dr ?_ | refine below_al ?_ _))).mono hX5.out.size)).trans hb6); clear hg6 hb6)
                  | (go_simp; go_at_call 17; refine (lcheck_any (fs ++ [(a, b)]) A6 (fs.length + 1) c6 _ (Rd.of_own ho6) (by omega) (small_snoc hsm ha hb) (hG.below (hB3.trans (hX6.out.mono hB3.size)) (Nat.le_refl _))).mono ?_; rintro e w7 ⟨A7, c7, rfl, hf7, hb7⟩; have hX7 := Lib.hid (hX6.out.trans (hb7.mono hX6.out.size)); clear hb7))
              all_goals
                have hLb : (faults (fs ++ [(a, b)])).length ≤ 20000000 := by
                  have h := faultsTo_len (fs := fs ++ [(a, b)]) (fun f hf => (small_snoc hsm ha hb f hf).2) (fs ++ [(a, b)]).length (Nat.le_refl _)
                  have h2 : (fs ++ [(a, b)]).length = fs.length + 1 := by simp
                  unfold faults; omega
                have hLa : (faults fs).length ≤ 20000000 := by
                  have h := faultsTo_len (fs := fs) (fun f hf => by have := hsm f hf; omega) fs.length (Nat.le_refl _)
                  unfold faults; omega
                have hKN := Lib.hid (known_faults (fs := fs) (f := (a, b)) hnm)
                have hFF := Lib.hid (fun x hx => file_faults (fs := fs ++ [(a, b)]) (x := x) hx)
                have hX8 : Below w3.heap.size w3 w7 := hX7.out
                have g0 := (hX8.cell (p := ⟨W.heap.size, 0, none⟩) hwl3).trans hF0.out
                have g1 := (hX8.cell (p := ⟨W.heap.size, 1, none⟩) hwl3).trans hF1.out
                have hrA := hf3.below hX8
                have hrB := hf7
                clear hX7 hX6 hX5 hF0 hF1 ho6 ho5 hf3 hf7
                generalize hFA : faults fs = FA at *
                generalize hFB : faults (fs ++ [(a, b)]) = FB at *
                go_wp2
                go_loopw [8] (fun i wr => ∃ (j : Nat), j ≤ FB.length ∧ i = .int .i64 j ∧ Below w7.heap.size w7 wr) (fun i _ => FB.length - (intOf i).toNat)
                case atStart => exact ⟨0, Nat.zero_le _, rfl, .refl _ _⟩
                case round =>
                  obtain ⟨j, hj, rfl, hb8⟩ := hrel
                  by_cases hlt : j < FB.length
                  · have hfj : FB[j]? = some FB[j] := List.getElem?_eq_getElem hlt
                    have hmem := List.getElem_mem hlt
                    generalize FB[j] = y at *
                    have hj1 : (j : Int) < (FB.length : Int) := by omega
                    obtain ⟨bb, o, rfl, hbm, hcell⟩ := (hrB.below hb8).elem ftC 3 ftC_len (by omega) hfj
                    go_wp2
                    go_loopw [9, 10] (fun kv i wr => ∃ (k : Nat), k ≤ FA.length ∧ i = .int .i64 k ∧ kv = .bool (knB (FA.take k) y) ∧ Below w7.heap.size w7 wr) (fun _ i _ => FA.length - (intOf i).toNat)
                    case atStart => exact ⟨0, Nat.zero_le _, rfl, rfl, hb8⟩
                    case round =>
                      obtain ⟨k, hk, rfl, rfl, hb9⟩ := hrel
                      by_cases hlt2 : k < FA.length
                      · have hfk : FA[k]? = some FA[k] := List.getElem?_eq_getElem hlt2
                        have HK := Lib.hid (knB_take hlt2 y)
                        generalize FA[k] = x at *
                        have hk1 : (k : Int) < (FA.length : Int) := by omega
                        obtain ⟨b2, o2, rfl, hbm2, hcell2⟩ := (hrA.below (hb9.mono hX8.size)).elem ftC 3 ftC_len (by omega) hfk
                        have x0 : wr.cell? ⟨b2, o2 + k * 3, none⟩ = some (.string (B x.1)) := hcell2 0 _ rfl
                        have x1 : wr.cell? ⟨b2, o2 + k * 3 + 1, none⟩ = some (.string (B x.2.1)) := hcell2 1 _ rfl
                        have x2 : wr.cell? ⟨b2, o2 + k * 3 + 2, none⟩ = some (.string (B x.2.2)) := hcell2 2 _ rfl
                        obtain ⟨b3, o3, e3, hbm3, hcell3⟩ := (hrB.below hb9).elem ftC 3 ftC_len (by omega) hfj
                        injection e3 with e3
                        injection e3 with e3 e4
                        subst e3 e4
                        have y0 : wr.cell? ⟨bb, o + j * 3, none⟩ = some (.string (B y.1)) := hcell3 0 _ rfl
                        have y1 : wr.cell? ⟨bb, o + j * 3 + 1, none⟩ = some (.string (B y.2.1)) := hcell3 1 _ rfl
                        have y2 : wr.cell? ⟨bb, o + j * 3 + 2, none⟩ = some (.string (B y.2.2)) := hcell3 2 _ rfl
                        generalize hKB : knB (FA.take k) y = kb at *
                        clear hcell2 hcell3
                        have hbd : ∀ q, Below w7.heap.size w7 (wr.drewN q) := fun q => below_drewN hb9 q
                        cases kb
                        · by_cases hxy : x = y
                          · have dxy : decide (x = y) = true := decide_eq_true hxy
                            rw [dxy] at HK
                            go_wp2_with fail
                            go_quiet (fail)
                            go_wp2
                            go_roundw
                            case rel => exact ⟨k + 1, by omega, by go_num, by rw [HK.out]; rfl, hbd _⟩
                            case measure => simp [intOf]; omega
                          · have dxy : decide (x = y) = false := decide_eq_false hxy
                            rw [dxy] at HK
                            by_cases hya : y.1 = anchorK
                            · have dya : (y.1 == [97, 110, 99, 104, 111, 114]) = true := by rw [hya]; rfl
                              rw [decide_eq_true hya] at HK
                              clear hya
                              cases dxf : decide (x = (fileK, y.2.1, y.2.2))
                              · rw [dxf] at HK
                                go_wp2_with fail
                                go_quiet (fail)
                                go_wp2
                                go_roundw
                                case rel => exact ⟨k + 1, by omega, by go_num, by rw [HK.out]; rfl, hbd _⟩
                                case measure => simp [intOf]; omega
                              · rw [dxf] at HK
                                go_wp2_with fail
                                go_quiet (fail)
                                go_wp2
                                go_roundw
                                case rel => exact ⟨k + 1, by omega, by go_num, by rw [HK.out]; rfl, hbd _⟩
                                case measure => simp [intOf]; omega
                            · have dya : (y.1 == [97, 110, 99, 104, 111, 114]) = false := by rw [beq_eq_false_iff_ne]; exact hya
                              rw [decide_eq_false hya] at HK
                              go_wp2_with fail
                              go_quiet (fail)
                              go_wp2
                              go_roundw
                              case rel => exact ⟨k + 1, by omega, by go_num, by rw [HK.out]; rfl, hbd _⟩
                              case measure => simp [intOf]; omega
                        · go_wp2_with fail
                          go_quiet (fail)
                          go_wp2
                          go_roundw
                          case rel => exact ⟨k + 1, by omega, by go_num, by rw [HK.out]; rfl, hbd _⟩
                          case measure => simp [intOf]; omega
                      · have hkn : knB (FA.take k) y = true := by rw [List.take_of_length_le (by omega)]; exact knB_known hKN.out hmem
                        rw [hkn]
                        have hyn := hFF.out y hmem
                        have dy : (y.2.1 == a) = false := by rw [beq_eq_false_iff_ne]; intro e; rw [e, hnm] at hyn; cases hyn
                        obtain ⟨b3, o3, e3, hbm3, hcell3⟩ := (hrB.below hb9).elem ftC 3 ftC_len (by omega) hfj
                        injection e3 with e3
                        injection e3 with e3 e4
                        subst e3 e4
                        have y1 : wr.cell? ⟨bb, o + j * 3 + 1, none⟩ = some (.string (B y.2.1)) := hcell3 1 _ rfl
                        have g0 := keeps hb9 (Nat.le_refl _) g0
                        clear hcell3
                        go_wp2_with fail
                        go_quiet (fail)
                        go_wp2
                        go_roundw
                        case rel => exact ⟨j + 1, by omega, by go_num, below_drewN hb9 _⟩
                        case measure => simp [intOf]; omega
                  · have hle := hKN.out.1
                    have dle : decide ((FB.length : Int) ≤ (FA.length : Int)) = true := by simp; omega
                    have hBr := (hB3.trans (hX8.mono hB3.size)).trans (hb8.mono (by have := hX8.size; have := hB3.size; omega))
                    have g0 := keeps hb8 (Nat.le_refl _) g0
                    have g1 := keeps hb8 (Nat.le_refl _) g1
                    go_wp2_with fail
                    have hba := below_alloc wr (.cells #[.string (B a), .string (B b)] 39)
                    have hBa := hBr.trans (hba.mono hBr.size)
                    refine (lcheck_any [(a, b)] _ 1 1 _ (file_row wr a b) (by omega) (fun f hf => by rw [List.mem_singleton] at hf; subst hf; exact ⟨by show a.length ≤ _; omega, by show b.length ≤ _; omega⟩) (hG.below hBa (Nat.le_refl _))).mono ?_
                    rintro e w10 ⟨A9, c9, rfl, -, hb10⟩
                    rw [faults_one (f := (a, b)) hnm]
                    have hB10 := hBa.trans (hb10.mono hBa.size)
                    go_wp2_with fail
                    refine (HAW.out _ (hG.below hB10 (Nat.le_refl _))).mono ?_
                    rintro e w11 ⟨rfl, hb11⟩
                    have hB11 := hB10.trans (hb11.mono hB10.size)
                    go_wp2
                    go_ret
                    exact ⟨rfl, hB11⟩
        · rw [hnm] at HPG
          go_wp2_with fail
          refine (HPG.out _).mono ?_
          rintro e w2 ⟨rfl, rfl⟩
          go_wp2_with fail
          refine (HAW.out _ (hG.below hB1 (Nat.le_refl _))).mono ?_
          rintro e w9 ⟨rfl, hb9⟩
          have hB9 := hB1.trans (hb9.mono hB1.size)
          go_wp2
          go_ret
          exact ⟨rfl, hB9⟩
      · have d2 : decide ((800 : Int) < (b.length : Int)) = true := by simp; omega
        go_wp2_with fail
        refine (HAW.out _ (hG.below hB1 (Nat.le_refl _))).mono ?_
        rintro e w9 ⟨rfl, hb9⟩
        have hB9 := hB1.trans (hb9.mono hB1.size)
        go_wp2
        go_ret
        exact ⟨rfl, hB9⟩
    · have d1 : decide ((250 : Int) < (a.length : Int)) = true := by simp; omega
      go_wp2_with fail
      refine (HAW.out _ (hG.below hB1 (Nat.le_refl _))).mono ?_
      rintro e w9 ⟨rfl, hb9⟩
      have hB9 := hB1.trans (hb9.mono hB1.size)
      go_wp2
      go_ret
      exact ⟨rfl, hB9⟩
end Go.Proofs.YtejjidbodfoiiaaGreatDoor
