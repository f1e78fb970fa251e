/-
  Layer 44 (links): Check, the walk.
-/
import Derived.Test.YtejjidbodfoiiaaGreatDoorLkIJQ
import Derived.Deep.RegionHeld3
namespace Go.Proofs.YtejjidbodfoiiaaGreatDoor
open Go.RowKit
set_option linter.unusedVariables false
set_option linter.unusedSimpArgs false
attribute [local go_sem] B_data B_size
attribute [local go_sem] run_mkI

set_option maxHeartbeats 4000000 in
set_option maxRecDepth 100000 in
theorem lcheck_any (fs : List Fl) (A : Option Addr) (n c : Nat) (w : World) (h : Rd w w.heap.size 2 A n (fs.flatMap flC)) (hn : n ≤ 100) (hf : ∀ f ∈ fs, f.1.length ≤ 900000 ∧ f.2.length ≤ 50000) (hG : Fil.Glob w) :
    Calls Tryz.prog 17 #[.slice A n c] w (FPost (faults fs) w) := by
  have hlen : fs.length = n := h.count flC 2 flC_len (by omega)
  subst hlen
  have hq0 := heap_alloc_new w (.cells #[.slice A fs.length c] 22)
  have hb0 := below_alloc w (.cells #[.slice A fs.length c] 22)
  have HS := Lib.hid (fun V (hV : Rd V V.heap.size 2 A fs.length (fs.flatMap flC)) => sheets_any fs A fs.length c V hV (by omega) (fun f h => by have := hf f h; omega))
  obtain ⟨W0, hW0⟩ : ∃ W0, W0 = w.alloc (.cells #[.slice A fs.length c] 22) := ⟨_, rfl⟩
  have hs0 : W0.heap.size = w.heap.size + 1 := by rw [hW0]; simp
  rw [← hW0] at hq0 hb0
  have p0 : W0.cell? ⟨w.heap.size, 0, none⟩ = some (.slice A fs.length c) := by simp [World.cell?, hq0]
  have HF := Lib.hid hf
  clear hf
  go_enter Tryz.func17, Tryz.ntmps17
  go_wp2_with fail
  rw [← hW0]
  refine (HS.out _ ((h.below hb0).more hb0.size)).mono ?_
  rintro e w1 ⟨sb, cs, rfl, hsb, hI, hb1⟩
  have hq1 := (hb1.block _ (show w.heap.size < W0.heap.size by omega)).trans hq0
  have hU := hI.u
  have hst := hI.lt
  have hB1 := hb0.trans (hb1.mono hb0.size)
  have hmk := fun V => run_makeMaps fs.length (by omega) V
  clear p0 HS hI hq0 hb1 hb0 hW0
  -- the worlds of the four allocations
  have a2 := below_alloc w1 (.map #[] 0)
  have m2 := SMap.made w1
  obtain ⟨W2, hW2⟩ : ∃ W2, W2 = w1.alloc (.map #[] 0) := ⟨_, rfl⟩
  have hs2 : W2.heap.size = w1.heap.size + 1 := by rw [hW2]; simp
  rw [← hW2] at a2 m2
  have a3 := below_alloc W2 (.cells #[.map (some w1.heap.size)] 75)
  have q3 := heap_alloc_new W2 (.cells #[.map (some w1.heap.size)] 75)
  obtain ⟨W3, hW3⟩ : ∃ W3, W3 = W2.alloc (.cells #[.map (some w1.heap.size)] 75) := ⟨_, rfl⟩
  have hs3 : W3.heap.size = w1.heap.size + 1 + 1 := by rw [hW3]; simp [hs2]
  rw [← hW3] at a3 q3
  have hl3 := ((a2.trans (a3.mono (by omega))).block w.heap.size (by omega)).trans hq1
  have p3 : W3.cell? ⟨w.heap.size, 0, none⟩ = some (.slice A fs.length c) := by simp [World.cell?, hl3]
  have a4 := below_alloc W3 (.cells (Array.replicate fs.length (.map none)) 73)
  have q4 := heap_alloc_new W3 (.cells (Array.replicate fs.length (.map none)) 73)
  obtain ⟨W4, hW4⟩ : ∃ W4, W4 = W3.alloc (.cells (Array.replicate fs.length (.map none)) 73) := ⟨_, rfl⟩
  have hs4 : W4.heap.size = w1.heap.size + 1 + 1 + 1 := by rw [hW4]; simp [hs3]
  rw [← hW4] at a4 q4
  have a5 := below_alloc W4 (.cells #[.slice (some ⟨w1.heap.size + 1 + 1, 0, none⟩) fs.length fs.length] 76)
  have q5 := heap_alloc_new W4 (.cells #[.slice (some ⟨w1.heap.size + 1 + 1, 0, none⟩) fs.length fs.length] 76)
  obtain ⟨W5, hW5⟩ : ∃ W5, W5 = W4.alloc (.cells #[.slice (some ⟨w1.heap.size + 1 + 1, 0, none⟩) fs.length fs.length] 76) := ⟨_, rfl⟩
  have hs5 : W5.heap.size = w1.heap.size + 1 + 1 + 1 + 1 := by rw [hW5]; simp [hs4]
  rw [← hW5] at a5 q5
  have hL : L1 w fs A c sb w1.heap.size cs 0 0 W5 := by
    have b5 : Below w1.heap.size w1 W5 := ((a2.trans (a3.mono (by omega))).trans (a4.mono (by omega))).trans (a5.mono (by omega))
    refine ⟨hB1.trans (b5.mono hB1.size), (b5.block _ (by omega)).trans hq1, hU.keep fun b h1 h2 => b5.block b (by omega), ?_, ?_, ?_, ?_, by omega, hst⟩
    · exact ((a4.trans (a5.mono (by omega))).block _ (by omega)).trans (by rw [← hs2]; exact q3)
    · exact ((m2.below a3 (by omega)).below a4 (by omega)).below a5 (by omega)
    · rw [← hs4]; exact q5
    · refine ⟨_, (a5.block _ (by omega)).trans (by rw [← hs3]; exact q4), by simp, fun i f v hf hv => ⟨fun hi => by omega, fun _ => ?_⟩⟩
      rw [Array.getElem?_replicate] at hv
      split at hv
      · injection hv with hv; exact hv.symm
      · cases hv
  have p5 : W5.cell? ⟨w.heap.size, 0, none⟩ = some (.slice A fs.length c) := by simp [World.cell?, hL.lbx]
  subst hW5 hW4 hW3 hW2
  clear hs2 hs3 hs4 hs5 a2 a3 a4 a5 m2 q3 q4 q5 hl3 hU hst hq1
  go_wp2
  generalize hT : w1.heap.size = t at *
  generalize hW5 : (((w1.alloc (.map #[] 0)).alloc (.cells #[.map (some t)] 75)).alloc (.cells (Array.replicate fs.length (.map none)) 73)).alloc (.cells #[.slice (some ⟨t + 1 + 1, 0, none⟩) fs.length fs.length] 76) = W5 at *
  clear hW5 hmk p3 p5
  go_loopw [27] (fun i wr => ∃ (j : Nat), j ≤ fs.length ∧ i = .int .i64 j ∧ L1 w fs A c sb t cs j j wr) (fun i _ => fs.length - (intOf i).toNat)
  case atStart => exact ⟨0, Nat.zero_le _, rfl, hL⟩
  case round =>
    clear hL
    obtain ⟨j, hj, rfl, hL⟩ := hrel
    by_cases hlt : j < fs.length
    · have hfj : fs[j]? = some fs[j] := List.getElem?_eq_getElem hlt
      generalize fs[j] = f at *
      have hLs := hL.lt
      have hkp := hL.kp.size
      obtain ⟨bb, o, rfl, hbm, hcell⟩ := (h.below hL.kp).elem flC 2 flC_len (by omega) hfj
      have c0 : wr.cell? ⟨bb, o + j * 2, none⟩ = some (.string (B f.1)) := hcell 0 _ rfl
      have c1 : wr.cell? ⟨bb, o + j * 2 + 1, none⟩ = some (.string (B f.2)) := hcell 1 _ rfl
      have hLA := hL.step (below_alloc wr (.cells #[.string (B f.1), .string (B f.2)] 39))
      have x0 : (wr.alloc (.cells #[.string (B f.1), .string (B f.2)] 39)).cell? ⟨t + 1, 0, none⟩ = some (.map (some t)) := by simp only [World.cell?, hLA.xbx]; rfl
      have x1 := (SMap.look (T := 75) (K := 9) (E := 3) Tryz.underlying75 Tryz.underlying9 hLA.fmx f.1 _ (zeroI _)).2
      have hbA := below_alloc wr (.cells #[.string (B f.1), .string (B f.2)] 39)
      have hsA : (wr.alloc (.cells #[.string (B f.1), .string (B f.2)] 39)).heap.size = wr.heap.size + 1 := by simp
      have hqA := heap_alloc_new wr (.cells #[.string (B f.1), .string (B f.2)] 39)
      have hj1 : (j : Int) < (fs.length : Int) := by omega
      clear hcell hL
      cases hlk : lookL f.1 (firstTo fs j) with
      | none =>
        rw [hlk] at x1
        have x1 : (Instr.lookup 75 (.map (some t)) (.string (B f.1)) true).run Tryz.prog (wr.alloc (.cells #[.string (B f.1), .string (B f.2)] 39)) = .ok (.tuple #[.int .i64 0, .bool false]) (wr.alloc (.cells #[.string (B f.1), .string (B f.2)] 39)) := x1
        go_wp2_with (refine wpList_store rfl 75 9 3 _ _ _ rfl Tryz.underlying75 Tryz.underlying9 t (firstTo fs j) hLA.fmx rfl f.1 rfl (.int .i64 (j : Int)) rfl ?_)
        intro w2 hS2 hg2
        have hL2 := hLA.nameNew hfj hlk hS2 hg2
        have hjc : j < cs.length := by rw [hL2.sh.len]; exact hlt
        have hoc : cs[j]? = some cs[j] := List.getElem?_eq_getElem hjc
        have hat := hL2.sh.at1 j f _ hfj hoc
        generalize cs[j] = oc at *
        have hVs := hL2.lt
        have b1 : w2.cell? ⟨t + 1 + 1 + 1, 0, none⟩ = some (.slice (some ⟨t + 1 + 1, 0, none⟩) fs.length fs.length) := by simp only [World.cell?, hL2.nbx]; rfl
        cases hs : sheet f with
        | none =>
          rw [hs] at hat
          have hat : oc = none := hat
          subst hat
          have z0 := hL2.sh.sh.cell hoc 0 _ (by omega) rfl
          rw [Nat.add_zero] at z0
          have hL3 := hL2.rowNone hfj hs
          go_wp2
          go_roundw
          case rel => exact ⟨j + 1, by omega, by go_num, hL3⟩
          case measure => simp [intOf]; omega
        | some nd =>
          rw [hs] at hat
          obtain ⟨nc, rfl, hnd⟩ := hat
          have z0 := hL2.sh.sh.cell hoc 0 _ (by omega) rfl
          have z1 := hL2.sh.sh.cell hoc 1 _ (by omega) rfl
          have z2 := hL2.sh.sh.cell hoc 2 _ (by omega) rfl
          have z3 := hL2.sh.sh.cell hoc 3 _ (by omega) rfl
          have z4 := hL2.sh.sh.cell hoc 4 _ (by omega) rfl
          rw [Nat.add_zero] at z0
          obtain ⟨hz1, hz2, -⟩ := sheet_sz hs (HF.out f (List.mem_of_getElem? hfj)).2
          have HA := Lib.hid (fun (V : World) (hV : NdB V V.heap.size nd nc) => ancs_any nd nc V hV hz2 (by omega))
          have hnB : NdB w2.drew w2.drew.heap.size nd nc := NdAt.keep (w := w2) (w' := w2.drew) (S' := fun b => b < w2.drew.heap.size) (fun b hb => by show b < w2.heap.size; omega) (fun _ _ => rfl) nd nc hnd
          have hLx := hL2.step (Below.refl w2.heap.size w2).drew
          have hSx : w2.drew.cell? ⟨t + 1 + 1 + 1, 0, none⟩ = some (.slice (some ⟨t + 1 + 1, 0, none⟩) fs.length fs.length) ∧ w2.drew.cell? ⟨sb, j * 5 + 1, none⟩ = some (.string (B nc.nm)) ∧ w2.drew.cell? ⟨sb, j * 5 + 1 + 1, none⟩ = some (.string (B nc.tx)) ∧ w2.drew.cell? ⟨sb, j * 5 + 1 + 2, none⟩ = some (.slice nc.A nc.na nc.ca) ∧ w2.drew.cell? ⟨sb, j * 5 + 1 + 3, none⟩ = some (.slice nc.K nc.nk nc.ck) := ⟨b1, z1, z2, z3, z4⟩
          have hsbt := hL2.o1.2
          have hvl := vals_le (key := idK) (n := nd) (by omega)
          go_wp2_with fail
          go_region_held3 (fun w' => w'.cell? ⟨t + 1 + 1 + 1, 0, none⟩ = some (.slice (some ⟨t + 1 + 1, 0, none⟩) fs.length fs.length) ∧ w'.cell? ⟨sb, j * 5 + 1, none⟩ = some (.string (B nc.nm)) ∧ w'.cell? ⟨sb, j * 5 + 1 + 1, none⟩ = some (.string (B nc.tx)) ∧ w'.cell? ⟨sb, j * 5 + 1 + 2, none⟩ = some (.slice nc.A nc.na nc.ca) ∧ w'.cell? ⟨sb, j * 5 + 1 + 3, none⟩ = some (.slice nc.K nc.nk nc.ck)) (first | exact hSx | exact set5k hSx (by show t + 1 + 1 + 1 ≠ t + 1 + 1; omega) (by show sb ≠ t + 1 + 1; omega) (by show sb ≠ t + 1 + 1; omega) (by show sb ≠ t + 1 + 1; omega) (by show sb ≠ t + 1 + 1; omega))
            (first
              | (go_at_call 32; refine (HA.out _ hnB).mono ?_; rintro e w' ⟨A5, c5, rfl, hr5, hb5⟩; have hLy := hLx.step hb5; have hSy := keep5 hb5 hSx; clear hLx hSx; have hLx := hLy; have hSx := hSy; clear hLy hSy)
              | (go_at_call 33; refine (set_any _ _ _ _ hr5 hvl).mono ?_; rintro e w' ⟨m, rfl, hm1, hm2, hb6⟩; have hLy := hLx.step hb6; have hSy := keep5 hb6 hSx; obtain ⟨⟨yv, y1⟩, y2⟩ := hLy.rowAt hlt; have hml := hLx.lt; clear hLx hSx; have hLx := hLy; have hSx := hSy; clear hLy hSy))
          have hL3 := hLx.rowPut hfj hs hm2 (by omega)
          go_wp2
          go_roundw
          case rel => exact ⟨j + 1, by omega, by go_num, hL3⟩
          case measure => simp [intOf]; omega
      | some u =>
        rw [hlk] at x1
        have x1 : (Instr.lookup 75 (.map (some t)) (.string (B f.1)) true).run Tryz.prog (wr.alloc (.cells #[.string (B f.1), .string (B f.2)] 39)) = .ok (.tuple #[u, .bool true]) (wr.alloc (.cells #[.string (B f.1), .string (B f.2)] 39)) := x1
        have hL2 := hLA.nameOld hfj (by rw [hlk]; exact fun e => by cases e)
        have hjc : j < cs.length := by rw [hL2.sh.len]; exact hlt
        have hoc : cs[j]? = some cs[j] := List.getElem?_eq_getElem hjc
        have hat := hL2.sh.at1 j f _ hfj hoc
        generalize cs[j] = oc at *
        have hVs := hL2.lt
        have b1 : (wr.alloc (.cells #[.string (B f.1), .string (B f.2)] 39)).cell? ⟨t + 1 + 1 + 1, 0, none⟩ = some (.slice (some ⟨t + 1 + 1, 0, none⟩) fs.length fs.length) := by simp only [World.cell?, hL2.nbx]; rfl
        cases hs : sheet f with
        | none =>
          rw [hs] at hat
          have hat : oc = none := hat
          subst hat
          have z0 := hL2.sh.sh.cell hoc 0 _ (by omega) rfl
          rw [Nat.add_zero] at z0
          have hL3 := hL2.rowNone hfj hs
          go_wp2
          go_roundw
          case rel => exact ⟨j + 1, by omega, by go_num, hL3⟩
          case measure => simp [intOf]; omega
        | some nd =>
          rw [hs] at hat
          obtain ⟨nc, rfl, hnd⟩ := hat
          have z0 := hL2.sh.sh.cell hoc 0 _ (by omega) rfl
          have z1 := hL2.sh.sh.cell hoc 1 _ (by omega) rfl
          have z2 := hL2.sh.sh.cell hoc 2 _ (by omega) rfl
          have z3 := hL2.sh.sh.cell hoc 3 _ (by omega) rfl
          have z4 := hL2.sh.sh.cell hoc 4 _ (by omega) rfl
          rw [Nat.add_zero] at z0
          obtain ⟨hz1, hz2, -⟩ := sheet_sz hs (HF.out f (List.mem_of_getElem? hfj)).2
          have HA := Lib.hid (fun (V : World) (hV : NdB V V.heap.size nd nc) => ancs_any nd nc V hV hz2 (by omega))
          have hnB : NdB (wr.alloc (.cells #[.string (B f.1), .string (B f.2)] 39)).drew (wr.alloc (.cells #[.string (B f.1), .string (B f.2)] 39)).drew.heap.size nd nc := NdAt.keep (w := (wr.alloc (.cells #[.string (B f.1), .string (B f.2)] 39))) (w' := (wr.alloc (.cells #[.string (B f.1), .string (B f.2)] 39)).drew) (S' := fun b => b < (wr.alloc (.cells #[.string (B f.1), .string (B f.2)] 39)).drew.heap.size) (fun b hb => by show b < (wr.alloc (.cells #[.string (B f.1), .string (B f.2)] 39)).heap.size; omega) (fun _ _ => rfl) nd nc hnd
          have hLx := hL2.step (Below.refl (wr.alloc (.cells #[.string (B f.1), .string (B f.2)] 39)).heap.size (wr.alloc (.cells #[.string (B f.1), .string (B f.2)] 39))).drew
          have hSx : (wr.alloc (.cells #[.string (B f.1), .string (B f.2)] 39)).drew.cell? ⟨t + 1 + 1 + 1, 0, none⟩ = some (.slice (some ⟨t + 1 + 1, 0, none⟩) fs.length fs.length) ∧ (wr.alloc (.cells #[.string (B f.1), .string (B f.2)] 39)).drew.cell? ⟨sb, j * 5 + 1, none⟩ = some (.string (B nc.nm)) ∧ (wr.alloc (.cells #[.string (B f.1), .string (B f.2)] 39)).drew.cell? ⟨sb, j * 5 + 1 + 1, none⟩ = some (.string (B nc.tx)) ∧ (wr.alloc (.cells #[.string (B f.1), .string (B f.2)] 39)).drew.cell? ⟨sb, j * 5 + 1 + 2, none⟩ = some (.slice nc.A nc.na nc.ca) ∧ (wr.alloc (.cells #[.string (B f.1), .string (B f.2)] 39)).drew.cell? ⟨sb, j * 5 + 1 + 3, none⟩ = some (.slice nc.K nc.nk nc.ck) := ⟨b1, z1, z2, z3, z4⟩
          have hsbt := hL2.o1.2
          have hvl := vals_le (key := idK) (n := nd) (by omega)
          go_wp2_with fail
          go_region_held3 (fun w' => w'.cell? ⟨t + 1 + 1 + 1, 0, none⟩ = some (.slice (some ⟨t + 1 + 1, 0, none⟩) fs.length fs.length) ∧ w'.cell? ⟨sb, j * 5 + 1, none⟩ = some (.string (B nc.nm)) ∧ w'.cell? ⟨sb, j * 5 + 1 + 1, none⟩ = some (.string (B nc.tx)) ∧ w'.cell? ⟨sb, j * 5 + 1 + 2, none⟩ = some (.slice nc.A nc.na nc.ca) ∧ w'.cell? ⟨sb, j * 5 + 1 + 3, none⟩ = some (.slice nc.K nc.nk nc.ck)) (first | exact hSx | exact set5k hSx (by show t + 1 + 1 + 1 ≠ t + 1 + 1; omega) (by show sb ≠ t + 1 + 1; omega) (by show sb ≠ t + 1 + 1; omega) (by show sb ≠ t + 1 + 1; omega) (by show sb ≠ t + 1 + 1; omega))
            (first
              | (go_at_call 32; refine (HA.out _ hnB).mono ?_; rintro e w' ⟨A5, c5, rfl, hr5, hb5⟩; have hLy := hLx.step hb5; have hSy := keep5 hb5 hSx; clear hLx hSx; have hLx := hLy; have hSx := hSy; clear hLy hSy)
              | (go_at_call 33; refine (set_any _ _ _ _ hr5 hvl).mono ?_; rintro e w' ⟨m, rfl, hm1, hm2, hb6⟩; have hLy := hLx.step hb6; have hSy := keep5 hb6 hSx; obtain ⟨⟨yv, y1⟩, y2⟩ := hLy.rowAt hlt; have hml := hLx.lt; clear hLx hSx; have hLx := hLy; have hSx := hSy; clear hLy hSy))
          have hL3 := hLx.rowPut hfj hs hm2 (by omega)
          go_wp2
          go_roundw
          case rel => exact ⟨j + 1, by omega, by go_num, hL3⟩
          case measure => simp [intOf]; omega
    · have hjn : j = fs.length := by omega
      subst hjn
      obtain ⟨X1, hX1⟩ : ∃ X1, X1 = wr.alloc (.cells #[.slice none 0 0] 32) := ⟨_, rfl⟩
      obtain ⟨X2, hX2⟩ : ∃ X2, X2 = X1.alloc (.cells #[.func (.func 34) #[] #[.pointer (some ⟨wr.heap.size, 0, none⟩)]] 79) := ⟨_, rfl⟩
      have hC := hL.ck h hG hX1 hX2
      have p6 : X2.cell? ⟨w.heap.size, 0, none⟩ = some (.slice A fs.length c) := by simp only [World.cell?, hC.ck.sc.lbx]; rfl
      have hls := hL.lt
      have hkp := hL.kp.size
      subst hX2 hX1
      clear hL
      go_wp2
      generalize hx : wr.heap.size = x at *
      generalize (wr.alloc (.cells #[.slice none 0 0] 32)).alloc (.cells #[.func (.func 34) #[] #[.pointer (some ⟨x, 0, none⟩)]] 79) = X2 at *
      clear p6
      go_loopw [66] (fun i wr => ∃ (j : Nat) (v : Value), j ≤ fs.length ∧ i = .int .i64 j ∧ C2 w fs ⟨A, c, w.heap.size, t + 1, t, x + 1, t + 1 + 1 + 1, t + 1 + 1, x, x + 2⟩ sb t cs v (faultsTo fs j) wr) (fun i _ => fs.length - (intOf i).toNat)
      case atStart => exact ⟨0, _, Nat.zero_le _, rfl, hC⟩
      case round =>
        clear hC
        obtain ⟨j, v, hj, rfl, hC⟩ := hrel
        by_cases hlt : j < fs.length
        · have hfj : fs[j]? = some fs[j] := List.getElem?_eq_getElem hlt
          have HFT := Lib.hid (faultsTo_succ fs j)
          have hft := faultsTo_len (fs := fs) (fun f h => (HF.out f h).2) j hj
          rw [hfj] at HFT
          generalize fs[j] = f at *
          have HFT : Hid (faultsTo fs (j + 1) = faultsTo fs j ++ pageF fs j f) := HFT.out
          have hj1 : (j : Int) < (fs.length : Int) := by omega
          have hkw := hC.ck.lf.keep
          obtain ⟨bb, o, rfl, hbm, hcell⟩ := (h.below hkw).elem flC 2 flC_len (by omega) hfj
          have c0 : wr.cell? ⟨bb, o + j * 2, none⟩ = some (.string (B f.1)) := hcell 0 _ rfl
          have c1 : wr.cell? ⟨bb, o + j * 2 + 1, none⟩ = some (.string (B f.2)) := hcell 1 _ rfl
          obtain ⟨hf1, hf2⟩ := HF.out f (List.mem_of_getElem? hfj)
          have hCA := hC.step (below_alloc wr (.cells #[.string (B f.1), .string (B f.2)] 39))
          have hqA := heap_alloc_new wr (.cells #[.string (B f.1), .string (B f.2)] 39)
          have hjc : j < cs.length := by rw [hCA.sh.len]; exact hlt
          have hoc : cs[j]? = some cs[j] := List.getElem?_eq_getElem hjc
          have hat := hCA.sh.at1 j f _ hfj hoc
          generalize cs[j] = oc at *
          have HN := Lib.hid (fun V => named_any f.1 V (by omega))
          have hkbx := hCA.ck.sc.kbx
          unfold FBx at hkbx
          have l3 : (wr.alloc (.cells #[.string (B f.1), .string (B f.2)] 39)).cell? ⟨x + 1, 0, none⟩ = some (.func (.func 34) #[] #[.pointer (some ⟨x, 0, none⟩)]) := by simp only [World.cell?, hkbx]; rfl
          clear hcell hC hkbx
          cases hs : sheet f with
          | none =>
            rw [hs] at hat
            have hat : oc = none := hat
            subst hat
            have z0 := hCA.sh.sh.cell hoc 0 _ (by omega) rfl
            rw [Nat.add_zero] at z0
            cases hnm : named f.1
            · rw [hnm] at HN
              have HP : Hid (pageF fs j f = []) := by unfold pageF; rw [hs]; simp [hnm, Hid]
              rw [HP.out, List.append_nil] at HFT
              go_wp2_with fail
              refine (HN.out _).mono ?_
              rintro e w2 ⟨rfl, rfl⟩
              rw [← HFT.out] at hCA
              go_wp2
              go_roundw
              case rel => exact ⟨j + 1, v, by omega, by go_num, hCA⟩
              case measure => simp [intOf]; omega
            · rw [hnm] at HN
              have HP : Hid (pageF fs j f = [(formK, f.1, [])]) := by unfold pageF; rw [hs]; simp [hnm, Hid]
              rw [HP.out] at HFT
              go_wp2_with fail
              refine (HN.out _).mono ?_
              rintro e w2 ⟨rfl, rfl⟩
              go_wp2_with fail
              refine (cadd_ck hCA.ck (by omega) formK f.1 []).mono ?_
              rintro e w3 ⟨rfl, v3, h3, hm3⟩
              have hC3 := hCA.add hm3 h3
              rw [← HFT.out] at hC3
              go_wp2
              go_roundw
              case rel => exact ⟨j + 1, v3, by omega, by go_num, hC3⟩
              case measure => simp [intOf]; omega
          | some nd =>
            rw [hs] at hat
            obtain ⟨nc, rfl, hnd⟩ := hat
            have z0 := hCA.sh.sh.cell hoc 0 _ (by omega) rfl
            have z1 := hCA.sh.sh.cell hoc 1 _ (by omega) rfl
            have z2 := hCA.sh.sh.cell hoc 2 _ (by omega) rfl
            have z3 := hCA.sh.sh.cell hoc 3 _ (by omega) rfl
            have z4 := hCA.sh.sh.cell hoc 4 _ (by omega) rfl
            rw [Nat.add_zero] at z0
            obtain ⟨hz1, hz2, hz3⟩ := sheet_sz hs hf2
            have hrl := refs_le hs hf2
            have HP : Hid (pageF fs j f = (refsN nd).flatMap (refF fs j f.1)) := by unfold pageF; rw [hs]; rfl
            rw [HP.out] at HFT
            have hkw2 := hkw.size
            have hfbx := hCA.fb
            have hto := hCA.o
            have hnB : NdB (wr.alloc (.cells #[.string (B f.1), .string (B f.2)] 39)) (wr.alloc (.cells #[.string (B f.1), .string (B f.2)] 39)).heap.size nd nc := NdAt.keep (fun b hb => by have := hto.2; have : t ≤ x := this; have : x < _ := hfbx; omega) (fun _ _ => rfl) nd nc hnd
            have HRF := Lib.hid (refs_any nd nc _ hnB hz2 (by omega))
            clear hnd hnB
            generalize refsN nd = R at *
            go_wp2_with fail
            refine HRF.out.mono ?_
            intro e w3 hP3
            obtain ⟨A5, c5, rb, rfl, hR5, hrb, hrl5, hb3⟩ := hP3.row w.heap.size (by simp; omega)
            have hC3 := hCA.step hb3
            have hno : ¬ ownO x v rb := by
              intro ho
              have h9 := hCA.ck.lf.lt ho
              have h8 : w.heap.size < x := by have := hto.1; have : t ≤ x := hto.2; omega
              rcases hrb with e | e
              · rcases ho with e2 | e2
                · omega
                · have := (hCA.ck.lf.own.lt rb e2).1
                  have : x + 2 ≤ rb := this
                  omega
              · omega
            clear HRF hP3 z0 z1 z2 z3 z4 l3
            go_wp2
            go_loopw [92] (fun i wr => ∃ (i2 : Nat) (v : Value), i2 ≤ R.length ∧ i = .int .i64 i2 ∧ C2 w fs ⟨some ⟨bb, o, none⟩, c, w.heap.size, t + 1, t, x + 1, t + 1 + 1 + 1, t + 1 + 1, x, x + 2⟩ sb t cs v (faultsTo fs j ++ (R.take i2).flatMap (refF fs j f.1)) wr ∧ RdS wr (fun b => b = rb) 1 A5 R.length (strs R) ∧ (¬ ownO x v rb ∧ rb < wr.heap.size)) (fun i _ => R.length - (intOf i).toNat)
            case atStart => exact ⟨0, v, Nat.zero_le _, rfl, by simpa using hC3, hR5, hno, hrl5⟩
            case round =>
              clear hC3 hR5 hno hrl5
              obtain ⟨i2, v, hi2, rfl, hC, hR5, hno, hrl5⟩ := hrel
              by_cases hlt2 : i2 < R.length
              · have hrr : R[i2]? = some R[i2] := List.getElem?_eq_getElem hlt2
                have HT : Hid ((R.take (i2 + 1)).flatMap (refF fs j f.1) = (R.take i2).flatMap (refF fs j f.1) ++ refF fs j f.1 R[i2]) := by rw [List.take_succ_eq_append_getElem hlt2, List.flatMap_append]; simp [Hid]
                have hfl := flat_len fs j f.1 (R.take i2)
                rw [List.length_take] at hfl
                obtain ⟨ad, rfl, hc⟩ := (hR5.rd (M := rb + 1) (fun b hb => by omega)).str hlt2
                rw [show R.getD i2 [] = R[i2] by simp [List.getD, hrr]] at hc
                have hrm := hz3 _ (List.getElem_mem hlt2)
                generalize R[i2] = r at *
                have HO := Lib.hid (fun V => outside_any r V (by omega))
                cases hout : outB r
                · rw [hout] at HO
                  have HT : Hid (faultsTo fs j ++ (R.take (i2 + 1)).flatMap (refF fs j f.1) = faultsTo fs j ++ (R.take i2).flatMap (refF fs j f.1) ++ chkF fs j f.1 r) := by rw [HT.out, refF_in hout, List.append_assoc]; rfl
                  go_wp2_with fail
                  refine (HO.out _).mono ?_
                  rintro e w5 ⟨rfl, rfl⟩
                  go_wp2_with fail
                  refine (chk_any w w.heap.size fs _ v _ j f r _ hC.ck (by rw [List.length_append]; omega) hfj (by omega) (by omega) (by omega)).mono ?_
                  rintro e w6 ⟨rfl, v6, h6, hm6⟩
                  have hC6 := hC.add hm6 h6
                  rw [← HT.out] at hC6
                  have hR6 : RdS w6 (fun b => b = rb) 1 (some ad) R.length (strs R) := hR5.keep fun b hb => by subst hb; exact hm6.k.block b hrl5 hno
                  have hno6 : ¬ ownO x v6 rb := fun ho => by
                    rcases hm6.n rb ho with h | h
                    · exact hno h
                    · omega
                  have hsz6 := hm6.k.size
                  go_wp2
                  go_roundw
                  case rel => exact ⟨i2 + 1, v6, by omega, by go_num, hC6, hR6, hno6, by omega⟩
                  case measure => simp [intOf]; omega
                · rw [hout] at HO
                  have HT : Hid (faultsTo fs j ++ (R.take (i2 + 1)).flatMap (refF fs j f.1) = faultsTo fs j ++ (R.take i2).flatMap (refF fs j f.1)) := by rw [HT.out, refF_out hout, List.append_nil]; rfl
                  rw [← HT.out] at hC
                  go_wp2_with fail
                  refine (HO.out _).mono ?_
                  rintro e w5 ⟨rfl, rfl⟩
                  go_wp2
                  go_roundw
                  case rel => exact ⟨i2 + 1, v, by omega, by go_num, hC, hR5, hno, hrl5⟩
                  case measure => simp [intOf]; omega
              · rw [List.take_of_length_le (by omega), ← HFT.out] at hC
                go_wp2
                go_roundw
                case rel => exact ⟨j + 1, v, by omega, by go_num, hC⟩
                case measure => simp [intOf]; omega
        · have hjn : j = fs.length := by omega
          subst hjn
          obtain ⟨A1, c1, rfl, hnc⟩ := own_form hC.ck.lf.own
          have hfb := hC.ck.lf.oo
          have p7 : wr.cell? ⟨x, 0, none⟩ = some (.slice A1 (faultsTo fs fs.length).length c1) := by simp only [World.cell?, hfb]; rfl
          have hR := Rd.of_own hC.ck.lf.own
          have hB := hC.ck.lf.keep
          go_wp2
          go_ret
          exact ⟨A1, c1, rfl, hR, hB⟩
end Go.Proofs.YtejjidbodfoiiaaGreatDoor
