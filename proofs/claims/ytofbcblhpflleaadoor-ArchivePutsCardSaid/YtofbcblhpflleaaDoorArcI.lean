/-
  Layer 35 (archive): one file read from an archive.
-/
import Derived.Test.YtofbcblhpflleaaDoorArcH
import Derived.StillTailTactics
namespace Go.Proofs.YtofbcblhpflleaaDoor
open Go.RowKit
set_option linter.unusedVariables false
attribute [local go_sem] B_data B_size
attribute [local go_sem ↓] Go.wp_at_zero Go.wp_at_succ

/-- what stands from a to b in a text -/
def cutL (s : List UInt8) (a b : Nat) : List UInt8 := (s.take b).drop a
theorem B_ext (s : List UInt8) (a b : Nat) : (B s).extract a b = B (cutL s a b) := by rw [B_extract, B_data]; rfl
theorem cut_len (s : List UInt8) (a b : Nat) : (cutL s a b).length = min b s.length - a := by unfold cutL; rw [List.length_drop, List.length_take]
def pSize (s : List UInt8) : Nat := numL (cutL s 18 22)
def pNames (s : List UInt8) : Nat := numL (cutL s 26 28)
def pSum (s : List UInt8) : Nat := numL (cutL s 14 18)
def pName (s : List UInt8) : List UInt8 := cutL s 30 (30 + pNames s)
def pData (s : List UInt8) : List UInt8 := cutL s (30 + pNames s) (30 + pNames s + pSize s)
/-- the error of the part that a text begins with -/
def partE (s : List UInt8) : Int :=
  if s.length < 30 then 4 else if s.length - 30 < pNames s + pSize s then 4 else if cutL s 4 30 ≠ comL (pName s).length (pData s).length (pSum s) then 5 else if crc (pData s) ≠ pSum s then 14 else 0
def PartRet (s : List UInt8) : Ending :=
  if partE s = 0 then .returned (.tuple #[.agg #[.string (B (pName s)), .string (B (pData s))], .int .u32 (pSum s : Nat), .int .i64 0])
  else .returned (.tuple #[.agg #[.string ⟨#[]⟩, .string ⟨#[]⟩], .int .u32 0, .int .i64 (partE s)])
theorem part_bad {s : List UInt8} {e : Int} (h : partE s = e) (h0 : e ≠ 0) : PartRet s = .returned (.tuple #[.agg #[.string ⟨#[]⟩, .string ⟨#[]⟩], .int .u32 0, .int .i64 e]) := by
  unfold PartRet; rw [h, if_neg h0]
theorem num_lt4 (s : List UInt8) (h : s.length ≤ 4) : numL s < 4294967296 := by
  have := numL_lt s
  have h2 : 256 ^ s.length ≤ 256 ^ 4 := Nat.pow_le_pow_right (by decide) h
  omega
theorem num_lt2 (s : List UInt8) (h : s.length ≤ 2) : numL s < 65536 := by
  have := numL_lt s
  have h2 : 256 ^ s.length ≤ 256 ^ 2 := Nat.pow_le_pow_right (by decide) h
  omega

set_option maxHeartbeats 4000000 in
set_option maxRecDepth 100000 in
theorem part_any (s : List UInt8) (w : World) (hs : s.length ≤ 1000000) : Calls Tryd.prog 27 #[.string (B s)] w fun e w' => e = PartRet s ∧ Below w.heap.size w w' := by
  by_cases h30 : s.length < 30
  · rw [part_bad (e := 4) (by unfold partE; rw [if_pos h30]) (by decide)]
    go_enter Tryd.func27, Tryd.ntmps27
    go_wp2
    exact bodyPost_ret (v := .tuple #[.agg #[.string ⟨#[]⟩, .string ⟨#[]⟩], .int .u32 0, .int .i64 4]) (by simp [results, Tryd.results27, go_sem]) rfl ⟨rfl, below_alloc _ _⟩
  · have x1 := B_ext s 18 22
    have x2 := B_ext s 26 28
    have x3 := B_ext s 14 18
    have x4 := B_ext s 4 30
    have l1 : (cutL s 18 22).length ≤ 4 := by rw [cut_len]; omega
    have l2 : (cutL s 26 28).length ≤ 2 := by rw [cut_len]; omega
    have l3 : (cutL s 14 18).length ≤ 4 := by rw [cut_len]; omega
    have n1 : numL (cutL s 18 22) < 4294967296 := num_lt4 _ l1
    have n2 : numL (cutL s 26 28) < 65536 := num_lt2 _ l2
    have n3 : numL (cutL s 14 18) < 4294967296 := num_lt4 _ l3
    have i1 : (30 : Int) ≤ (s.length : Int) := by omega
    have i2 : (22 : Int) ≤ (s.length : Int) := by omega
    have i3 : (28 : Int) ≤ (s.length : Int) := by omega
    have i4 : (18 : Int) ≤ (s.length : Int) := by omega
    have HE : Hid (partE s = if s.length - 30 < numL (cutL s 26 28) + numL (cutL s 18 22) then 4 else if cutL s 4 30 ≠ comL (pName s).length (pData s).length (numL (cutL s 14 18)) then 5 else if crc (pData s) ≠ numL (cutL s 14 18) then 14 else 0) := by unfold partE; rw [if_neg h30]; rfl
    have HN : Hid (pName s = cutL s 30 (30 + numL (cutL s 26 28))) := rfl
    have HD : Hid (pData s = cutL s (30 + numL (cutL s 26 28)) (30 + numL (cutL s 26 28) + numL (cutL s 18 22))) := rfl
    have HR : Hid (partE s = 0 → PartRet s = .returned (.tuple #[.agg #[.string (B (pName s)), .string (B (pData s))], .int .u32 (numL (cutL s 14 18) : Nat), .int .i64 0])) := fun h => by unfold PartRet; rw [if_pos h]; rfl
    have HPB := Lib.hid (fun e => part_bad (s := s) (e := e))
    go_enter Tryd.func27, Tryd.ntmps27
    go_wp2
    go_region_held3 (fun _ => True) (trivial)
      (first | (go_at_call 40; with_reducible refine (number_any _ _ (by omega)).mono ?_; rintro e w' ⟨rfl, rfl⟩))
    generalize numL (cutL s 18 22) = sz at *
    generalize numL (cutL s 26 28) = nm at *
    clear x1 x2 l1 l2
    by_cases hsh : s.length - 30 < nm + sz
    · have ht : (s.length : Int) - 30 < (nm : Int) + (sz : Int) := by omega
      have HX := Lib.hid (HPB.out 4 (by rw [HE.out, if_pos hsh]) (by decide))
      go_wp2
      exact bodyPost_ret (v := .tuple #[.agg #[.string ⟨#[]⟩, .string ⟨#[]⟩], .int .u32 0, .int .i64 4]) (by simp [results, Tryd.results27, go_sem]) rfl ⟨HX.out.symm, (below_alloc _ _).drew⟩
    · have ht : (nm : Int) + (sz : Int) ≤ (s.length : Int) - 30 := by omega
      rw [if_neg hsh] at HE
      obtain ⟨D, hD⟩ : ∃ D, D = 30 + nm := ⟨_, rfl⟩
      obtain ⟨E, hE⟩ : ∃ E, E = D + sz := ⟨_, rfl⟩
      rw [← hD] at HN HD
      rw [← hE] at HD
      have x5 := B_ext s 30 D
      have x6 := B_ext s D E
      have j1 : (30 : Int) ≤ (D : Int) := by omega
      have j2 : (D : Int) ≤ (s.length : Int) := by omega
      have j3 : (D : Int) ≤ (E : Int) := by omega
      have j4 : (E : Int) ≤ (s.length : Int) := by omega
      have j5 : IntKind.i64.wrap (30 + (nm : Int)) = (D : Int) := by rw [IntWalk.i64_in _ (by omega)]; omega
      have j6 : IntKind.i64.wrap ((D : Int) + (sz : Int)) = (E : Int) := by rw [IntWalk.i64_in _ (by omega)]; omega
      have nl : (cutL s 30 D).length ≤ 1000000 := by rw [cut_len]; omega
      have dl : (cutL s D E).length ≤ 1000000 := by rw [cut_len]; omega
      rw [HN.out, HD.out] at HE HR
      clear hD hE hsh HN HD
      generalize cutL s 30 D = N at *
      generalize cutL s D E = T at *
      go_wp2
      go_region_held3 (fun _ => True) (trivial) (fail)
      have hB0 : Below w.heap.size w (((w.alloc (.cells #[.string ⟨#[]⟩, .string ⟨#[]⟩] 35)).alloc (.cells #[.string (B N), .string (B T)] 35)).drew.drew) := (((below_alloc _ _).alloc (by simp) _).drew).drew
      have q0 : (((w.alloc (.cells #[.string ⟨#[]⟩, .string ⟨#[]⟩] 35)).alloc (.cells #[.string (B N), .string (B T)] 35)).drew.drew).cell? ⟨w.heap.size + 1, 0, none⟩ = some (.string (B N)) := by simp
      have q1 : (((w.alloc (.cells #[.string ⟨#[]⟩, .string ⟨#[]⟩] 35)).alloc (.cells #[.string (B N), .string (B T)] 35)).drew.drew).cell? ⟨w.heap.size + 1, 1, none⟩ = some (.string (B T)) := by simp
      have r0 : (((w.alloc (.cells #[.string ⟨#[]⟩, .string ⟨#[]⟩] 35)).alloc (.cells #[.string (B N), .string (B T)] 35)).drew.drew).heap[w.heap.size]? = some (.cells #[.string ⟨#[]⟩, .string ⟨#[]⟩] 35 (0, 0)) := by
        show ((w.alloc (.cells #[.string ⟨#[]⟩, .string ⟨#[]⟩] 35)).alloc (.cells #[.string (B N), .string (B T)] 35)).heap[w.heap.size]? = _
        rw [Lib.alloc_old _ _ _ (by simp)]; exact heap_alloc_new w _
      go_wp2_with fail
      refine (number_any _ _ l3).mono ?_
      rintro e w' ⟨rfl, rfl⟩
      generalize (((w.alloc (.cells #[.string ⟨#[]⟩, .string ⟨#[]⟩] 35)).alloc (.cells #[.string (B N), .string (B T)] 35)).drew.drew) = W at *
      generalize numL (cutL s 14 18) = sm at *
      clear x3 l3
      go_wp2
      have hB : Below w.heap.size w W.drew := hB0.drew
      have HCM := Lib.hid (fun W => common_any N T sm W (by omega) (by omega) n3)
      generalize comL N.length T.length sm = cc at *
      generalize cutL s 4 30 = c4 at *
      by_cases hcm : c4 = cc
      · have e1 : (!(c4 == cc)) = false := by simp [hcm]
        rw [if_neg (by simp [hcm])] at HE
        clear hcm
        go_region_held3 (fun w' => w'.cell? ⟨w.heap.size + 1, 0, none⟩ = some (.string (B N)) ∧ w'.cell? ⟨w.heap.size + 1, 1, none⟩ = some (.string (B T))) (first | exact ⟨q0, q1⟩ | exact HSW)
          (first | (go_at_call 21; refine (HCM.out W.drew).mono ?_; rintro e w2 ⟨rfl, hb⟩; have hB2 := hB.trans (hb.mono hB.size); have HSW : w2.cell? ⟨w.heap.size + 1, 0, none⟩ = some (.string (B N)) ∧ w2.cell? ⟨w.heap.size + 1, 1, none⟩ = some (.string (B T)) := ⟨keeps hb (Nat.le_refl _) q0, keeps hb (Nat.le_refl _) q1⟩; have r2 : w2.heap[w.heap.size]? = some (.cells #[.string ⟨#[]⟩, .string ⟨#[]⟩] 35 (0, 0)) := (hb.block _ (Array.getElem?_eq_some_iff.1 r0).1).trans r0))
        obtain ⟨s0, s1⟩ := HSW
        clear q0 q1 r0 hB hB0 hb x4 x5 x6 HCM
        go_wp2_with fail
        refine (sum_any (B T) w2 (by rw [B_size]; omega)).mono ?_
        rintro e w3 ⟨rfl, hb3⟩
        rw [B_data]
        have hB3 := hB2.trans (hb3.mono hB2.size)
        have s0' := keeps hb3 (Nat.le_refl _) s0
        have s1' := keeps hb3 (Nat.le_refl _) s1
        have r3 : w3.heap[w.heap.size]? = some (.cells #[.string ⟨#[]⟩, .string ⟨#[]⟩] 35 (0, 0)) := (hb3.block _ (Array.getElem?_eq_some_iff.1 r2).1).trans r2
        have u0 : w3.cell? ⟨w.heap.size, 0, none⟩ = some (.string ⟨#[]⟩) := by simp [World.cell?, r3]
        have u1 : w3.cell? ⟨w.heap.size, 1, none⟩ = some (.string ⟨#[]⟩) := by simp [World.cell?, r3]
        have v0 : w3.frozen? ⟨w.heap.size, 0, none⟩ = false := by simp [World.frozen?, r3]
        have v1 : w3.frozen? ⟨w.heap.size, 1, none⟩ = false := by simp [World.frozen?, r3]
        have g0 : (w3.setCell ⟨w.heap.size, 0, none⟩ (.string (B N))).cell? ⟨w.heap.size, 0, none⟩ = some (.string (B N)) := by simp [World.cell?, World.setCell, Array.getElem?_modify, r3]
        have g1 : ((w3.setCell ⟨w.heap.size, 0, none⟩ (.string (B N))).setCell ⟨w.heap.size, 1, none⟩ (.string (B T))).cell? ⟨w.heap.size, 1, none⟩ = some (.string (B T)) := by simp [World.cell?, World.setCell, Array.getElem?_modify, r3]
        have HG := Lib.hid (And.intro g0 g1)
        have hB5 := (hB3.setCell (p := ⟨w.heap.size, 0, none⟩) (Nat.le_refl _) (.string (B N))).setCell (p := ⟨w.heap.size, 1, none⟩) (Nat.le_refl _) (.string (B T))
        clear hB2 hb3 s0 s1 r2 g0 g1
        by_cases hcr : crc T = sm
        · have e2 : ((crc T : Int) != (sm : Int)) = false := by simp [hcr]
          rw [if_neg (by simp [hcr])] at HE
          have HX := Lib.hid (HR.out HE.out)
          clear hcr HR
          generalize crc T = ct at *
          go_wp2
          exact bodyPost_ret (v := .tuple #[.agg #[.string (B N), .string (B T)], .int .u32 (sm : Nat), .int .i64 0]) (by simp [results, Tryd.results27, go_sem, HG.out.1, HG.out.2]) rfl ⟨HX.out.symm, hB5⟩
        · have e2 : ((crc T : Int) != (sm : Int)) = true := by simp; omega
          rw [if_pos hcr] at HE
          have HX := Lib.hid (HPB.out 14 HE.out (by decide))
          clear hcr HR
          generalize crc T = ct at *
          have g2 : (w3.setCell ⟨w.heap.size, 0, none⟩ (.string ⟨#[]⟩)).cell? ⟨w.heap.size, 0, none⟩ = some (.string ⟨#[]⟩) := by simp [World.cell?, World.setCell, Array.getElem?_modify, r3]
          have g3 : ((w3.setCell ⟨w.heap.size, 0, none⟩ (.string ⟨#[]⟩)).setCell ⟨w.heap.size, 1, none⟩ (.string ⟨#[]⟩)).cell? ⟨w.heap.size, 1, none⟩ = some (.string ⟨#[]⟩) := by simp [World.cell?, World.setCell, Array.getElem?_modify, r3]
          have HG2 := Lib.hid (And.intro g2 g3)
          clear g2 g3
          go_wp2
          exact bodyPost_ret (v := .tuple #[.agg #[.string ⟨#[]⟩, .string ⟨#[]⟩], .int .u32 0, .int .i64 14]) (by simp [results, Tryd.results27, go_sem, HG2.out.1, HG2.out.2]) rfl ⟨HX.out.symm, (hB3.setCell (p := ⟨w.heap.size, 0, none⟩) (Nat.le_refl _) _).setCell (p := ⟨w.heap.size, 1, none⟩) (Nat.le_refl _) _⟩
      · have e1 : (!(c4 == cc)) = true := by simpa using hcm
        rw [if_pos hcm] at HE
        have HX := Lib.hid (HPB.out 5 HE.out (by decide))
        clear hcm HR
        go_region_held3 (fun w' => w'.cell? ⟨w.heap.size + 1, 0, none⟩ = some (.string (B N)) ∧ w'.cell? ⟨w.heap.size + 1, 1, none⟩ = some (.string (B T))) (first | exact ⟨q0, q1⟩ | exact HSW)
          (first | (go_at_call 21; refine (HCM.out W.drew).mono ?_; rintro e w2 ⟨rfl, hb⟩; have hB2 := hB.trans (hb.mono hB.size); have HSW : w2.cell? ⟨w.heap.size + 1, 0, none⟩ = some (.string (B N)) ∧ w2.cell? ⟨w.heap.size + 1, 1, none⟩ = some (.string (B T)) := ⟨keeps hb (Nat.le_refl _) q0, keeps hb (Nat.le_refl _) q1⟩; have r2 : w2.heap[w.heap.size]? = some (.cells #[.string ⟨#[]⟩, .string ⟨#[]⟩] 35 (0, 0)) := (hb.block _ (Array.getElem?_eq_some_iff.1 r0).1).trans r0))
        clear q0 q1 r0 hB hB0 hb x4 x5 x6 HCM HSW
        have u0 : w2.cell? ⟨w.heap.size, 0, none⟩ = some (.string ⟨#[]⟩) := by simp [World.cell?, r2]
        have u1 : w2.cell? ⟨w.heap.size, 1, none⟩ = some (.string ⟨#[]⟩) := by simp [World.cell?, r2]
        have v0 : w2.frozen? ⟨w.heap.size, 0, none⟩ = false := by simp [World.frozen?, r2]
        have v1 : w2.frozen? ⟨w.heap.size, 1, none⟩ = false := by simp [World.frozen?, r2]
        have g2 : (w2.setCell ⟨w.heap.size, 0, none⟩ (.string ⟨#[]⟩)).cell? ⟨w.heap.size, 0, none⟩ = some (.string ⟨#[]⟩) := by simp [World.cell?, World.setCell, Array.getElem?_modify, r2]
        have g3 : ((w2.setCell ⟨w.heap.size, 0, none⟩ (.string ⟨#[]⟩)).setCell ⟨w.heap.size, 1, none⟩ (.string ⟨#[]⟩)).cell? ⟨w.heap.size, 1, none⟩ = some (.string ⟨#[]⟩) := by simp [World.cell?, World.setCell, Array.getElem?_modify, r2]
        have HG2 := Lib.hid (And.intro g2 g3)
        clear g2 g3
        go_wp2
        exact bodyPost_ret (v := .tuple #[.agg #[.string ⟨#[]⟩, .string ⟨#[]⟩], .int .u32 0, .int .i64 5]) (by simp [results, Tryd.results27, go_sem, HG2.out.1, HG2.out.2]) rfl ⟨HX.out.symm, (hB2.setCell (p := ⟨w.heap.size, 0, none⟩) (Nat.le_refl _) _).setCell (p := ⟨w.heap.size, 1, none⟩) (Nat.le_refl _) _⟩
end Go.Proofs.YtofbcblhpflleaaDoor
