/-
  Layer 35 (archive): plain laws: what is read from what was written.
-/
import Derived.Test.YtofbcblhpflleaaDoorArcJ
namespace Go.Proofs.YtofbcblhpflleaaDoor
open Go.RowKit
set_option linter.unusedVariables false

theorem toNat_ofNat (n : Nat) : (UInt8.ofNat n).toNat = n % 256 := UInt8.toNat_ofNat'
theorem num_le2 (n : Nat) (h : n < 65536) : numL (le2L n) = n := by
  simp only [numL, le2L, toNat_ofNat]; omega
theorem num_le4 (n : Nat) (h : n < 4294967296) : numL (le4L n) = n := by
  simp only [numL, le4L, toNat_ofNat]; omega
theorem cut_app (a b c : List UInt8) : cutL (a ++ b ++ c) a.length (a.length + b.length) = b := by
  unfold cutL
  rw [List.append_assoc, List.take_append, List.take_of_length_le (by omega), List.drop_append, List.drop_of_length_le (by omega)]
  simp
/-- the bounds of a file that can be written -/
def Fits (f : List UInt8 × List UInt8) : Prop := f.1.length < 65536 ∧ f.2.length < 4294967296
theorem part_loc (f : List UInt8 × List UInt8) (hf : Fits f) (s : Nat) (hs : s < 4294967296) (rest : List UInt8) :
    pSize ((locP f s).flatten ++ rest) = f.2.length ∧ pNames ((locP f s).flatten ++ rest) = f.1.length ∧ pSum ((locP f s).flatten ++ rest) = s ∧ pName ((locP f s).flatten ++ rest) = f.1 ∧ pData ((locP f s).flatten ++ rest) = f.2 ∧ cutL ((locP f s).flatten ++ rest) 4 30 = comL f.1.length f.2.length s := by
  have e : (locP f s).flatten ++ rest = [80, 75, 3, 4] ++ comL f.1.length f.2.length s ++ (f.1 ++ f.2 ++ rest) := by simp [locP]
  have e2 : (locP f s).flatten ++ rest = ([80, 75, 3, 4] ++ (le2L 10 ++ le2L 0 ++ le2L 0 ++ le2L 0 ++ le2L 33)) ++ le4L s ++ (le4L f.2.length ++ le4L f.2.length ++ le2L f.1.length ++ le2L 0 ++ (f.1 ++ f.2 ++ rest)) := by simp [locP, comL, comP]
  have e3 : (locP f s).flatten ++ rest = ([80, 75, 3, 4] ++ (le2L 10 ++ le2L 0 ++ le2L 0 ++ le2L 0 ++ le2L 33) ++ le4L s) ++ le4L f.2.length ++ (le4L f.2.length ++ le2L f.1.length ++ le2L 0 ++ (f.1 ++ f.2 ++ rest)) := by simp [locP, comL, comP]
  have e4 : (locP f s).flatten ++ rest = ([80, 75, 3, 4] ++ (le2L 10 ++ le2L 0 ++ le2L 0 ++ le2L 0 ++ le2L 33) ++ le4L s ++ le4L f.2.length ++ le4L f.2.length) ++ le2L f.1.length ++ (le2L 0 ++ (f.1 ++ f.2 ++ rest)) := by simp [locP, comL, comP]
  have c1 : cutL ((locP f s).flatten ++ rest) 4 30 = comL f.1.length f.2.length s := by
    rw [e]
    have := cut_app [80, 75, 3, 4] (comL f.1.length f.2.length s) (f.1 ++ f.2 ++ rest)
    rw [com_len] at this
    exact this
  have c2 : pSum ((locP f s).flatten ++ rest) = s := by
    unfold pSum
    rw [e2]
    have := cut_app ([80, 75, 3, 4] ++ (le2L 10 ++ le2L 0 ++ le2L 0 ++ le2L 0 ++ le2L 33)) (le4L s) (le4L f.2.length ++ le4L f.2.length ++ le2L f.1.length ++ le2L 0 ++ (f.1 ++ f.2 ++ rest))
    rw [show cutL (([80, 75, 3, 4] ++ (le2L 10 ++ le2L 0 ++ le2L 0 ++ le2L 0 ++ le2L 33)) ++ le4L s ++ (le4L f.2.length ++ le4L f.2.length ++ le2L f.1.length ++ le2L 0 ++ (f.1 ++ f.2 ++ rest))) 14 18 = le4L s from this, num_le4 s hs]
  have c3 : pSize ((locP f s).flatten ++ rest) = f.2.length := by
    unfold pSize
    rw [e3]
    have := cut_app ([80, 75, 3, 4] ++ (le2L 10 ++ le2L 0 ++ le2L 0 ++ le2L 0 ++ le2L 33) ++ le4L s) (le4L f.2.length) (le4L f.2.length ++ le2L f.1.length ++ le2L 0 ++ (f.1 ++ f.2 ++ rest))
    rw [show cutL (([80, 75, 3, 4] ++ (le2L 10 ++ le2L 0 ++ le2L 0 ++ le2L 0 ++ le2L 33) ++ le4L s) ++ le4L f.2.length ++ (le4L f.2.length ++ le2L f.1.length ++ le2L 0 ++ (f.1 ++ f.2 ++ rest))) 18 22 = le4L f.2.length from this, num_le4 _ hf.2]
  have c4 : pNames ((locP f s).flatten ++ rest) = f.1.length := by
    unfold pNames
    rw [e4]
    have := cut_app ([80, 75, 3, 4] ++ (le2L 10 ++ le2L 0 ++ le2L 0 ++ le2L 0 ++ le2L 33) ++ le4L s ++ le4L f.2.length ++ le4L f.2.length) (le2L f.1.length) (le2L 0 ++ (f.1 ++ f.2 ++ rest))
    rw [show cutL (([80, 75, 3, 4] ++ (le2L 10 ++ le2L 0 ++ le2L 0 ++ le2L 0 ++ le2L 33) ++ le4L s ++ le4L f.2.length ++ le4L f.2.length) ++ le2L f.1.length ++ (le2L 0 ++ (f.1 ++ f.2 ++ rest))) 26 28 = le2L f.1.length from this, num_le2 _ hf.1]
  have hl : ([80, 75, 3, 4] ++ comL f.1.length f.2.length s).length = 30 := by rw [List.length_append, com_len]; rfl
  refine ⟨c3, c4, c2, ?_, ?_, c1⟩
  · unfold pName
    rw [c4, e]
    have := cut_app ([80, 75, 3, 4] ++ comL f.1.length f.2.length s) f.1 (f.2 ++ rest)
    rw [hl, List.append_assoc, ← List.append_assoc f.1 f.2 rest] at this
    exact this
  · unfold pData
    rw [c4, c3, e]
    have := cut_app ([80, 75, 3, 4] ++ comL f.1.length f.2.length s ++ f.1) f.2 rest
    rw [List.length_append, hl, List.append_assoc (_ ++ f.1) f.2 rest, List.append_assoc _ f.1 (f.2 ++ rest), ← List.append_assoc f.1 f.2 rest] at this
    exact this
theorem locP_len (f : List UInt8 × List UInt8) (s : Nat) : (locP f s).flatten.length = sizeF f := by
  simp [locP, com_len, sizeF]; omega
theorem partE_loc (f : List UInt8 × List UInt8) (hf : Fits f) (s : Nat) (hs : s < 4294967296) (rest : List UInt8) : partE ((locP f s).flatten ++ rest) = if crc f.2 ≠ s then 14 else 0 := by
  obtain ⟨h1, h2, h3, h4, h5, h6⟩ := part_loc f hf s hs rest
  unfold partE
  have hl : ((locP f s).flatten ++ rest).length = sizeF f + rest.length := by rw [List.length_append, locP_len]
  rw [if_neg (by rw [hl]; unfold sizeF; omega), h1, h2, if_neg (by rw [hl]; unfold sizeF; omega), h3, h4, h5, h6, if_neg (by simp)]
theorem pre_loc (f : List UInt8 × List UInt8) (s : Nat) (rest : List UInt8) : preB ((locP f s).flatten ++ rest) headL = true := by
  unfold preB
  have hl : ((locP f s).flatten ++ rest).length = sizeF f + rest.length := by rw [List.length_append, locP_len]
  have h4 : headL.length ≤ ((locP f s).flatten ++ rest).length := by rw [hl]; show 4 ≤ _; unfold sizeF; omega
  rw [decide_eq_true h4]
  simp [locP, headL]
theorem not_end {r : List UInt8} (h : 4 ≤ r.length) : ¬ (r.length < 4 ∧ preB headL r = true) := fun e => by omega
/-- a file that was written is read -/
theorem getG_loc (f : List UInt8 × List UInt8) (hf : Fits f) (rest : List UInt8) (fs : List (List UInt8 × List UInt8)) : getG (locT f ++ rest) fs = getG rest (fs ++ [f]) := by
  have hl : (locT f ++ rest).length = sizeF f + rest.length := by rw [List.length_append, locT_len]
  obtain ⟨h1, h2, h3, h4, h5, h6⟩ := part_loc f hf (crc f.2) (crc_lt _) rest
  have hp : partE (locT f ++ rest) = 0 := by
    have := partE_loc f hf (crc f.2) (crc_lt _) rest
    rw [if_neg (by simp)] at this
    exact this
  have h4' : pName (locT f ++ rest) = f.1 := h4
  have h5' : pData (locT f ++ rest) = f.2 := h5
  rw [getG_next (r := locT f ++ rest) (not_end (by rw [hl]; unfold sizeF; omega)) (pre_loc f (crc f.2) rest) hp, h4', h5']
  congr 1
  rw [show 30 + f.1.length + f.2.length = (locT f).length from by rw [locT_len]; rfl, List.drop_left]
theorem getG_locs (gs : List (List UInt8 × List UInt8)) (hg : ∀ f ∈ gs, Fits f) (rest : List UInt8) : ∀ fs, getG (locs gs ++ rest) fs = getG rest (fs ++ gs) := by
  induction gs with
  | nil => intro fs; simp [locs]
  | cons g r ih =>
    intro fs
    have e : locs (g :: r) ++ rest = locT g ++ (locs r ++ rest) := by simp [locs]
    rw [e, getG_loc g (hg g (List.mem_cons_self ..)), ih (fun f hf => hg f (List.mem_cons_of_mem _ hf))]
    simp
/-- the directory begins with no file -/
theorem dir_head (fs : List (List UInt8 × List UInt8)) (ss : List Nat) : ∃ c t, dirT fs ss = 80 :: 75 :: c :: t ∧ c ≠ 3 ∧ 19 ≤ t.length := by
  cases fs with
  | nil => exact ⟨5, _, rfl, by decide, by simp [le2L, le4L]⟩
  | cons f r =>
    cases ss with
    | nil => exact ⟨5, _, rfl, by decide, by simp [le2L, le4L]⟩
    | cons s q => exact ⟨1, _, rfl, by decide, by simp [le2L, le4L]; omega⟩
theorem pre_dir {c : UInt8} {t : List UInt8} (hc : c ≠ 3) : preB (80 :: 75 :: c :: t) headL = false := by
  unfold preB headL
  cases t with
  | nil => simp
  | cons x t => simp [hc]
theorem getG_dir (fs : List (List UInt8 × List UInt8)) (h : acheck fs = 0) : getG (dirT fs (crcs fs)) fs = (fs, 0) := by
  obtain ⟨c, t, e, hc, ht⟩ := dir_head fs (crcs fs)
  rw [getG_fin (not_end (by rw [e]; simp; omega)) (by rw [e]; exact pre_dir hc)]
  unfold finL
  rw [if_neg (by simp [h]), if_neg (by simp), if_neg (by simp)]
/-- files are read from their archive -/
theorem get_put (fs : List (List UInt8 × List UInt8)) (hf : ∀ f ∈ fs, Fits f) (h : acheck fs = 0) : getG (putT fs) [] = (fs, 0) := by
  unfold putT
  rw [getG_locs fs hf, List.nil_append, getG_dir fs h]
end Go.Proofs.YtofbcblhpflleaaDoor
