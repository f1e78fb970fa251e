/-
  Layer 35 (archive): plain: an archive with one changed byte in the data of a file.
-/
import Derived.Test.YtofbcblhpflleaaDoorArcS
namespace Go.Proofs.YtofbcblhpflleaaDoor
open Go.RowKit
set_option linter.unusedVariables false

theorem take_change (P S : List UInt8) (p q : UInt8) : (P ++ p :: S).take P.length ++ q :: (P ++ p :: S).drop (P.length + 1) = P ++ q :: S := by
  rw [List.take_left, show P ++ p :: S = (P ++ [p]) ++ S from by simp, List.drop_left' (by simp)]
theorem list_split {α : Type} (l : List α) (i : Nat) (h : i < l.length) : l = l.take i ++ l[i] :: l.drop (i + 1) := by
  rw [← List.drop_eq_getElem_cons h, List.take_append_drop]
theorem put_split (fs : List (List UInt8 × List UInt8)) (i : Nat) (hi : i < fs.length) : putT fs = locs (fs.take i) ++ (locT fs[i] ++ (locs (fs.drop (i + 1)) ++ dirT fs (crcs fs))) := by
  have e : locs fs = locs (fs.take i) ++ (locT fs[i] ++ locs (fs.drop (i + 1))) :=
    (congrArg locs (list_split fs i hi)).trans (by unfold locs; rw [List.flatMap_append, List.flatMap_cons])
  unfold putT
  rw [e, List.append_assoc, List.append_assoc]
theorem locP_bytes (nm d : List UInt8) (s : Nat) : (locP (nm, d) s).flatten = [80, 75, 3, 4] ++ comL nm.length d.length s ++ nm ++ d := by simp [locP]
/-- where the byte at of the data of file i lies -/
def placeOf (fs : List (List UInt8 × List UInt8)) (i at_ : Nat) : Nat := at_ + sizes (fs.take i) + 30 + (fs[i]?.getD ([], [])).1.length
theorem spoil_text (fs : List (List UInt8 × List UInt8)) (i a : Nat) (hi : i < fs.length) (ha : a < (fs[i]?.getD ([], [])).2.length) (q : UInt8) :
    placeOf fs i a < (putT fs).length ∧ (putT fs).take (placeOf fs i a) ++ q :: (putT fs).drop (placeOf fs i a + 1) = locs (fs.take i) ++ ((locP ((fs[i]?.getD ([], [])).1, (fs[i]?.getD ([], [])).2.take a ++ q :: (fs[i]?.getD ([], [])).2.drop (a + 1)) (crc ((fs[i]?.getD ([], [])).2.take a ++ (fs[i]?.getD ([], [])).2[a] :: (fs[i]?.getD ([], [])).2.drop (a + 1)))).flatten ++ (locs (fs.drop (i + 1)) ++ dirT fs (crcs fs))) := by
  have hp := put_split fs i hi
  have hg : fs[i]?.getD ([], []) = fs[i] := by rw [List.getElem?_eq_getElem hi]; rfl
  unfold placeOf
  simp only [hg] at ha ⊢
  generalize fs[i] = f at *
  obtain ⟨nm, d⟩ := f
  simp only at ha ⊢
  have hd := list_split d a ha
  generalize locs (fs.drop (i + 1)) ++ dirT fs (crcs fs) = rest at *
  have hl : (d.take a).length = a := by rw [List.length_take]; omega
  have hP : (locs (fs.take i) ++ ([80, 75, 3, 4] ++ comL nm.length d.length (crc d) ++ nm) ++ d.take a).length = a + sizes (fs.take i) + 30 + nm.length := by
    simp only [List.length_append, locs_len, com_len, hl, List.length_cons, List.length_nil]; omega
  have e : putT fs = (locs (fs.take i) ++ ([80, 75, 3, 4] ++ comL nm.length d.length (crc d) ++ nm) ++ d.take a) ++ d[a] :: (d.drop (a + 1) ++ rest) := by
    rw [hp]
    unfold locT
    rw [locP_bytes]
    conv => lhs; rw [show ∀ X Y : List UInt8, X ++ d ++ Y = X ++ (d.take a ++ d[a] :: d.drop (a + 1)) ++ Y from fun X Y => by rw [← hd]]
    simp only [List.append_assoc, List.cons_append]
  refine ⟨?_, ?_⟩
  · rw [e, List.length_append, hP, List.length_cons]; omega
  · rw [← hP, e, take_change, locP_bytes, ← hd]
    have hl2 : (d.take a ++ q :: d.drop (a + 1)).length = d.length := by
      rw [List.length_append, List.length_cons, hl, List.length_drop]; omega
    rw [hl2]
    simp only [List.append_assoc, List.cons_append]
/-- an archive with a changed byte -/
theorem get_spoilt (fs : List (List UInt8 × List UInt8)) (hf : ∀ f ∈ fs, Fits f) (i a : Nat) (hi : i < fs.length) (ha : a < (fs[i]?.getD ([], [])).2.length) (q : UInt8) (hq : (fs[i]?.getD ([], [])).2[a] ≠ q) :
    getG ((putT fs).take (placeOf fs i a) ++ q :: (putT fs).drop (placeOf fs i a + 1)) [] = ([], 14) := by
  rw [(spoil_text fs i a hi ha q).2]
  have hd := list_split (fs[i]?.getD ([], [])).2 a ha
  refine get_spoil (fs.take i) [] _ _ _ _ _ q (fun f h => hf f (List.mem_of_mem_take h)) ?_ hq
  rw [← hd]
  exact hf _ (fl_mem fs i hi)
theorem sizes_take (fs : List (List UInt8 × List UInt8)) (k : Nat) (h : k < fs.length) : sizes (fs.take (k + 1)) = sizes (fs.take k) + (30 + (fs[k]?.getD ([], [])).1.length + (fs[k]?.getD ([], [])).2.length) := by
  unfold sizes
  rw [List.take_succ_eq_append_getElem h, List.map_append, List.sum_append, List.getElem?_eq_getElem h]
  simp [sizeF]
end Go.Proofs.YtofbcblhpflleaaDoor
