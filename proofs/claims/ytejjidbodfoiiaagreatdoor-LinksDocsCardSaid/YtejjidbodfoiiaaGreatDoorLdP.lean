/-
  Layer 44 (links), LinksDocs, plain: blocks in a row, then the inlines of each.
-/
import Derived.Test.YtejjidbodfoiiaaGreatDoorLkST
namespace Go.Proofs.YtejjidbodfoiiaaGreatDoor
open Go.RowKit
set_option linter.unusedVariables false
set_option linter.unusedSimpArgs false

def inls (bs : List Bk) : List In := bs.flatMap fun b => dpL b.ln
theorem evL_fl (ks : List Bk) : evL ks = (flL ks).flatMap fun b => .b b :: (dpL b.ln).map Ev.i := by
  have hB : ∀ x : Bk, evB x = (flB x).flatMap fun b => .b b :: (dpL b.ln).map Ev.i := by
    refine Bk.ind ?_
    intro k lv nf tx ds ti id ao ln ks IH
    have hL : ∀ l : List Bk, (∀ x ∈ l, evB x = (flB x).flatMap fun b => .b b :: (dpL b.ln).map Ev.i) → evL l = (flL l).flatMap fun b => .b b :: (dpL b.ln).map Ev.i := by
      intro l
      induction l with
      | nil => intro _; rfl
      | cons x r ih =>
        intro h
        rw [evL, flL, List.flatMap_append, h x (List.mem_cons_self ..), ih (fun y hy => h y (List.mem_cons_of_mem _ hy))]
    rw [evB, flB, List.flatMap_cons, hL ks IH]
    rfl
  induction ks with
  | nil => rfl
  | cons x r ih => rw [evL, flL, List.flatMap_append, hB x, ih]
theorem flL_len (ks : List Bk) : (flL ks).length ≤ (evL ks).length := by
  rw [evL_fl]
  generalize flL ks = l
  induction l with
  | nil => simp
  | cons x r ih => rw [List.flatMap_cons, List.length_append, List.length_cons, List.length_cons]; omega
theorem inls_len (ks : List Bk) : (inls (flL ks)).length ≤ (evL ks).length := by
  rw [evL_fl]
  unfold inls
  generalize flL ks = l
  induction l with
  | nil => simp
  | cons x r ih => rw [List.flatMap_cons, List.flatMap_cons, List.length_append, List.length_append, List.length_cons, List.length_map]; omega
theorem dpL_len_mem {bs : List Bk} {b : Bk} (h : b ∈ bs) : (dpL b.ln).length ≤ (inls bs).length := by
  unfold inls
  induction bs with
  | nil => cases h
  | cons x r ih =>
    rw [List.flatMap_cons, List.length_append]
    rcases List.mem_cons.1 h with rfl | h
    · omega
    · have := ih h; omega
def idsF (bs : List Bk) : List Bs := bs.flatMap fun b => idL b.id ++ (dpL b.ln).flatMap fun x => idL x.id
def notesF (bs : List Bk) : List Bs := bs.flatMap fun b => if b.k = 14 then [b.nf] else []
theorem idsV_fl (ks : List Bk) : idsV (evL ks) = idsF (flL ks) := by
  rw [evL_fl]
  unfold idsV idsF
  rw [List.flatMap_assoc]
  congr 1
  funext b
  rw [List.flatMap_cons, List.flatMap_map]; rfl
theorem notesV_fl (ks : List Bk) : notesV (evL ks) = notesF (flL ks) := by
  rw [evL_fl]
  unfold notesV notesF
  rw [List.flatMap_assoc]
  congr 1
  funext b
  rw [List.flatMap_cons, List.flatMap_map]
  simp [noteE]
theorem missV_fl (ids notes : List Bs) (ks : List Bk) : missV ids notes (evL ks) = (inls (flL ks)).flatMap (missI ids notes) := by
  rw [evL_fl]
  unfold missV inls
  rw [List.flatMap_assoc, List.flatMap_assoc]
  congr 1
  funext b
  rw [List.flatMap_cons, List.flatMap_map]
  simp [missE]
end Go.Proofs.YtejjidbodfoiiaaGreatDoor
