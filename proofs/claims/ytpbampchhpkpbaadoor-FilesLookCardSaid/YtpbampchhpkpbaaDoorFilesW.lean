/-
  Layer 16 (files): Drop.
-/
import Derived.Test.YtpbampchhpkpbaaDoorFilesV
namespace Go.Proofs.YtpbampchhpkpbaaDoor
set_option linter.unusedSimpArgs false
open Go.RowKit
set_option linter.unusedVariables false
attribute [local go_sem] B_data B_size

/-- v is a list of files in memory. -/
def Lst (w : World) (v : Value) (L : List (List UInt8 × List UInt8)) : Prop := ∃ A n c, v = .slice A n c ∧ n ≤ c ∧ Rd w w.heap.size 2 A n (fls L)
theorem Lst.of_own {w : World} {base n : Nat} {v : Value} {L : List (List UInt8 × List UInt8)} (h : w.ownsRow base 36 2 v n (fls L)) : Lst w v L := by
  obtain ⟨A, c, rfl, hc⟩ := own_form h
  exact ⟨A, n, c, rfl, hc, Rd.of_own h⟩
theorem Lst.below {w w' : World} {v : Value} {L : List (List UInt8 × List UInt8)} (h : Lst w v L) (hb : Below w.heap.size w w') : Lst w' v L := by
  obtain ⟨A, n, c, rfl, hc, hr⟩ := h
  exact ⟨A, n, c, rfl, hc, (hr.below hb).more hb.size⟩
theorem rd_of_row {w : World} {g n m : Nat} {xs ys : List (List UInt8 × List UInt8)} {t : TypeId} (h : w.heap[g]? = some (.cells (fls ys).toArray t (0, 0))) (hx : fls xs = (fls ys).take (n * 2)) (hn : xs.length = n) :
    Rd w w.heap.size 2 (some ⟨g, 0, none⟩) n (fls xs) := by
  refine ⟨by rw [fls_len]; omega, fun _ => ⟨_, rfl, ?_, fun j u hj => ?_⟩⟩
  · exact (Array.getElem?_eq_some_iff.1 h).1
  · rw [addr_lit, Lib.cell_of_heap h]
    rw [hx, List.getElem?_take] at hj
    split at hj
    · simpa using hj
    · simp at hj

def dropL (fs : List (List UInt8 × List UInt8)) (name : List UInt8) : List (List UInt8 × List UInt8) :=
  if findL name fs 0 < 0 then fs else fs.take (findL name fs 0).toNat ++ fs.drop ((findL name fs 0).toNat + 1)

set_option maxHeartbeats 4000000 in
set_option maxRecDepth 100000 in
theorem drop_any (A : Option Addr) (n c : Nat) (fs : List (List UInt8 × List UInt8)) (name : ByteArray) (w : World) (hx : Rd w w.heap.size 2 A n (fls fs)) (hn : n ≤ 900000) (hnc : n ≤ c) :
    Calls Tryd.prog 28 #[.slice A n c, .string name] w fun e w' => ∃ v, e = .returned v ∧ Lst w' v (dropL fs name.toList) ∧ Below w.heap.size w w' := by
  have HL := Lib.hid hx.fls_length
  have hmk := run_makeFiles n (by omega)
  have hg0 : Hid ((w.alloc (.cells (fls (List.replicate n ([], []))).toArray 36)).heap[w.heap.size]? = some (.cells (fls (List.replicate n ([], []))).toArray 36 (0, 0))) := heap_alloc_new w _
  have hr2 := hx.below ((Below.refl w.heap.size w).alloc (Nat.le_refl _) (.cells (fls (List.replicate n ([], []))).toArray 36))
  have hlay : Hid (lay (fls (List.replicate n ([], []))) 0 (fls fs) = fls fs) := by
    have := lay_fls (List.replicate n ([], [])) 0 fs
    rw [Nat.zero_mul] at this
    unfold Hid
    rw [this]
    unfold layF
    rw [HL.out]; simp
  go_enter Tryd.func28, Tryd.ntmps28
  go_wp2_with (with_reducible refine wpList_copyN rfl _ _ 31 31 rfl 36 _ 2 32 Tryd.underlying31 Tryd.infoFile _ A n n n c n rfl rfl (Nat.min_self n) w.heap.size 0 (fls (List.replicate n ([], []))) 36 hg0 (fls fs) ?c1 (fun _ => rfl) w.heap.size hr2 ?c2 (fls_one fs) w.heap.size w ?c3 (Nat.le_refl _) ?_)
  case c1 => rw [fls_len, HL.out]; omega
  case c2 => rw [fls_len, fls_len, HL.out]; simp
  case c3 => exact (Below.refl _ _).alloc (Nat.le_refl _) _
  intro w2 hg2 hb2 hgr2
  rw [hlay.out] at hg2
  clear hlay hg0 hr2
  have hs2 : w.heap.size < w2.heap.size := by have := hgr2.size; simp at this; omega
  have HC := Lib.hid (find_any A n c fs name w2 ((hx.below hb2).more (by omega)) (by omega))
  rcases findL_cases name.toList fs 0 with h | ⟨k, hk, h, hnm⟩
  · have HS : Hid (dropL fs name.toList = fs) := by unfold dropL; rw [if_pos (by omega)]; rfl
    rw [h] at HC
    clear h
    go_wp2_with fail
    refine HC.out.mono ?_
    rintro e w3 ⟨rfl, hb3⟩
    have hg3 : Hid (w3.heap[w.heap.size]? = some (.cells (fls fs).toArray 36 (0, 0))) := (hb3.block _ hs2).trans hg2.out
    go_wp2
    go_ret
    refine ⟨_, rfl, ?_, hb2.trans (hb3.mono (Nat.le_of_lt hs2))⟩
    rw [HS.out]
    exact ⟨_, _, _, rfl, Nat.le_refl _, rd_of_row (m := 0) hg3.out (by rw [List.take_of_length_le (by rw [fls_len, HL.out]; omega)]) HL.out⟩
  · have hkn : k < n := by rw [← HL.out]; exact hk
    have HS : Hid (dropL fs name.toList = fs.take k ++ fs.drop (k + 1)) := by unfold dropL; rw [h, if_neg (by omega)]; simp [Hid]
    rw [h] at HC
    have e0 : ((0 : Nat) : Int) + (k : Int) = (k : Int) := by omega
    simp only [Int.natCast_add, e0] at HC
    clear h hnm e0 hk
    go_wp2_with fail
    refine HC.out.mono ?_
    rintro e w3 ⟨rfl, hb3⟩
    have hB3 := hb2.trans (hb3.mono (Nat.le_of_lt hs2))
    have hs3 := hb3.size
    have hg3 : Hid (w3.heap[w.heap.size]? = some (.cells (fls fs).toArray 36 (0, 0))) := (hb3.block _ hs2).trans hg2.out
    have hxd := (hx.below hB3).cut (k := k + 1) (by omega) hnc
    rw [fls_drop] at hxd
    clear hg2 HC
    have hd : decide ((k : Int) < 0) = false := by simp
    go_wp2
    have hw1 : IntKind.i64.wrap ((k : Int) + 1) = (k : Int) + 1 := IntWalk.i64_in _ (by omega)
    have hw2 : ((k : Int) + 1).toNat = k + 1 := by omega
    have hw3 : (0 : Int) ≤ (k : Int) + 1 := by omega
    have hw4 : (k : Int) + 1 ≤ (n : Int) := by omega
    have hw5 : (k : Int) ≤ (n : Int) := by omega
    go_still_tail 7, (by kernel_rfl)
    clear hw1 hw2 hw3 hw4 hw5
    change wpList _ _ _ _ _ w3.drew
    refine wpList_copyN rfl _ _ 31 31 rfl 36 _ 2 32 Tryd.underlying31 Tryd.infoFile _ _ _ _ _ _ (n - (k + 1)) rfl rfl ?hm w.heap.size (k * 2) (fls fs) 36 hg3 (fls (fs.drop (k + 1))) ?c1 ?hdp w.heap.size ?hr ?c2 (fls_one _) w.heap.size w hB3.drew (Nat.le_refl _) ?_
    case hm => exact Nat.min_eq_left (by omega)
    case c1 => rw [fls_len, List.length_drop, HL.out]; omega
    case hdp => exact fun _ => if_neg (by omega)
    case hr => exact hxd
    case c2 => rw [fls_len, fls_len, List.length_drop, HL.out]; omega
    intro w4 hg4 hb4 _
    rw [lay_fls] at hg4
    have HT : Hid (fls (fs.take k ++ fs.drop (k + 1)) = (fls (layF fs k (fs.drop (k + 1)))).take ((n - 1) * 2)) := by
      rw [fls_take]
      unfold layF Hid
      have l : (fs.take k ++ fs.drop (k + 1)).length = n - 1 := by rw [List.length_append, List.length_take, List.length_drop, HL.out]; omega
      have e := List.take_left' (l₂ := fs.drop (k + (fs.drop (k + 1)).length)) l
      rw [List.append_assoc] at e
      rw [e]
    have HTL : Hid ((fs.take k ++ fs.drop (k + 1)).length = n - 1) := by rw [List.length_append, List.length_take, List.length_drop, HL.out]; unfold Hid; omega
    have hw1 : IntKind.i64.wrap ((n : Int) - 1) = ((n - 1 : Nat) : Int) := by rw [IntWalk.i64_in _ (by omega)]; omega
    have hw4 : n - 1 ≤ n := by omega
    have fin : ∃ v, Ending.returned (.slice (some ⟨w.heap.size, 0, none⟩) (n - 1) (n - 1)) = .returned v ∧ Lst w4 v (dropL fs name.toList) ∧ Below w.heap.size w w4 := by
      refine ⟨_, rfl, ?_, hb4⟩
      rw [HS.out]
      exact ⟨_, _, _, rfl, Nat.le_refl _, rd_of_row (m := 0) hg4.out HT.out HTL.out⟩
    clear HT HTL hg4 hg3
    go_wp2
    go_ret
    all_goals first | exact fin | (go_ret; exact fin) | (exfalso; omega)

end Go.Proofs.YtpbampchhpkpbaaDoor
