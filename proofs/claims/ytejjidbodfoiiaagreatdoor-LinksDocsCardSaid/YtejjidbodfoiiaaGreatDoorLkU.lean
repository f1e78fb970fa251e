/-
  Layer 44 (links): label.Missing, links.Doc.
-/
import Derived.Test.YtejjidbodfoiiaaGreatDoorLkST
import Derived.Test.YtejjidbodfoiiaaGreatDoorLkIJQ
namespace Go.Proofs.YtejjidbodfoiiaaGreatDoor
open Go.RowKit
set_option linter.unusedVariables false
set_option linter.unusedSimpArgs false
attribute [local go_sem] B_data B_size
attribute [local go_sem] run_mkS

theorem missD_len (ks : List Bk) : (missD ks).length ≤ (evL ks).length := missV_len _ _ _
theorem addAll_len (l : List Bs) : (addAll l).length ≤ l.length := by
  have key : ∀ (l S : List Bs), (l.foldl addS S).length ≤ S.length + l.length := by
    intro l
    induction l with
    | nil => intro S; simp
    | cons a r ih =>
      intro S
      rw [List.foldl_cons, List.length_cons]
      have h1 := ih (addS S a)
      have h2 : (addS S a).length ≤ S.length + 1 := by unfold addS; split <;> simp
      omega
  have := key l []
  simpa [addAll] using this
/-- the references that do not resolve, each once -/
def missN (ks : List Bk) : List Bs := addAll (missD ks)
def refK : Bs := [114, 101, 102, 101, 114, 101, 110, 99, 101]
def docF (ks : List Bk) : List Ft := (missN ks).map fun n => (refK, [], n)
set_option maxHeartbeats 4000000 in
set_option maxRecDepth 100000 in
theorem missing_any (ks : List Bk) (mv : Value) (A : Option Addr) (n c : Nat) (w : World) (hs : BsB w w.heap.size ks ⟨A, n, c⟩) (hn : (evL ks).length ≤ 1000000000) :
    Calls Tryz.prog 13 #[.agg #[mv, .slice A n c]] w (OPost (missN ks) w) := by
  have b1 := below_alloc w (.cells #[mv, .slice A n c] 30)
  have s1 : (w.alloc (.cells #[mv, .slice A n c] 30)).heap.size = w.heap.size + 1 := by simp
  have m2 : SMap ((w.alloc (.cells #[mv, .slice A n c] 30)).alloc (.map #[] 0)) (w.heap.size + 1) [] := by rw [← s1]; exact SMap.made _
  have b2 := below_alloc (w.alloc (.cells #[mv, .slice A n c] 30)) (.map #[] 0)
  have b12 := b1.trans (b2.mono (by omega))
  have hs2 := (hs.below b12).more b12.size
  have HM := Lib.hid (fun V (hV : BsB V V.heap.size ks ⟨A, n, c⟩) => miss_any ks mv A n c V hV hn)
  have s2 : ((w.alloc (.cells #[mv, .slice A n c] 30)).alloc (.map #[] 0)).heap.size = w.heap.size + 2 := by simp
  have hml := Nat.le_trans (missD_len ks) hn
  go_enter Tryz.func13, Tryz.ntmps13
  go_wp2_with fail
  generalize (w.alloc (.cells #[mv, .slice A n c] 30)).alloc (.map #[] 0) = W2 at *
  refine (HM.out _ hs2).mono ?_
  intro e w1 hP
  obtain ⟨A5, c5, rb, rfl, hR5, hrb, hrl5, hb5⟩ := hP.row w.heap.size (by omega)
  have hm1 := m2.of_block (hb5.block _ (by omega))
  have hB1 := b12.trans (hb5.mono (by omega))
  have HN : Hid (missN ks = addAll (missD ks)) := rfl
  have hs1 := hb5.size
  generalize missD ks = L at *
  clear HM hP m2
  generalize hT : w1.heap.size = t at *
  go_wp2
  go_loopw [3, 11] (fun fv i wr => ∃ (j : Nat), j ≤ L.length ∧ i = .int .i64 j ∧ wr.ownsRow t 9 1 fv (addAll (L.take j)).length (strs (addAll (L.take j))) ∧ SMap wr (w.heap.size + 1) (seenM (addAll (L.take j))) ∧ Below w.heap.size w wr ∧ t ≤ wr.heap.size ∧ RdS wr (fun b => b = rb) 1 A5 L.length (strs L) ∧ (fv.ownBlock ≠ some rb ∧ rb < wr.heap.size)) (fun _ i _ => L.length - (intOf i).toNat)
  case atStart => exact ⟨0, Nat.zero_le _, rfl, ⟨rfl, .inl ⟨rfl, rfl⟩⟩, hm1, hB1, by omega, hR5, (fun (e : (none : Option Nat) = some rb) => nomatch e), by omega⟩
  case round =>
    clear hm1 hB1 hR5 hrl5
    obtain ⟨j, hj, rfl, hown, hS, hb, htw, hR5, hno, hrl5⟩ := hrel
    by_cases hlt : j < L.length
    · have hx : L[j]? = some L[j] := List.getElem?_eq_getElem hlt
      obtain ⟨ad, e, hc⟩ := (hR5.rd (M := rb + 1) (fun b hb => by omega)).str hlt
      subst e
      rw [show L.getD j [] = L[j] by simp [List.getD, hx]] at hc
      have HT : Hid (addAll (L.take (j + 1)) = addS (addAll (L.take j)) L[j]) := by rw [List.take_succ_eq_append_getElem hlt, addAll_snoc]; rfl
      have hal := addAll_len (L.take j)
      rw [List.length_take] at hal
      generalize L[j] = x at *
      have x1 := hS.has x
      generalize addAll (L.take j) = V at *
      by_cases hxm : x ∈ V
      · rw [decide_eq_true hxm] at x1
        have HT : Hid (addAll (L.take (j + 1)) = V) := by rw [HT.out]; exact if_pos hxm
        rw [← HT.out] at hown hS
        go_wp2
        go_roundw
        case rel => exact ⟨j + 1, by omega, by go_num, hown, hS, hb, htw, hR5, hno, hrl5⟩
        case measure => simp [intOf]; omega
      · rw [decide_eq_false hxm] at x1
        have HT : Hid (addAll (L.take (j + 1)) = V ++ [x]) := by rw [HT.out]; exact if_neg hxm
        have HT2 : Hid (addS V x = V ++ [x]) := if_neg hxm
        obtain ⟨A1, c1, rfl, hnc⟩ := own_form hown
        have hVl : V.length ≤ 1000000000 := by omega
        go_wp2_with (refine wpList_store rfl 73 9 4 _ _ _ rfl Tryz.underlying73 Tryz.underlying9 (w.heap.size + 1) (seenM V) hS rfl x rfl (.bool true) rfl ?_)
        intro w3 hS3 hg3
        rw [putM_add, HT2.out] at hS3
        have hrbm : rb ≠ w.heap.size + 1 := by rcases hrb with h | h <;> omega
        have hown3 : w3.ownsRow t 9 1 (.slice A1 V.length c1) V.length (strs V) := hown.kept hg3 (.inr fun e => by have := (hown.lt _ e).1; omega)
        have hb3 := hb.grown hg3 hb.size (fun k hk => by injection hk with hk; omega)
        have hR3 : RdS w3 (fun b => b = rb) 1 (some ad) L.length (strs L) := hR5.keep fun b hb => by subst hb; exact hg3.block b hrl5 fun e => hrbm (by injection e)
        have hs3 := hg3.size
        clear hS hc x1 hown hR5
        go_wp2_with (at_builtin; (refine wpList_app2 rfl (.tmp 21) (.tmp 23) 25 rfl 9 (.string ⟨#[]⟩) 1 16 Tryz.underlying25 Tryz.info9 rfl (by omega) w3 [.string (B x)] rfl (by simp; rfl) t (.slice A1 V.length c1) V.length (strs V) hown3 rfl rfl (by omega) (by omega) (by omega) ?_))
        intro v' w6 hown6 hgr hb6 hat
        have e1 : strs V ++ [.string (B x)] = strs (V ++ [x]) := strs_snoc V x
        have e2 : V.length + 1 = (V ++ [x]).length := by simp
        rw [e1, e2, ← HT.out] at hown6
        have hs6 := hgr.size
        have hS6 := hS3.of_block (hb6.block (w.heap.size + 1) (by omega))
        rw [← HT.out] at hS6
        have hB6 := hb3.trans (hb6.mono (by omega))
        have hR6 : RdS w6 (fun b => b = rb) 1 (some ad) L.length (strs L) := hR3.keep fun b hb => by subst hb; exact hgr.block b (by omega) fun e => hno e.symm
        have hno6 : v'.ownBlock ≠ some rb := fun e => by
          rcases hat with h | h
          · exact hno (h ▸ e)
          · rw [h] at e
            injection e with e
            omega
        clear hgr hb6 hat hown3 hR3 hS3
        go_wp2
        go_roundw
        case rel => exact ⟨j + 1, by omega, by go_num, hown6, hS6, hB6, by omega, hR6, hno6, by omega⟩
        case measure => simp [intOf]; omega
    · rw [List.take_of_length_le (by omega), ← HN.out] at hown
      go_wp2
      go_ret
      exact ⟨_, rfl, own_mono hown (by omega), hb⟩
set_option maxHeartbeats 4000000 in
set_option maxRecDepth 100000 in
theorem ldoc_any (ks : List Bk) (mv : Value) (A : Option Addr) (n c : Nat) (w : World) (hs : BsB w w.heap.size ks ⟨A, n, c⟩) (hn : (evL ks).length ≤ 1000000000) :
    Calls Tryz.prog 12 #[.agg #[mv, .slice A n c]] w (FPost (docF ks) w) := by
  have b1 := below_alloc w (.cells #[mv, .slice A n c] 30)
  have s1 : (w.alloc (.cells #[mv, .slice A n c] 30)).heap.size = w.heap.size + 1 := by simp
  have hs2 := (hs.below b1).more b1.size
  have HM := Lib.hid (fun V (hV : BsB V V.heap.size ks ⟨A, n, c⟩) => missing_any ks mv A n c V hV hn)
  have hml := Nat.le_trans (Nat.le_trans (addAll_len (missD ks)) (missD_len ks)) hn
  have hml : (missN ks).length ≤ 1000000000 := hml
  go_enter Tryz.func12, Tryz.ntmps12
  go_wp2_with fail
  generalize w.alloc (.cells #[mv, .slice A n c] 30) = W2 at *
  refine (HM.out _ hs2).mono ?_
  intro e w1 hP
  obtain ⟨A5, c5, rb, rfl, hR5, hrb, hrl5, hb5⟩ := hP.row w.heap.size (by omega)
  have hB1 := b1.trans (hb5.mono (by omega))
  have HN : Hid (docF ks = (missN ks).map fun n => (refK, [], n)) := rfl
  have hs1 := hb5.size
  generalize missN ks = L at *
  clear HM hP
  generalize hT : w1.heap.size = t at *
  go_wp2
  go_loopw [3, 9] (fun fv i wr => ∃ (j : Nat), j ≤ L.length ∧ i = .int .i64 j ∧ wr.ownsRow t 36 3 fv ((L.take j).map fun n => (refK, ([] : Bs), n)).length (ftV ((L.take j).map fun n => (refK, ([] : Bs), n))) ∧ Below w.heap.size w wr ∧ t ≤ wr.heap.size ∧ RdS wr (fun b => b = rb) 1 A5 L.length (strs L) ∧ (fv.ownBlock ≠ some rb ∧ rb < wr.heap.size)) (fun _ i _ => L.length - (intOf i).toNat)
  case atStart => exact ⟨0, Nat.zero_le _, rfl, ⟨rfl, .inl ⟨rfl, rfl⟩⟩, hB1, by omega, hR5, (fun (e : (none : Option Nat) = some rb) => nomatch e), by omega⟩
  case round =>
    clear hB1 hR5 hrl5
    obtain ⟨j, hj, rfl, hown, hb, htw, hR5, hno, hrl5⟩ := hrel
    by_cases hlt : j < L.length
    · have hx : L[j]? = some L[j] := List.getElem?_eq_getElem hlt
      obtain ⟨ad, e, hc⟩ := (hR5.rd (M := rb + 1) (fun b hb => by omega)).str hlt
      subst e
      rw [show L.getD j [] = L[j] by simp [List.getD, hx]] at hc
      have HT : Hid ((L.take (j + 1)).map (fun n => (refK, ([] : Bs), n)) = (L.take j).map (fun n => (refK, ([] : Bs), n)) ++ [(refK, [], L[j])]) := by rw [List.take_succ_eq_append_getElem hlt, List.map_append]; rfl
      have hal : ((L.take j).map fun n => (refK, ([] : Bs), n)).length ≤ L.length := by rw [List.length_map, List.length_take]; omega
      generalize L[j] = x at *
      generalize (L.take j).map (fun n => (refK, ([] : Bs), n)) = V at *
      obtain ⟨A1, c1, rfl, hnc⟩ := own_form hown
      have hVl : V.length ≤ 1000000000 := by omega
      go_wp2_with (at_builtin; (refine wpList_app2 rfl (.tmp 13) (.tmp 16) 32 rfl 36 (.agg #[.string ⟨#[]⟩, .string ⟨#[]⟩, .string ⟨#[]⟩]) 3 48 Tryz.underlying32 Tryz.infoFault rfl (by omega) wr (ftC (refK, [], x)) rfl (by intro u hu; simp [ftC] at hu; rcases hu with rfl | rfl | rfl <;> rfl) t (.slice A1 V.length c1) V.length (ftV V) hown rfl rfl (by omega) (by omega) (by omega) ?_))
      intro v' w6 hown6 hgr hb6 hat
      have e1 : ftV V ++ ftC (refK, [], x) = ftV (V ++ [(refK, [], x)]) := ftV_snoc V _
      have e2 : V.length + 1 = (V ++ [(refK, ([] : Bs), x)]).length := by simp
      rw [e1, e2, ← HT.out] at hown6
      have hs6 := hgr.size
      have hB6 := hb.trans (hb6.mono (by omega))
      have hR6 : RdS w6 (fun b => b = rb) 1 (some ad) L.length (strs L) := hR5.keep fun b hb => by subst hb; exact hgr.block b (by omega) fun e => hno e.symm
      have hno6 : v'.ownBlock ≠ some rb := fun e => by
        rcases hat with h | h
        · exact hno (h ▸ e)
        · rw [h] at e
          injection e with e
          omega
      clear hgr hb6 hat hown hR5
      go_wp2
      go_roundw
      case rel => exact ⟨j + 1, by omega, by go_num, hown6, hB6, by omega, hR6, hno6, by omega⟩
      case measure => simp [intOf]; omega
    · rw [List.take_of_length_le (by omega), ← HN.out] at hown
      obtain ⟨A1, c1, rfl, hnc⟩ := own_form hown
      have hR := Rd.of_own hown
      go_wp2
      go_ret
      exact ⟨A1, c1, rfl, hR, hb⟩
end Go.Proofs.YtejjidbodfoiiaaGreatDoor
