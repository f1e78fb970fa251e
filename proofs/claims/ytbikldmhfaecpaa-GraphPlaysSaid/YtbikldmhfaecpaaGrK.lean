/-
  Layer 48 (graph): Stale.
-/
import Derived.Test.YtbikldmhfaecpaaGrJ
import Derived.Sort.OwnSorted
namespace Go.Proofs.Ytbikldmhfaecpaa
open Go.RowKit
set_option linter.unusedVariables false
set_option linter.unusedSimpArgs false
attribute [local go_sem] B_data B_size

theorem strs_enc (l : List Nm) : strs l = l.map encStr := rfl
/-- a slice of texts of the call's own, sorted -/
theorem sort_any {w : World} {base : Nat} {v : Value} {l : List Nm} (h : w.ownsRow base 9 1 v l.length (strs l)) (hl : l.length ≤ 1000000) :
    Calls Try.prog 38 #[v] w fun e w' => e = .returned (.tuple #[]) ∧ w'.ownsRow base 9 1 v l.length (strs (l.mergeSort fun x y => decide (x ≤ y))) ∧ w.grownBy w' v.ownBlock := by
  rcases h.2 with ⟨rfl, h0⟩ | ⟨g, cap, cur, rfl, hb, hc, h1, h2, h3, h4⟩
  · have : l = [] := List.eq_nil_of_length_eq_zero h0
    subst this
    refine (Try.slices_Sort_string_none none 0 w).mono ?_
    rintro e w' ⟨rfl, rfl⟩
    exact ⟨rfl, by simpa using h, World.grownBy.refl _ _⟩
  · refine (Try.slices_Sort_string g 0 cap l w (holds_of_block hc (by rw [← strs_enc]; simpa using h4)) (Array.getElem?_eq_some_iff.1 hc).1 (by omega)).mono ?_
    rintro e w' ⟨rfl, n, os, rfl⟩
    exact ⟨rfl, ownsRow_sorted (List.length_mergeSort l) hb hc h1 h2 h3, grownBy_sorted _⟩
/-- while the rules are looked at -/
structure SI (own : Own) (id gb : Nat) (S : GS) (rb c : Nat) (es : Array MapEntry) (vis : List MapEntry) (ac : List Nm) (v : Value) (w wr : World) : Prop where
  it : wr.heap[w.heap.size]? = some (.mapIter (some rb) c (vis.map (·.born)).toArray c)
  perm : (vis ++ (leftOf es (vis.map (·.born)).toArray).toList).Perm es.toList
  acc : ac = (vis.filter (staleE S.rules)).map nameE
  ro : wr.ownsRow (w.heap.size + 1) 9 1 v ac.length (strs ac)
  b : Below w.heap.size w wr
theorem stale_len {own : Own} {id gb : Nat} {S : GS} {rb c : Nat} {es : Array MapEntry} {vis : List MapEntry} {acc : List Nm} {v : Value} {w wr : World} (h : SI own id gb S rb c es vis acc v w wr) : acc.length ≤ es.size := by
  rw [h.acc, List.length_map]
  have := h.perm.length_eq
  rw [List.length_append] at this
  have h2 := List.length_filter_le (staleE S.rules) vis
  simp at this ⊢; omega
set_option maxHeartbeats 8000000 in
set_option maxRecDepth 100000 in
theorem stale_any {own : Own} {id gb : Nat} {S : GS} (w : World) (hgr : Gr own id gb S w) (hn : S.rules.length ≤ 100000) :
    Calls Try.prog 22 #[.pointer (some ⟨gb, 0, none⟩)] w fun e w' => ∃ v, e = .returned v ∧ w'.ownsRow w.heap.size 9 1 v (staleX S).length (strs (staleX S)) ∧ Below w.heap.size w w' := by
  obtain ⟨vm, rm, um, pt, U, h, _⟩ := hgr
  have c1 := h.c1
  cases rm with
  | none =>
    have he : staleX S = [] := by unfold staleX; rw [h.r0 rfl]; simp
    rw [he]
    have hr := run_range_nilMap (P := Try.prog) w 46 9 54 Try.underlying46
    have hx := run_next_nilMap (P := Try.prog) w 0 0 0 #[]
    have hsn := Try.slices_Sort_string_none none 0
    have HSN := Lib.hid hsn
    have hb := below_alloc w (.mapIter none 0 #[] 0)
    have HB := Lib.hid hb
    clear he h hsn hb
    go_enter Try.func22, Try.ntmps22
    go_wp2
    go_loopg [3] 1 (fun j v wr => v = .slice none 0 0 ∧ wr = w.alloc (.mapIter none 0 #[] 0))
    case atStart => exact ⟨rfl, rfl⟩
    case round =>
      obtain ⟨rfl, rfl⟩ := hrel
      go_wp2_with fail
      refine (HSN.out _).mono ?_
      rintro e w' ⟨rfl, rfl⟩
      go_wp2
      go_ret
      exact ⟨_, rfl, ⟨rfl, .inl ⟨rfl, rfl⟩⟩, HB.out⟩
  | some rb =>
    obtain ⟨es, c, hbk, hkv, hbo⟩ := (h.r1 rb rfl).2
    have hr := run_range_map (P := Try.prog) w 46 9 54 rb es c Try.underlying46 hbk
    have HBK := Lib.hid (And.intro hbk (And.intro hkv hbo))
    have hnd : (es.toList.map (·.born)).Nodup := hbo.1.imp (fun h => Nat.ne_of_lt h)
    have HND := Lib.hid hnd
    have hes : es.size ≤ 100000 := by
      have := congrArg List.length hkv
      simp [rkv] at this; omega
    have HRB : Hid (rb < w.heap.size) := Lib.hid (Array.getElem?_eq_some_iff.1 hbk).1
    have HH := Lib.hid h
    have H0 : Hid (SI own id gb S rb c es [] [] (.slice none 0 0) w (w.alloc (.mapIter (some rb) c #[] c))) := Lib.hid ⟨heap_alloc_new w _, by simp [left_all], rfl, ⟨rfl, .inl ⟨rfl, rfl⟩⟩, below_alloc w _⟩
    clear hbk hkv hbo hnd h
    go_enter Try.func22, Try.ntmps22
    go_wp2
    go_loopg [3] es.size (fun j v wr => ∃ (vis : List MapEntry) (acc : List Nm), Hid (j = (leftOf es (vis.map (·.born)).toArray).size) ∧ Hid (SI own id gb S rb c es vis acc v w wr))
    case atStart => exact ⟨[], [], Lib.hid (by show es.size = (leftOf es #[]).size; rw [← Array.length_toList, ← Array.length_toList, left_all]), H0⟩
    case round =>
      clear H0 hr
      obtain ⟨vis, acc, hj, hsi⟩ := hrel
      obtain ⟨Av, cv, rfl, _⟩ := own_form hsi.out.ro
      have hb' : wr.heap[rb]? = some (.map es c) := (hsi.out.b.block rb HRB.out).trans HBK.out.1
      rcases run_next_at (P := Try.prog) wr 0 w.heap.size rb c c (vis.map (·.born)).toArray es c hsi.out.it hb' HBK.out.2.2.2 (Nat.le_refl _) with ⟨h0, hx⟩ | ⟨e, he, w1, hal, hx⟩
      · have hvis := left_none h0 hsi.out.perm
        have hfin : staleX S = acc.mergeSort fun x y => decide (x ≤ y) := by
          unfold staleX
          rw [hsi.out.acc, ← stale_names (pt := pt) (all := S.rules) (fun r hr => findR_of HH.out.nd hr) HBK.out.2.1]
          exact sort_perm ((hvis.symm.filter _).map _)
        have HFIN := Lib.hid hfin
        have CS := Lib.hid (sort_any hsi.out.ro (Nat.le_trans (stale_len hsi.out) (by omega)))
        clear hvis hfin h0 hb'
        go_wp2_with fail
        refine CS.out.mono ?_
        rintro e w5 ⟨rfl, ho5, hg5⟩
        have HF := Lib.hid (And.intro ho5 hg5)
        clear CS ho5 hg5 hx
        go_wp2
        go_ret
        refine ⟨_, rfl, ?_, hsi.out.b.trans (below_of_grown HF.out.2 hsi.out.b.size (fun k hk => by have := (hsi.out.ro.lt k hk).1; omega))⟩
        rw [HFIN.out, List.length_mergeSort]
        exact own_more HF.out.1 (Nat.le_succ _)
      · obtain ⟨r, hr, hkey, hval⟩ := entry_rule HBK.out.2.1 (mem_left he).1
        have hw1 : Below wr.heap.size wr w1 := by rcases hal with rfl | rfl; exact Below.refl _ _; exact (Below.refl _ _).drew
        have hs1 : w1.heap.size = wr.heap.size := by rcases hal with rfl | rfl <;> rfl
        have hil : w.heap.size < wr.heap.size := (Array.getElem?_eq_some_iff.1 hsi.out.it).1
        obtain ⟨w2, hw2⟩ : ∃ w2, w2 = ChangeMaps.setBlock w1 w.heap.size (.mapIter (some rb) c ((vis.map (·.born)).toArray.push e.born) c) := ⟨_, rfl⟩
        have hit2 : w2.heap[w.heap.size]? = some (.mapIter (some rb) c ((vis.map (·.born)).toArray.push e.born) c) := by rw [hw2]; simp [ChangeMaps.setBlock, hs1, hil]
        have hne2 : ∀ q, q ≠ w.heap.size → q < wr.heap.size → w2.heap[q]? = wr.heap[q]? := fun q hq hl => by
          rw [hw2]
          refine Eq.trans ?_ (hw1.block q hl)
          simp only [ChangeMaps.setBlock]
          rw [Array.getElem?_setIfInBounds_ne (fun e => hq e.symm)]
        have hs2 : w2.heap.size = wr.heap.size := by rw [hw2]; simp [ChangeMaps.setBlock, hs1]
        have hB2 : Below w.heap.size w w2 := hsi.out.b.trans (by
          rw [hw2]
          exact ⟨hw1.os, hw1.tape, hw1.output, by simp [ChangeMaps.setBlock, hs1], fun q hq => by
            refine Eq.trans ?_ (hw1.block q (by omega))
            simp only [ChangeMaps.setBlock]
            rw [Array.getElem?_setIfInBounds_ne (fun e => by omega)]⟩)
        rw [← hw2] at hx
        have hb2 : w2.heap[rb]? = some (.map es c) := (hne2 rb (by have := HRB.out; omega) (by have := HRB.out; omega)).trans hb'
        have hent := run_entry_at (P := Try.prog) w2 w.heap.size rb c (vis.map (·.born)).toArray es c e hit2 hb2 (mem_left he).1 HND.out
        rw [hkey, hval] at hx hent
        have hfr : findR S.rules r.name = some r := findR_of HH.out.nd hr
        have q6 := ((HH.out.below hB2).rule hfr).c6
        have hro2 : w2.ownsRow (w.heap.size + 1) 9 1 (.slice Av acc.length cv) acc.length (strs acc) := own_keep0 hsi.out.ro (fun b hb => hne2 b (by have := (hsi.out.ro.lt b hb).1; omega) (hsi.out.ro.lt b hb).2)
        have hpm : ((vis ++ [e]) ++ (leftOf es ((vis ++ [e]).map (·.born)).toArray).toList).Perm es.toList := by
          rw [show ((vis ++ [e]).map (·.born)).toArray = (vis.map (·.born)).toArray.push e.born from by simp]
          exact left_perm HND.out hsi.out.perm he
        have hit3 : w2.heap[w.heap.size]? = some (.mapIter (some rb) c ((vis ++ [e]).map (·.born)).toArray c) := by
          rw [show ((vis ++ [e]).map (·.born)).toArray = (vis.map (·.born)).toArray.push e.born from by simp]; exact hit2
        have hst : staleE S.rules e = r.stale := by unfold staleE; rw [nameE_key hkey, hfr]
        have hjm : (leftOf es ((vis ++ [e]).map (·.born)).toArray).size < (leftOf es (vis.map (·.born)).toArray).size := by
          rw [show ((vis ++ [e]).map (·.born)).toArray = (vis.map (·.born)).toArray.push e.born from by simp]
          exact left_shrinks es _ e he
        have H2 := Lib.hid (And.intro hit3 (And.intro hpm (And.intro hB2 (And.intro hro2 hjm))))
        have HAC := Lib.hid hsi.out.acc
        have hal2 : acc.length ≤ 100000 := Nat.le_trans (stale_len hsi.out) hes
        clear hw2 hit2 hne2 hs2 hB2 hb2 hfr hro2 hpm hit3 hjm hw1 hs1 hil hal he hr hb'
        cases hsr : r.stale with
        | false =>
          have HS : Hid (acc = ((vis ++ [e]).filter (staleE S.rules)).map nameE) := by
            rw [List.filter_append, List.map_append, ← HAC.out]; simp [hst, hsr, Hid]
          rw [hsr] at q6
          clear hsr hst
          go_wp2
          go_roundg ((leftOf es ((vis ++ [e]).map (·.born)).toArray).size)
          case rel => exact ⟨vis ++ [e], acc, rfl, Lib.hid ⟨H2.out.1, H2.out.2.1, HS.out, H2.out.2.2.2.1, H2.out.2.2.1⟩⟩
          case measure => have := hj.out; have := H2.out.2.2.2.2; omega
        | true =>
          have HS : Hid (acc ++ [r.name] = ((vis ++ [e]).filter (staleE S.rules)).map nameE) := by
            rw [List.filter_append, List.map_append, ← HAC.out]; simp [hst, hsr, Hid, nameE_key hkey]
          rw [hsr] at q6
          clear hsr hst
          have hro := H2.out.2.2.2.1
          have hs2 : w.heap.size + 1 ≤ w2.heap.size := (Array.getElem?_eq_some_iff.1 H2.out.1).1
          go_wp2_with (refine wpList_app rfl (.tmp 22) (.tmp 24) 29 rfl 9 (.string ⟨#[]⟩) 1 16 Try.underlying29 Try.info9 rfl (by omega) w2 [.string (B r.name)] rfl (by simp; rfl) (w.heap.size + 1) _ _ _ hro rfl rfl (by omega) (by omega) hs2 ?_)
          intro v4 w4 ho4 hg4 hb4
          have e4 : strs acc ++ [.string (B r.name)] = strs (acc ++ [r.name]) := by simp [strs]
          have l4 : acc.length + 1 = (acc ++ [r.name]).length := by simp
          rw [e4, l4] at ho4
          have hit4 := (hb4.block w.heap.size (Nat.lt_succ_self _)).trans H2.out.1
          have H4 := Lib.hid (And.intro ho4 (And.intro hit4 (H2.out.2.2.1.trans (hb4.mono (Nat.le_succ _)))))
          clear ho4 hit4 hb4 hg4 e4 l4 hro hs2
          go_wp2
          go_roundg ((leftOf es ((vis ++ [e]).map (·.born)).toArray).size)
          case rel => exact ⟨vis ++ [e], acc ++ [r.name], rfl, Lib.hid ⟨H4.out.2.1, H2.out.2.1, HS.out, H4.out.1, H4.out.2.2⟩⟩
          case measure => have := hj.out; have := H2.out.2.2.2.2; omega
end Go.Proofs.Ytbikldmhfaecpaa
