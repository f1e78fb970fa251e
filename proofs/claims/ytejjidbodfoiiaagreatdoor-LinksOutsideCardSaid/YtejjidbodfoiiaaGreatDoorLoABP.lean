/-
  Plain: lists of texts in strict order; what is sorted and compacted; a text put at its place.
  The reference of layer 44: page, node, references, outside, has.
  The reference of layer 44: Outside.
-/
import Derived.Test.YtejjidbodfoiiaaGreatDoorLkXYZ
import Derived.Test.YtejjidbodfoiiaaGreatDoorMkSi
namespace Go.Proofs.YtejjidbodfoiiaaGreatDoor
open Go.RowKit
set_option linter.unusedVariables false
set_option linter.unusedSimpArgs false

theorem bl_iff : ∀ (a b : Bs), Op.bytesLess a b = true ↔ a < b := by
  intro a
  induction a with
  | nil => intro b; cases b <;> simp [Op.bytesLess]
  | cons x r ih =>
    intro b
    cases b with
    | nil => simp [Op.bytesLess]
    | cons y q =>
      rw [List.cons_lt_cons_iff, ← ih]
      simp [Op.bytesLess]
theorem bl_true {a b : Bs} (h : a < b) : Op.bytesLess a b = true := (bl_iff a b).2 h
theorem bl_false {a b : Bs} (h : ¬ a < b) : Op.bytesLess a b = false := by
  cases e : Op.bytesLess a b
  · rfl
  · exact absurd ((bl_iff a b).1 e) h
theorem bs_lt_of_le_ne {a b : Bs} (h : a ≤ b) (hn : a ≠ b) : a < b := by
  rcases List.le_iff_lt_or_eq.1 h with h | h
  · exact h
  · exact absurd h hn
theorem bs_tri {a b : Bs} (h : ¬ a < b) (hn : a ≠ b) : b < a := bs_lt_of_le_ne (show b ≤ a from h) fun e => hn e.symm
theorem srt_eq : ∀ {a b : List Bs}, a.Pairwise (· < ·) → b.Pairwise (· < ·) → (∀ x, x ∈ a ↔ x ∈ b) → a = b := by
  intro a
  induction a with
  | nil =>
    intro b _ _ h
    cases b with
    | nil => rfl
    | cons y b => exact absurd ((h y).2 (List.mem_cons_self ..)) (by simp)
  | cons x a ih =>
    intro b ha hb h
    cases b with
    | nil => exact absurd ((h x).1 (List.mem_cons_self ..)) (by simp)
    | cons y b =>
      rw [List.pairwise_cons] at ha hb
      have hxy : x = y := by
        rcases List.mem_cons.1 ((h x).1 (List.mem_cons_self ..)) with e | e
        · exact e
        · rcases List.mem_cons.1 ((h y).2 (List.mem_cons_self ..)) with e2 | e2
          · exact e2.symm
          · exact absurd (List.lt_trans (ha.1 y e2) (hb.1 x e)) (List.lt_irrefl _)
      subst hxy
      congr 1
      refine ih ha.2 hb.2 fun z => ⟨fun hz => ?_, fun hz => ?_⟩
      · rcases List.mem_cons.1 ((h z).1 (List.mem_cons_of_mem _ hz)) with e | e
        · subst e; exact absurd (ha.1 _ hz) (List.lt_irrefl _)
        · exact e
      · rcases List.mem_cons.1 ((h z).2 (List.mem_cons_of_mem _ hz)) with e | e
        · subst e; exact absurd (hb.1 _ hz) (List.lt_irrefl _)
        · exact e
theorem compactTo_srt (zs : List Bs) (h : zs.Pairwise (· ≤ ·)) : ∀ m, m ≤ zs.length → (Lib.compactUpTo zs.toArray m).Pairwise (· < ·) ∧ (∀ x, x ∈ Lib.compactUpTo zs.toArray m ↔ x ∈ zs.take m) := by
  intro m
  induction m with
  | zero => intro _; simp [Lib.compactUpTo]
  | succ m ih =>
    intro hm
    obtain ⟨h1, h2⟩ := ih (by omega)
    have e : zs.toArray[m]! = zs[m] := by rw [getElem!_pos _ _ (by simp; omega)]; simp
    rw [Lib.compactUpTo_succ, List.take_succ_eq_append_getElem (by omega), e]
    by_cases hk : Lib.keeps zs.toArray m = true
    · rw [if_pos hk]
      refine ⟨List.pairwise_append.2 ⟨h1, List.pairwise_singleton .., fun a ha b hb => ?_⟩, fun x => by rw [List.mem_append, List.mem_append, h2]⟩
      rw [List.mem_singleton] at hb; subst hb
      obtain ⟨i, hi, rfl⟩ := List.mem_take_iff_getElem.1 ((h2 a).1 ha)
      have hi2 : i < m := by omega
      have hle := fun (i j : Nat) (hi : i < zs.length) (hj : j < zs.length) (hij : i < j) => (List.pairwise_iff_getElem.1 h) i j hi hj hij
      simp only [Lib.keeps, decide_eq_true_eq] at hk
      rcases hk with hk | hk
      · omega
      · rw [e, getElem!_pos _ _ (by simp; omega)] at hk
        have hk : zs[m] ≠ zs[m - 1] := by simpa using hk
        have hlt := bs_lt_of_le_ne (hle (m - 1) m (by omega) (by omega) (by omega)) (fun e => hk e.symm)
        by_cases him : i = m - 1
        · subst him; exact hlt
        · exact List.lt_of_le_of_lt (hle i (m - 1) (by omega) (by omega) (by omega)) hlt
    · rw [if_neg hk, List.append_nil]
      refine ⟨h1, fun x => ?_⟩
      rw [h2, List.mem_append, List.mem_singleton]
      refine ⟨.inl, fun hx => hx.elim id fun hx => ?_⟩
      simp only [Lib.keeps, decide_eq_true_eq, not_or, ne_eq, Decidable.not_not] at hk
      obtain ⟨hm0, hk⟩ := hk
      rw [e, getElem!_pos _ _ (by simp; omega)] at hk
      have hk : zs[m] = zs[m - 1] := by simpa using hk
      rw [hx, hk]
      exact List.mem_take_iff_getElem.2 ⟨m - 1, by omega, rfl⟩
theorem compact_srt (zs : List Bs) (h : zs.Pairwise (· ≤ ·)) : (Lib.compact zs).Pairwise (· < ·) ∧ ∀ x, x ∈ Lib.compact zs ↔ x ∈ zs := by
  have := compactTo_srt zs h zs.length (Nat.le_refl _)
  rw [List.take_length] at this
  exact this
theorem outsN_srt (fs : List Fl) : (outsN fs).Pairwise (· < ·) ∧ ∀ x, x ∈ outsN fs ↔ x ∈ outsTo fs fs.length := by
  have hs : ((outsTo fs fs.length).mergeSort fun x y => decide (x ≤ y)).Pairwise (· ≤ ·) := by
    have := List.pairwise_mergeSort (le := fun (x y : Bs) => decide (x ≤ y)) (fun a b c h1 h2 => by simp only [decide_eq_true_eq] at *; exact List.le_trans h1 h2) (fun a b => by simp only [Bool.or_eq_true, decide_eq_true_eq]; exact List.le_total a b) (outsTo fs fs.length)
    exact this.imp fun h => by simpa using h
  obtain ⟨h1, h2⟩ := compact_srt _ hs
  exact ⟨h1, fun x => by unfold outsN; rw [h2, List.mem_mergeSort]⟩
/-- a text put at its place -/
theorem ins_srt {l : List Bs} {k : Nat} {r : Bs} (h : l.Pairwise (· < ·)) (hr : r ∉ l) (h1 : ∀ x ∈ l.drop k, r < x) (h2 : k = 0 ∨ ∃ x, l[k - 1]? = some x ∧ ¬ r < x) : (l.take k ++ r :: l.drop k).Pairwise (· < ·) := by
  refine List.pairwise_append.2 ⟨h.sublist (List.take_sublist ..), List.pairwise_cons.2 ⟨h1, h.sublist (List.drop_sublist ..)⟩, fun a ha b hb => ?_⟩
  have hk0 : k ≠ 0 := fun e => by subst e; simp at ha
  obtain ⟨x, hx, hnx⟩ := h2.resolve_left hk0
  obtain ⟨hkl, hx⟩ := List.getElem?_eq_some_iff.1 hx
  have hlt : l[k - 1] < r := by
    rw [hx]
    exact bs_lt_of_le_ne hnx fun e => hr (by rw [← e, ← hx]; exact List.getElem_mem _)
  have hP := List.pairwise_iff_getElem.1 h
  have har : a < r := by
    obtain ⟨i, hi, rfl⟩ := List.mem_take_iff_getElem.1 ha
    by_cases him : i = k - 1
    · subst him; exact hlt
    · exact List.lt_trans (hP i (k - 1) (by omega) hkl (by omega)) hlt
  rcases List.mem_cons.1 hb with rfl | hb
  · exact har
  · exact List.lt_trans har (h1 b hb)
theorem mem_ins {l : List Bs} {k : Nat} {r x : Bs} : x ∈ l.take k ++ r :: l.drop k ↔ x ∈ l ∨ x = r := by
  have e : x ∈ l ↔ x ∈ l.take k ∨ x ∈ l.drop k := by rw [← List.mem_append, List.take_append_drop]
  rw [List.mem_append, List.mem_cons, e]
  constructor
  · rintro (h | h | h) <;> simp [h]
  · rintro ((h | h) | h) <;> simp [h]
/-- what lies at place k is old: a step down -/
theorem ins_step {l : List Bs} {k : Nat} (x : Bs) {y : Bs} (hk : 0 < k) (hy : l[k - 1]? = some y) : (l.take k ++ x :: l.drop k).set k y = l.take (k - 1) ++ y :: l.drop (k - 1) ∧ (l.take k ++ x :: l.drop k)[k - 1]? = some y := by
  obtain ⟨hkl, hy⟩ := List.getElem?_eq_some_iff.1 hy
  have hl : (l.take k).length = k := by rw [List.length_take]; omega
  have e1 : l.take k = l.take (k - 1) ++ [y] := by
    have := List.take_succ_eq_append_getElem (l := l) (i := k - 1) hkl
    rw [show k - 1 + 1 = k by omega, hy] at this
    exact this
  have e2 : l.drop (k - 1) = y :: l.drop k := by
    rw [List.drop_eq_getElem_cons hkl, hy, show k - 1 + 1 = k by omega]
  refine ⟨?_, ?_⟩
  · rw [List.set_append_right _ _ (by omega), hl, Nat.sub_self, List.set_cons_zero, e2, e1, List.append_assoc]; rfl
  · rw [List.getElem?_append_left (by omega), e1, List.getElem?_append_right (by rw [List.length_take]; omega), List.length_take]
    rw [show k - 1 - min (k - 1) l.length = 0 by omega]; rfl
theorem ins_last {l : List Bs} {k : Nat} (x r : Bs) (hk : k ≤ l.length) : (l.take k ++ x :: l.drop k).set k r = l.take k ++ r :: l.drop k := by
  have hl : (l.take k).length = k := by rw [List.length_take]; omega
  rw [List.set_append_right _ _ (by omega), hl, Nat.sub_self, List.set_cons_zero]
theorem ins_at {l : List Bs} {k : Nat} (x : Bs) (hk : k ≤ l.length) : (l.take k ++ x :: l.drop k)[k]? = some x := by
  have hl : (l.take k).length = k := by rw [List.length_take]; omega
  rw [List.getElem?_append_right (by omega), hl, Nat.sub_self]; rfl
theorem ins_len {l : List Bs} {k : Nat} (x : Bs) (hk : k ≤ l.length) : (l.take k ++ x :: l.drop k).length = l.length + 1 := by
  rw [List.length_append, List.length_cons, List.length_take, List.length_drop]; omega
end Go.Proofs.YtejjidbodfoiiaaGreatDoor
namespace Go.Proofs.YtejjidbodfoiiaaGreatDoor
open Go.RowKit
set_option linter.unusedVariables false
set_option linter.unusedSimpArgs false
attribute [local go_sem] B_data B_size

set_option maxHeartbeats 4000000 in
set_option maxRecDepth 100000 in
theorem rpage_any (s : Bs) (w : World) (hs : s.length ≤ 9000000000000000000) :
    Calls Tryz.prog 47 #[.string (B s)] w (fun e w' => e = .returned (.bool (named s)) ∧ w' = w) := by
  have ex5 : (B s).extract (s.length - 5) s.length = B (s.drop (s.length - 5)) := by rw [B_extract, toList_B, List.take_length]
  have ex6 : (B s).extract (s.length - 6) s.length = B (s.drop (s.length - 6)) := by rw [B_extract, toList_B, List.take_length]
  have HN : Hid (named s = ((decide ((5 : Int) ≤ (s.length : Int)) && (s.drop (s.length - 5) == [46, 104, 116, 109, 108])) || (decide ((6 : Int) ≤ (s.length : Int)) && (s.drop (s.length - 6) == [46, 120, 104, 116, 109, 108])))) := by
    unfold named Hid
    rw [suf_drop, suf_drop]
    have e5 : decide (dotH.length ≤ s.length) = decide ((5 : Int) ≤ (s.length : Int)) := by rw [decide_eq_decide]; show 5 ≤ s.length ↔ _; omega
    have e6 : decide (dotX.length ≤ s.length) = decide ((6 : Int) ≤ (s.length : Int)) := by rw [decide_eq_decide]; show 6 ≤ s.length ↔ _; omega
    rw [e5, e6]; rfl
  go_enter Tryz.func47, Tryz.ntmps47
  go_wp2
  all_goals
    go_ret
    refine ⟨ret_bool ?_, rfl⟩
    rw [HN.out]
    first
      | (simp_all; done)
      | (simp_all; intros; omega)
def RNPost (f : Fl) (w : World) (e : Ending) (w' : World) : Prop := Below w.heap.size w w' ∧ match sheet f with
  | none => ∃ c : NC, e = .returned (.tuple #[.agg #[.string (B c.nm), .string (B c.tx), .slice c.A c.na c.ca, .slice c.K c.nk c.ck], .bool false])
  | some nd => ∃ c : NC, e = .returned (.tuple #[.agg #[.string (B c.nm), .string (B c.tx), .slice c.A c.na c.ca, .slice c.K c.nk c.ck], .bool true]) ∧ NdB w' w'.heap.size nd c
theorem pTop_ne {s : Bs} {x : Int} (hp : pTop s = .error x) : x ≠ 0 := by
  unfold pTop at hp
  split at hp
  · injection hp with hp; rw [← hp]; decide
  · exact pN_err hp
set_option maxHeartbeats 4000000 in
set_option maxRecDepth 100000 in
theorem rnode_any (f : Fl) (w : World) (h1 : f.1.length ≤ 9000000000000000000) (h2 : f.2.length ≤ 1000000000) :
    Calls Tryz.prog 25 #[.agg #[.string (B f.1), .string (B f.2)]] w (RNPost f w) := by
  have HPG := Lib.hid (fun V => rpage_any f.1 V h1)
  have HPA := Lib.hid (fun V => rparse_any f.2 V h2)
  have hba := below_alloc w (.cells #[.string (B f.1), .string (B f.2)] 39)
  go_enter Tryz.func25, Tryz.ntmps25
  cases hnm : named f.1
  · have hs : Hid (sheet f = none) := by unfold sheet; rw [hnm]; rfl
    rw [hnm] at HPG
    go_wp2_with fail
    refine (HPG.out _).mono ?_
    rintro e w1 ⟨rfl, rfl⟩
    go_wp2
    refine bodyPost_ret (v := .tuple #[.agg #[.string ⟨#[]⟩, .string ⟨#[]⟩, .slice none 0 0, .slice none 0 0], .bool false]) (by simp [results, Tryz.results25, go_sem]) rfl ?_
    refine ⟨?_, ?_⟩
    · first | exact hba | exact hba.trans ((below_alloc _ _).mono hba.size)
    · rw [hs.out]; exact ⟨nc0, rfl⟩
  · rw [hnm] at HPG
    go_wp2_with fail
    refine (HPG.out _).mono ?_
    rintro e w1 ⟨rfl, rfl⟩
    go_wp2_with fail
    have e1 : (w.alloc (.cells #[.string (B f.1), .string (B f.2)] 39)).heap.size = w.heap.size + 1 := by simp
    have hbz := hba.alloc hba.size (.cells #[.string ⟨#[]⟩, .string ⟨#[]⟩, .slice none 0 0, .slice none 0 0] 65)
    have hQ : Bx ((w.alloc (.cells #[.string (B f.1), .string (B f.2)] 39)).alloc (.cells #[.string ⟨#[]⟩, .string ⟨#[]⟩, .slice none 0 0, .slice none 0 0] 65)) (w.heap.size + 1) nc0 := by rw [← e1]; exact heap_alloc_new _ _
    rcases hp : pTop f.2 with x | ⟨nd, rest⟩
    · have hx1 : (x == 0) = false := by simpa using pTop_ne hp
      have hs : Hid (sheet f = none) := by unfold sheet; rw [hnm, if_pos rfl]; unfold readN; rw [hp]; rfl
      rw [hp] at HPA
      refine (HPA.out _).mono ?_
      rintro e w2 ⟨hb2, rfl⟩
      obtain ⟨c, hc⟩ : ∃ c : NC, Value.agg #[.string (B []), .string (B []), .slice none 0 0, .slice none 0 0] = .agg #[.string (B c.nm), .string (B c.tx), .slice c.A c.na c.ca, .slice c.K c.nk c.ck] := ⟨nc0, rfl⟩
      rw [hc]
      clear hc
      have hB2 := hbz.trans (hb2.mono hbz.size)
      have pl := (hQ.below hb2 hQ.lt).lt
      have hQ5 := hQ.below hb2 hQ.lt
      have p0 := hQ5.c0
      have p1 := hQ5.c1
      have p2 := hQ5.c2
      have p3 := hQ5.c3
      have pf0 := hQ5.ff (i := 0)
      have pf1 := hQ5.ff (i := 1)
      have pf2 := hQ5.ff (i := 2)
      have pf3 := hQ5.ff (i := 3)
      go_wp2
      refine bodyPost_ret (v := .tuple #[.agg #[.string (B c.nm), .string (B c.tx), .slice c.A c.na c.ca, .slice c.K c.nk c.ck], .bool false]) (by simp [results, Tryz.results25, go_sem, p0, p1, p2, p3, pl, Nat.ne_of_lt pl]) rfl ?_
      have hb5 := ((((hB2.setCell (p := ⟨w.heap.size + 1, 0, none⟩) (Nat.le_succ _) (.string (B c.nm))).setCell (p := ⟨w.heap.size + 1, 1, none⟩) (Nat.le_succ _) (.string (B c.tx))).setCell (p := ⟨w.heap.size + 1, 2, none⟩) (Nat.le_succ _) (.slice c.A c.na c.ca)).setCell (p := ⟨w.heap.size + 1, 3, none⟩) (Nat.le_succ _) (.slice c.K c.nk c.ck)).alloc (by simp; omega) (.cells #[.string (B c.nm), .string (B c.tx), .slice c.A c.na c.ca, .slice c.K c.nk c.ck] 65)
      refine ⟨hb5, ?_⟩
      rw [hs.out]
      exact ⟨c, rfl⟩
    · have hs : Hid (sheet f = some nd) := by unfold sheet; rw [hnm, if_pos rfl]; unfold readN; rw [hp]; rfl
      rw [hp] at HPA
      refine (HPA.out _).mono ?_
      rintro e w2 ⟨hb2, c, k, rfl, hnd, -, -⟩
      have hB2 := hbz.trans (hb2.mono hbz.size)
      have pl := (hQ.below hb2 hQ.lt).lt
      have hQ5 := hQ.below hb2 hQ.lt
      have p0 := hQ5.c0
      have p1 := hQ5.c1
      have p2 := hQ5.c2
      have p3 := hQ5.c3
      have pf0 := hQ5.ff (i := 0)
      have pf1 := hQ5.ff (i := 1)
      have pf2 := hQ5.ff (i := 2)
      have pf3 := hQ5.ff (i := 3)
      go_wp2
      refine bodyPost_ret (v := .tuple #[.agg #[.string (B c.nm), .string (B c.tx), .slice c.A c.na c.ca, .slice c.K c.nk c.ck], .bool true]) (by simp [results, Tryz.results25, go_sem, p0, p1, p2, p3, pl, Nat.ne_of_lt pl]) rfl ?_
      have hb5 := ((((hB2.setCell (p := ⟨w.heap.size + 1, 0, none⟩) (Nat.le_succ _) (.string (B c.nm))).setCell (p := ⟨w.heap.size + 1, 1, none⟩) (Nat.le_succ _) (.string (B c.tx))).setCell (p := ⟨w.heap.size + 1, 2, none⟩) (Nat.le_succ _) (.slice c.A c.na c.ca)).setCell (p := ⟨w.heap.size + 1, 3, none⟩) (Nat.le_succ _) (.slice c.K c.nk c.ck)).alloc (by simp; omega) (.cells #[.string (B c.nm), .string (B c.tx), .slice c.A c.na c.ca, .slice c.K c.nk c.ck] 65)
      refine ⟨hb5, ?_⟩
      rw [hs.out]
      refine ⟨c, rfl, ?_⟩
      refine NdAt.keep (fun b hb => ?_) (fun b hb => ?_) nd c hnd
      · have h1 := hb.2
        simp
        omega
      · have h1 := hb.1
        simp at h1
        exact ((below_alloc _ _).block b (by simp; exact hb.2)).trans (blk_set4 (w := w2) (b := w.heap.size + 1) (by omega))
set_option maxHeartbeats 4000000 in
set_option maxRecDepth 100000 in
theorem rhas_any (l : List Bs) (A : Option Addr) (n c : Nat) (s : Bs) (w : World) (h : Rd w w.heap.size 1 A n (strs l)) (hl : l.length ≤ 1000000000) :
    Calls Tryz.prog 28 #[.slice A n c, .string (B s)] w (fun e w' => e = .returned (.bool (decide (s ∈ l))) ∧ Below w.heap.size w w') := by
  have hn : l.length = n := by have := h.1; rw [strs_len] at this; omega
  subst hn
  go_enter Tryz.func28, Tryz.ntmps28
  go_wp2
  go_loopw [5] (fun i wr => ∃ (j : Nat), j ≤ l.length ∧ i = .int .i64 j ∧ Hid (s ∉ l.take j) ∧ Below w.heap.size w wr) (fun i _ => l.length - (intOf i).toNat)
  case atStart => exact ⟨0, Nat.zero_le _, rfl, by simp [Hid], .refl _ _⟩
  case round =>
    obtain ⟨j, hj, rfl, ht, hb2⟩ := hrel
    by_cases hlt : j < l.length
    · have hfa : l[j]? = some l[j] := List.getElem?_eq_getElem hlt
      obtain ⟨ad, rfl, hc⟩ := (h.below hb2).str hlt
      rw [show l.getD j [] = l[j] by simp [List.getD, hfa]] at hc
      have HM := Lib.hid (List.getElem_mem hlt)
      have HT : Hid (∀ x, x ∈ l.take (j + 1) → x ∈ l.take j ∨ x = l[j]) := fun x hx => by rw [List.take_succ_eq_append_getElem hlt] at hx; rw [List.mem_append, List.mem_singleton] at hx; exact hx
      generalize l[j] = x at *
      have hj1 : (j : Int) < (l.length : Int) := by omega
      cases hxy : (x == s)
      · go_wp2
        go_roundw
        case rel => exact ⟨j + 1, by omega, by go_num, fun hx => (HT.out s hx).elim ht.out (fun e => by rw [e] at hxy; simp at hxy), hb2⟩
        case measure => simp [intOf]; omega
      · have e : x = s := by simpa using hxy
        go_wp2
        go_ret
        exact ⟨ret_bool (decide_eq_true (e ▸ HM.out)).symm, hb2⟩
    · have hj1 : ¬ (j : Int) < (l.length : Int) := by omega
      go_wp2
      go_ret
      refine ⟨ret_bool ?_, hb2⟩
      have := ht.out
      rw [List.take_of_length_le (by omega)] at this
      rw [decide_eq_false this]
theorem pre_take (l : Bs) : List.isPrefixOf [47, 47] l = (decide ((2 : Int) ≤ (l.length : Int)) && (l.take 2 == [47, 47])) := by
  match l with
  | [] => rfl
  | [a] => simp [List.isPrefixOf]
  | a :: b :: r =>
    have e : decide ((2 : Int) ≤ ((a :: b :: r).length : Int)) = true := by simp; omega
    rw [e]
    rw [Bool.true_and]
    show ((47 == a) && ((47 == b) && true)) = ((a == 47) && ((b == 47) && true))
    rw [BEq.comm (a := (47 : UInt8)) (b := a), BEq.comm (a := (47 : UInt8)) (b := b)]
set_option maxHeartbeats 4000000 in
set_option maxRecDepth 100000 in
theorem rout_b (s : ByteArray) (w : World) (hs : s.size ≤ 1000000000) :
    Calls Tryz.prog 27 #[.string s] w (fun e w' => e = .returned (.bool (outB s.toList)) ∧ w' = w) := by
  have HL := Lib.hid (len_toList s)
  have hx2 : s.extract 0 2 = B (s.toList.take 2) := B_take s 2
  have HP := Lib.hid (pre_take s.toList)
  rw [HL.out] at HP
  go_enter Tryz.func27, Tryz.ntmps27
  go_wp2
  go_loop [3] (fun i => ∃ k : Nat, k ≤ s.size ∧ i = .int .i64 k ∧ Hid (lets s.toList = k + lets (s.toList.drop k))) (fun i => s.size - (intOf i).toNat)
  case atStart => exact ⟨0, Nat.zero_le _, rfl, by simp [Hid]⟩
  case round =>
    obtain ⟨k, hk, rfl, hr⟩ := hrel
    by_cases hlt : k < s.size
    · have HY := Lib.hid (lets_step s k hlt hr.out)
      have HV : Hid (lets s.toList = k → outB s.toList = ((decide ((2 : Int) ≤ (s.size : Int)) && (s.toList.take 2 == [47, 47])) || (decide (1 ≤ k) && decide (k ≤ 20) && decide (s[k].toNat = 58)))) := fun e => by
        unfold outB
        rw [HP.out, e, Fil.toList_at s k hlt]
        congr 2
        rw [decide_eq_decide, Option.some.injEq, ← UInt8.toNat_inj]; rfl
      go_wp2
      all_goals first
        | (go_round
           case rel => exact ⟨k + 1, by omega, by go_num, HY.out.1 (by unfold letC; simp only [Bool.or_eq_true, Bool.and_eq_true, decide_eq_true_eq]; omega)⟩
           case measure => simp [intOf]; omega)
        | (go_ret
           refine ⟨ret_bool ?_, rfl⟩
           rw [HV.out (HY.out.2 (by unfold letC; simp only [Bool.or_eq_false_iff, Bool.and_eq_false_iff, decide_eq_false_iff_not]; omega)), Bool.eq_iff_iff]
           simp only [Bool.and_eq_true, Bool.or_eq_true, decide_eq_true_eq, beq_iff_eq, Bool.false_eq_true, false_iff, true_iff]
           first | omega | (simp_all; done) | (simp_all; omega))
    · have HV : Hid (outB s.toList = (decide ((2 : Int) ≤ (s.size : Int)) && (s.toList.take 2 == [47, 47]))) := by
        have hkl : lets s.toList = k := by rw [hr.out, List.drop_of_length_le (by rw [HL.out]; omega)]; rfl
        unfold outB Hid
        have e : s.toList[k]? = none := by rw [List.getElem?_eq_none_iff, HL.out]; omega
        rw [HP.out, hkl, e]; simp
      go_wp2
      all_goals
        go_ret
        refine ⟨ret_bool ?_, rfl⟩
        rw [HV.out, Bool.eq_iff_iff]
        simp only [Bool.and_eq_true, Bool.or_eq_true, decide_eq_true_eq, beq_iff_eq, Bool.false_eq_true, false_iff, true_iff]
        first | omega | (simp_all; done) | (simp_all; omega)
theorem rout_any (s : Bs) (w : World) (hs : s.length ≤ 1000000000) :
    Calls Tryz.prog 27 #[.string (B s)] w (fun e w' => e = .returned (.bool (outB s)) ∧ w' = w) := by
  have h := rout_b (B s) w (by rw [B_size]; exact hs)
  have e : (B s).toList = s := by simp [B]
  rw [e] at h
  exact h
set_option maxHeartbeats 4000000 in
set_option maxRecDepth 100000 in
theorem rrefs_any (n : Nd) (c : NC) (w : World) (h : NdB w w.heap.size n c) (hok : okN 1000000000 n) (hsz : szN n ≤ 1000000000) :
    Calls Tryz.prog 26 #[.agg #[.string (B c.nm), .string (B c.tx), .slice c.A c.na c.ca, .slice c.K c.nk c.ck]] w (OPost (refsN n) w) := by
  have H1 := Lib.hid (fun (V : World) (hV : NdB V V.heap.size n c) => rvalues_any hrefK n c V hV hok hsz)
  have H2 := Lib.hid (fun (V : World) (hV : NdB V V.heap.size n c) => rvalues_any srcK n c V hV hok hsz)
  have hq := heap_alloc_new w (.cells #[.string (B c.nm), .string (B c.tx), .slice c.A c.na c.ca, .slice c.K c.nk c.ck] 65)
  have hb := below_alloc w (.cells #[.string (B c.nm), .string (B c.tx), .slice c.A c.na c.ca, .slice c.K c.nk c.ck] 65)
  have HR : Hid (refsN n = vals hrefK n ++ vals srcK n) := rfl
  have HL1 := vals_le (key := hrefK) hsz
  have HL2 := vals_le (key := srcK) hsz
  have hsz1 : (w.alloc (.cells #[.string (B c.nm), .string (B c.tx), .slice c.A c.na c.ca, .slice c.K c.nk c.ck] 65)).heap.size = w.heap.size + 1 := by simp
  generalize vals hrefK n = a at *
  generalize vals srcK n = b at *
  have h1 := (h.below hb).more hb.size
  go_enter Tryz.func26, Tryz.ntmps26
  go_wp2_with fail
  generalize hW : w.alloc (.cells #[.string (B c.nm), .string (B c.tx), .slice c.A c.na c.ca, .slice c.K c.nk c.ck] 65) = W at *
  clear hW
  refine (H1.out _ h1).mono ?_
  rintro e w1 ⟨A1, c1, rfl, hr1, hb1⟩
  have h2 := (h1.below hb1).more hb1.size
  have hq1 := (hb1.block _ (Array.getElem?_eq_some_iff.1 hq).1).trans hq
  have p0 : w1.cell? ⟨w.heap.size, 0, none⟩ = some (.string (B c.nm)) := by simp [World.cell?, hq1]
  have p1 : w1.cell? ⟨w.heap.size, 1, none⟩ = some (.string (B c.tx)) := by simp [World.cell?, hq1]
  have p2 : w1.cell? ⟨w.heap.size, 2, none⟩ = some (.slice c.A c.na c.ca) := by simp [World.cell?, hq1]
  have p3 : w1.cell? ⟨w.heap.size, 3, none⟩ = some (.slice c.K c.nk c.ck) := by simp [World.cell?, hq1]
  have hown1 : w1.ownsRow W.heap.size 9 1 (.slice none 0 0) 0 (strs []) := ⟨rfl, .inl ⟨rfl, rfl⟩⟩
  have hs1 := hb1.size
  go_wp2_with (refine wpList_apps rfl (.tmp 4) (.tmp 6) 25 rfl 9 (.string ⟨#[]⟩) 1 16 Tryz.underlying25 Tryz.info9 rfl (by omega) w1 W.heap.size (.slice none 0 0) 0 (strs []) hown1 rfl w1.heap.size A1 a.length c1 (strs a) hr1 rfl (strs_one a) (by omega) (by omega) (by omega) ?_)
  intro v2 w2 hown2 hgr2 hb2
  have hown2 : w2.ownsRow W.heap.size 9 1 v2 a.length (strs a) := by simpa only [strs, List.map_nil, List.nil_append, Nat.zero_add, hsz1] using hown2
  have hb2 : Below W.heap.size w1 w2 := by rw [hsz1]; exact hb2
  obtain ⟨A2, c2, rfl, hnc2⟩ := own_form hown2
  have hs2 := hgr2.size
  have q0 : w2.cell? ⟨w.heap.size, 0, none⟩ = some (.string (B c.nm)) := (hb2.cell (p := ⟨w.heap.size, 0, none⟩) (by show w.heap.size < _; omega)).trans p0
  have q1 : w2.cell? ⟨w.heap.size, 1, none⟩ = some (.string (B c.tx)) := (hb2.cell (p := ⟨w.heap.size, 1, none⟩) (by show w.heap.size < _; omega)).trans p1
  have q2 : w2.cell? ⟨w.heap.size, 2, none⟩ = some (.slice c.A c.na c.ca) := (hb2.cell (p := ⟨w.heap.size, 2, none⟩) (by show w.heap.size < _; omega)).trans p2
  have q3 : w2.cell? ⟨w.heap.size, 3, none⟩ = some (.slice c.K c.nk c.ck) := (hb2.cell (p := ⟨w.heap.size, 3, none⟩) (by show w.heap.size < _; omega)).trans p3
  have hB2 := hb1.trans hb2
  have h3 : NdB w2 w2.heap.size n c := (h1.below hB2).more hB2.size
  clear p0 p1 p2 p3 hgr2 hnc2 hr1 hq1 h2
  go_wp2_with fail
  refine (H2.out _ h3).mono ?_
  rintro e w3 ⟨A3, c3, rfl, hr3, hb3⟩
  have hown3 := own_below hown2 hb3
  have hs3 := hb3.size
  clear H1 H2 hown1 hown2
  go_wp2_with (refine wpList_apps rfl (.tmp 8) (.tmp 10) 25 rfl 9 (.string ⟨#[]⟩) 1 16 Tryz.underlying25 Tryz.info9 rfl (by omega) w3 W.heap.size (.slice A2 a.length c2) a.length (strs a) hown3 rfl w3.heap.size A3 b.length c3 (strs b) hr3 rfl (strs_one b) (by omega) (by omega) (by omega) ?_)
  intro v4 w4 hown4 hgr4 hb4
  have e1 : strs a ++ strs b = strs (refsN n) := by rw [HR.out]; exact strs_append a b
  have e2 : a.length + b.length = (refsN n).length := by rw [HR.out]; simp
  rw [e1, e2] at hown4
  obtain ⟨A6, c6, rfl, _⟩ := own_form hown4
  have hb5 : Below w.heap.size w w4 := ((hb.trans (hB2.mono hb.size)).trans (hb3.mono (by omega))).trans (hb4.mono (by omega))
  clear hgr4 hb4 e1 e2
  go_wp2
  go_ret
  exact ⟨_, rfl, own_mono hown4 (by omega), hb5⟩
end Go.Proofs.YtejjidbodfoiiaaGreatDoor
namespace Go.Proofs.YtejjidbodfoiiaaGreatDoor
open Go.RowKit
set_option linter.unusedVariables false
set_option linter.unusedSimpArgs false
attribute [local go_sem] B_data B_size

theorem own_drewN {w : World} {base e sz n : Nat} {v : Value} {xs : List Value} (h : w.ownsRow base e sz v n xs) (q : Nat) : (w.drewN q).ownsRow base e sz v n xs := h
/-- what is in order of what has been seen -/
structure OI (V D : List Bs) : Prop where
  srt : V.Pairwise (· < ·)
  mem : ∀ x, x ∈ V ↔ x ∈ D
  len : V.length ≤ D.length
theorem OI.nil : OI [] [] := ⟨.nil, fun _ => Iff.rfl, Nat.le_refl _⟩
theorem OI.same {V D : List Bs} {r : Bs} (h : OI V D) (hr : r ∈ V) : OI V (D ++ [r]) :=
  ⟨h.srt, fun x => by rw [List.mem_append, List.mem_singleton, h.mem]; exact ⟨.inl, fun e => e.elim id fun e => e ▸ (h.mem r).1 hr⟩, by have := h.len; simp; omega⟩
theorem OI.ins {V D : List Bs} {r : Bs} (h : OI V D) (hr : r ∉ V) {k : Nat} (hk : k ≤ V.length) (h1 : ∀ x ∈ V.drop k, r < x) (h2 : k = 0 ∨ ∃ x, V[k - 1]? = some x ∧ ¬ r < x) : OI (V.take k ++ r :: V.drop k) (D ++ [r]) :=
  ⟨ins_srt h.srt hr h1 h2, fun x => by rw [mem_ins, List.mem_append, List.mem_singleton, h.mem], by rw [ins_len r hk, List.length_append]; have := h.len; simp; omega⟩
theorem OI.eq {V : List Bs} {fs : List Fl} (h : OI V (outsTo fs fs.length)) : V = outsN fs :=
  srt_eq h.srt (outsN_srt fs).1 fun x => by rw [h.mem, (outsN_srt fs).2]
set_option maxHeartbeats 4000000 in
set_option maxRecDepth 100000 in
theorem routs_any (fs : List Fl) (A : Option Addr) (n c : Nat) (w : World) (h : Rd w w.heap.size 2 A n (fs.flatMap flC)) (hn : n ≤ 100) (hf : ∀ f ∈ fs, f.1.length ≤ 900000 ∧ f.2.length ≤ 50000) :
    Calls Tryz.prog 10 #[.slice A n c] w (OPost (outsN fs) w) := by
  have hlen : fs.length = n := h.count flC 2 flC_len (by omega)
  subst hlen
  have HF := Lib.hid hf
  clear hf
  go_enter Tryz.func10, Tryz.ntmps10
  go_wp2
  go_loopw [3, 4] (fun fv i wr => ∃ (j : Nat) (V : List Bs), j ≤ fs.length ∧ i = .int .i64 j ∧ wr.ownsRow w.heap.size 9 1 fv V.length (strs V) ∧ Below w.heap.size w wr ∧ OI V (outsTo fs j)) (fun _ i _ => fs.length - (intOf i).toNat)
  case atStart => exact ⟨0, [], Nat.zero_le _, rfl, ⟨rfl, .inl ⟨rfl, rfl⟩⟩, .refl _ _, .nil⟩
  case round =>
    obtain ⟨j, V, hj, rfl, hown, hb, hV⟩ := hrel
    have hsw := hb.size
    have hlo := outsTo_len (fs := fs) (fun f h => (HF.out f h).2) j hj
    by_cases hlt : j < fs.length
    · have hfj : fs[j]? = some fs[j] := List.getElem?_eq_getElem hlt
      have HT := Lib.hid (outsTo_succ fs j hfj)
      generalize fs[j] = f at *
      have hj1 : (j : Int) < (fs.length : Int) := by omega
      obtain ⟨hf1, hf2⟩ := HF.out f (List.mem_of_getElem? hfj)
      obtain ⟨bb, o, rfl, hbm, hcell⟩ := (h.below hb).elem flC 2 flC_len (by omega) hfj
      have c0 : wr.cell? ⟨bb, o + j * 2, none⟩ = some (.string (B f.1)) := hcell 0 _ rfl
      have c1 : wr.cell? ⟨bb, o + j * 2 + 1, none⟩ = some (.string (B f.2)) := hcell 1 _ rfl
      have HN := Lib.hid (fun V => rnode_any f V (by omega) (by omega))
      clear hcell
      cases hs : sheet f with
      | none =>
        rw [hs] at HT
        have HT : Hid (outsTo fs (j + 1) = outsTo fs j) := by rw [HT.out]; simp [Hid]
        go_wp2_with fail
        refine (HN.out _).mono ?_
        unfold RNPost
        rw [hs]
        rintro e w1 ⟨hb1, nc, rfl⟩
        have hb2 := hb1.trans ((below_alloc w1 (.cells #[.string (B nc.nm), .string (B nc.tx), .slice nc.A nc.na nc.ca, .slice nc.K nc.nk nc.ck] 65)).mono hb1.size)
        have hB2 := hb.trans (hb2.mono hsw)
        have hown2 := own_below hown hb2
        rw [← HT.out] at hV
        go_wp2
        go_roundw
        case rel => exact ⟨j + 1, V, by omega, by go_num, hown2, hB2, hV⟩
        case measure => simp [intOf]; omega
      | some nd =>
        rw [hs] at HT
        have HT : Hid (outsTo fs (j + 1) = outsTo fs j ++ (refsN nd).filter outB) := HT.out
        obtain ⟨hz1, hz2, hz3⟩ := sheet_sz hs hf2
        have hrl := refs_le hs hf2
        go_wp2_with fail
        refine (HN.out _).mono ?_
        unfold RNPost
        rw [hs]
        rintro e w1 ⟨hb1, nc, rfl, hnd⟩
        have hbA := below_alloc w1 (.cells #[.string (B nc.nm), .string (B nc.tx), .slice nc.A nc.na nc.ca, .slice nc.K nc.nk nc.ck] 65)
        have hsA : (w1.alloc (.cells #[.string (B nc.nm), .string (B nc.tx), .slice nc.A nc.na nc.ca, .slice nc.K nc.nk nc.ck] 65)).heap.size = w1.heap.size + 1 := by simp
        have hs1 := hb1.size
        have hnB := (hnd.below hbA).more hbA.size
        have HRF := Lib.hid (rrefs_any nd nc _ hnB hz2 (by omega))
        have hbq := hb1.trans (hbA.mono hs1)
        clear hnd hnB
        generalize refsN nd = R at *
        go_wp2_with fail
        refine HRF.out.mono ?_
        intro e w3 hP3
        obtain ⟨A5, c5, rb, rfl, hR5, hrb, hrl5, hb3⟩ := hP3.row (wr.heap.size) (by omega)
        have hb4 := hbq.trans (hb3.mono (by omega))
        have hown3 := own_below hown hb4
        have hB3 := hb.trans (hb4.mono hsw)
        have hs3 := hb3.size
        obtain ⟨A1, cc, rfl, hnc⟩ := own_form hown3
        have hrbw : wr.heap.size ≤ rb := by rcases hrb with e | e <;> omega
        have hno : (Value.slice A1 V.length cc).ownBlock ≠ some rb := by
          intro ho
          have := (hown.lt rb ho).2
          omega
        clear HRF hP3 hb4 hbq hbA hb1 hrb
        go_wp2
        go_loopw [3, 8] (fun fv i wr => ∃ (i2 : Nat) (V : List Bs), i2 ≤ R.length ∧ i = .int .i64 i2 ∧ wr.ownsRow w.heap.size 9 1 fv V.length (strs V) ∧ Below w.heap.size w wr ∧ OI V (outsTo fs j ++ (R.take i2).filter outB) ∧ RdS wr (fun b => b = rb) 1 A5 R.length (strs R) ∧ (fv.ownBlock ≠ some rb ∧ rb < wr.heap.size)) (fun _ i _ => R.length - (intOf i).toNat)
        case atStart => exact ⟨0, V, Nat.zero_le _, rfl, hown3, hB3, by simpa using hV, hR5, hno, hrl5⟩
        case round =>
          clear hown3 hR5 hno hrl5 hB3 hown hb hV hsw hb3 hs1 hsA hs3 hrbw hnc c0 c1 hbm
          obtain ⟨i2, V2, hi2, rfl, hown, hb, hV2, hR5, hno, hrl5⟩ := hrel
          have hsw := hb.size
          have hVl := hV2.len
          by_cases hlt2 : i2 < R.length
          · have hrr : R[i2]? = some R[i2] := List.getElem?_eq_getElem hlt2
            have HT2 : Hid ((R.take (i2 + 1)).filter outB = (R.take i2).filter outB ++ if outB R[i2] then [R[i2]] else []) := by rw [List.take_succ_eq_append_getElem hlt2, List.filter_append]; simp [List.filter_cons, Hid]
            have hfl := List.length_filter_le outB (R.take i2)
            rw [List.length_take] at hfl
            rw [List.length_append] at hVl
            have HRS := Lib.hid (fun (W : World) (h : RdS W (fun b => b = rb) 1 A5 R.length (strs R)) => (h.rd (M := rb + 1) (fun b hb => by omega)).str hlt2)
            rw [show R.getD i2 [] = R[i2] by simp [List.getD, hrr]] at HRS
            obtain ⟨ad, rfl, hc⟩ := HRS.out _ hR5
            have hrm := hz3 _ (List.getElem_mem hlt2)
            generalize R[i2] = r at *
            have HO := Lib.hid (fun V => rout_any r V (by omega))
            obtain ⟨A2, c2, rfl, hnc2⟩ := own_form hown
            cases hout : outB r
            · rw [hout] at HO
              have HT3 : Hid ((R.take (i2 + 1)).filter outB = (R.take i2).filter outB) := by rw [HT2.out, hout]; simp [Hid]
              go_wp2_with fail
              refine (HO.out _).mono ?_
              rintro e w5 ⟨rfl, rfl⟩
              go_wp2
              go_roundw
              case rel => exact ⟨i2 + 1, V2, by omega, by go_num, hown, hb, by rw [HT3.out]; exact hV2, hR5, hno, hrl5⟩
              case measure => simp [intOf]; omega
            · rw [hout] at HO
              have HT3 : Hid ((R.take (i2 + 1)).filter outB = (R.take i2).filter outB ++ [r]) := by rw [HT2.out, hout]; simp [Hid]
              have HH := Lib.hid (rhas_any V2 A2 V2.length c2 r wr (Rd.of_own hown) (by omega))
              go_wp2_with fail
              refine (HO.out _).mono ?_
              rintro e w5 ⟨rfl, rfl⟩
              go_wp2_with fail
              refine HH.out.mono ?_
              rintro e w6 ⟨rfl, hb6⟩
              have hown6 := own_below hown hb6
              have hB6 := hb.trans (hb6.mono hsw)
              have hs6 := hb6.size
              have hR6 : RdS w6 (fun b => b = rb) 1 (some ad) R.length (strs R) := hR5.keep fun b hb => by subst hb; exact hb6.block b hrl5
              have hc6 := keeps hb6 (Nat.le_refl _) hc
              clear HO HH
              by_cases hin : r ∈ V2
              · have hd : decide (r ∈ V2) = true := decide_eq_true hin
                rw [hd]
                go_wp2
                go_roundw
                case rel => exact ⟨i2 + 1, V2, by omega, by go_num, hown6, hB6, by rw [HT3.out, ← List.append_assoc]; exact hV2.same hin, hR6, hno, by omega⟩
                case measure => simp [intOf]; omega
              · have hd : decide (r ∈ V2) = false := decide_eq_false hin
                rw [hd]
                go_wp2_with (at_builtin; (refine wpList_app2 rfl (.tmp 50) (.tmp 55) 25 rfl 9 (.string ⟨#[]⟩) 1 16 Tryz.underlying25 Tryz.info9 rfl (by omega) w6 [.string (B r)] rfl (by simp; rfl) w.heap.size (.slice A2 V2.length c2) V2.length (strs V2) hown6 rfl rfl (by omega) (by omega) (by omega) ?_))
                intro v' w7 hown7 hgr hb7 hat
                have hs7 := hgr.size
                obtain ⟨g, cap, rfl, hg1, hg2⟩ := hown7.form (by omega)
                have hgr2 : g ≠ rb := fun e => by
                  subst e
                  rcases hat with h | h
                  · exact hno h.symm
                  · have h : some g = some (w6.heap.size + 1) := h
                    injection h with h; omega
                have hR7 : RdS w7 (fun b => b = rb) 1 (some ad) R.length (strs R) := hR6.keep fun b hb => by subst hb; exact hgr.block b (by omega) fun e => hno e.symm
                have hB7 := hB6.trans hb7
                have hown7 : w7.ownsRow w.heap.size 9 1 (.slice (some ⟨g, 0, none⟩) (V2.length + 1) cap) (V2.length + 1) (strs (V2.take V2.length ++ r :: V2.drop V2.length)) := by
                  have e1 : strs V2 ++ [.string (B r)] = strs (V2.take V2.length ++ r :: V2.drop V2.length) := by rw [List.take_length, List.drop_length]; exact strs_snoc V2 r
                  rw [← e1]; exact hown7
                clear hgr hb7 hat hR6 hown6 hown hR5 hc hc6 hB6 hb hsw
                go_wp2
                go_loopw [9] (fun i wr => ∃ (a : Nat) (x : Bs), a ≤ V2.length ∧ i = .int .i64 a ∧ wr.ownsRow w.heap.size 9 1 (.slice (some ⟨g, 0, none⟩) (V2.length + 1) cap) (V2.length + 1) (strs (V2.take a ++ x :: V2.drop a)) ∧ Hid (∀ y ∈ V2.drop a, r < y) ∧ Below w.heap.size w wr ∧ RdS wr (fun b => b = rb) 1 (some ad) R.length (strs R) ∧ (rb < wr.heap.size ∧ g < wr.heap.size)) (fun i _ => (intOf i).toNat)
                case atStart => exact ⟨V2.length, r, Nat.le_refl _, rfl, hown7, fun y hy => by simp at hy, hB7, hR7, ⟨by omega, hg2⟩⟩
                case round =>
                  clear hown7 hR7 hB7 hs6 hs7
                  obtain ⟨a, x, ha, rfl, hown, hgt, hb, hR, hrw, hgw⟩ := hrel
                  obtain ⟨ad2, e2, hc⟩ := HRS.out _ hR
                  injection e2 with e2
                  subst e2
                  have hca : wr.cell? ⟨g, a, none⟩ = some (.string (B x)) := by
                    rw [hown.cellAt a (by omega), strs, List.getElem?_map, ins_at x ha]; rfl
                  have hfz := hown.frozenAt a
                  have HFIN : Hid (∀ q, (a = 0 ∨ ∃ y, V2[a - 1]? = some y ∧ ¬ r < y) → ((wr.drewN q).setCell ⟨g, a, none⟩ (.string (B r))).ownsRow w.heap.size 9 1 (.slice (some ⟨g, 0, none⟩) (V2.length + 1) cap) (V2.take a ++ r :: V2.drop a).length (strs (V2.take a ++ r :: V2.drop a)) ∧ Below w.heap.size w ((wr.drewN q).setCell ⟨g, a, none⟩ (.string (B r))) ∧ OI (V2.take a ++ r :: V2.drop a) (outsTo fs j ++ (R.take (i2 + 1)).filter outB) ∧ RdS ((wr.drewN q).setCell ⟨g, a, none⟩ (.string (B r))) (fun b => b = rb) 1 (some ad) R.length (strs R)) := by
                    intro q hq
                    have hst := (own_drewN hown q).stored a (.string (B r))
                    have e : (strs (V2.take a ++ x :: V2.drop a)).set a (.string (B r)) = strs (V2.take a ++ r :: V2.drop a) := by
                      rw [strs, ← List.map_set, ins_last x r ha]; rfl
                    rw [e] at hst
                    refine ⟨by rw [ins_len r ha]; exact hst.1, (below_drewN hb q).setCell (p := ⟨g, a, none⟩) hg1 _, ?_, ?_⟩
                    · rw [HT3.out, ← List.append_assoc]
                      exact hV2.ins hin ha hgt.out hq
                    · exact hR.keep fun b hb => by subst hb; exact (set_block (w := wr.drewN q) hgr2).trans rfl
                  by_cases ha0 : a = 0
                  · subst ha0
                    have HF0 := Lib.hid (fun q => HFIN.out q (.inl rfl))
                    clear HFIN
                    go_wp2
                    go_quiet (fail)
                    go_wp2
                    go_roundw
                    case rel => exact ⟨i2 + 1, _, by omega, by go_num, (HF0.out nq).1, (HF0.out nq).2.1, (HF0.out nq).2.2.1, (HF0.out nq).2.2.2, fun e => hgr2 (Option.some.inj e), by simp; omega⟩
                    case measure => simp [intOf]; omega
                  · obtain ⟨k, rfl⟩ : ∃ k, a = k + 1 := ⟨a - 1, by omega⟩
                    obtain ⟨y, hy⟩ : ∃ y, V2[k]? = some y := ⟨_, List.getElem?_eq_getElem (by omega)⟩
                    have HS := Lib.hid (ins_step x (by omega : 0 < k + 1) hy)
                    rw [Nat.add_sub_cancel] at HS
                    have hcy : wr.cell? ⟨g, k, none⟩ = some (.string (B y)) := by
                      rw [hown.cellAt k (by omega), strs, List.getElem?_map, HS.out.2]; rfl
                    have ha1 : (0 : Int) < (k : Int) + 1 := by omega
                    by_cases hry : r < y
                    · have d1 : Op.bytesLess y r = false := bl_false fun h => absurd (List.lt_trans h hry) (List.lt_irrefl _)
                      have d2 : (y == r) = false := by rw [beq_eq_false_iff_ne]; intro e; rw [e] at hry; exact List.lt_irrefl _ hry
                      clear HFIN
                      go_wp2
                      go_quiet (fail)
                      go_wp2
                      have hst := (own_drewN hown nq).stored (k + 1) (.string (B y))
                      have e : (strs (V2.take (k + 1) ++ x :: V2.drop (k + 1))).set (k + 1) (.string (B y)) = strs (V2.take k ++ y :: V2.drop k) := by
                        rw [strs, ← List.map_set, HS.out.1]; rfl
                      rw [e] at hst
                      have hgt2 : ∀ z ∈ V2.drop k, r < z := fun z hz => by
                        obtain ⟨hk, hy⟩ := List.getElem?_eq_some_iff.1 hy
                        rw [List.drop_eq_getElem_cons hk, hy] at hz
                        rcases List.mem_cons.1 hz with rfl | hz
                        · exact hry
                        · exact hgt.out z hz
                      have hbS := (below_drewN hb nq).setCell (p := ⟨g, k + 1, none⟩) hg1 (.string (B y))
                      have hRS : RdS ((wr.drewN nq).setCell ⟨g, k + 1, none⟩ (.string (B y))) (fun b => b = rb) 1 (some ad) R.length (strs R) := hR.keep fun b hb => by subst hb; exact (set_block (w := wr.drewN nq) hgr2).trans rfl
                      go_roundw
                      case rel => exact ⟨k, y, by omega, by go_num, hst.1, hgt2, hbS, hRS, by simp; omega, by simp; omega⟩
                      case measure => simp [intOf]
                    · have d1 : Op.bytesLess y r = true := bl_true (bs_tri hry fun e => hin (by rw [e]; exact List.mem_of_getElem? hy))
                      have HF0 := Lib.hid (fun q => HFIN.out q (.inr ⟨y, hy, hry⟩))
                      clear HFIN
                      go_wp2
                      go_quiet (fail)
                      go_wp2
                      go_roundw
                      case rel => exact ⟨i2 + 1, _, by omega, by go_num, (HF0.out nq).1, (HF0.out nq).2.1, (HF0.out nq).2.2.1, (HF0.out nq).2.2.2, fun e => hgr2 (Option.some.inj e), by simp; omega⟩
                      case measure => simp [intOf]; omega
          · rw [List.take_of_length_le (by omega), ← HT.out] at hV2
            go_wp2
            go_roundw
            case rel => exact ⟨j + 1, V2, by omega, by go_num, hown, hb, hV2⟩
            case measure => simp [intOf]; omega
    · have hjn : j = fs.length := by omega
      subst hjn
      have e := hV.eq
      subst e
      have hj1 : ¬ (fs.length : Int) < (fs.length : Int) := by omega
      go_wp2
      go_ret
      exact ⟨_, rfl, hown, hb⟩
end Go.Proofs.YtejjidbodfoiiaaGreatDoor
