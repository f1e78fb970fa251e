/-
  Layer 48 (graph), plain: what an evaluation keeps.
-/
import Derived.Test.YtbikldmhfaecpaaGrT
namespace Go.Proofs.Ytbikldmhfaecpaa
set_option linter.unusedVariables false
set_option linter.unusedSimpArgs false

/-- what an evaluation leaves of a rule -/
def sk1 (r : RuleS) : RuleS := { r with called := false, inn := [], val := [], e := 0, stale := false }
def skel (rs : List RuleS) : List RuleS := rs.map sk1
def nb (rs : List RuleS) : Nat := (rs.filter fun r => !r.busy).length
theorem nb_skel (rs : List RuleS) : nb (skel rs) = nb rs := by
  unfold nb skel
  rw [List.filter_map, List.length_map]; rfl
theorem skel_names (rs : List RuleS) : (skel rs).map (·.name) = rs.map (·.name) := by unfold skel; rw [List.map_map]; rfl
theorem findR_skel (rs : List RuleS) (n : Nm) : findR (skel rs) n = (findR rs n).map sk1 := findR_map sk1 (fun _ => rfl) rs n
theorem skel_modR (rs : List RuleS) (n : Nm) (g h : RuleS → RuleS) (hg : ∀ r, sk1 (g r) = h (sk1 r)) : skel (modR n g rs) = modR n h (skel rs) := by
  unfold skel modR
  rw [List.map_map, List.map_map]
  apply List.map_congr_left
  intro r _
  simp only [Function.comp]
  by_cases hn : r.name = n
  · rw [if_pos hn, if_pos (show (sk1 r).name = n from hn), hg]
  · rw [if_neg hn, if_neg (show ¬ (sk1 r).name = n from hn)]
theorem modR_id (rs : List RuleS) (n : Nm) (g : RuleS → RuleS) (h : ∀ r ∈ rs, r.name = n → g r = r) : modR n g rs = rs := by
  unfold modR
  conv => rhs; rw [← List.map_id rs]
  apply List.map_congr_left
  intro r hr
  split
  · exact h r hr (by assumption)
  · rfl
theorem modR_modR (rs : List RuleS) (n : Nm) (g h : RuleS → RuleS) (hg : ∀ r, (g r).name = r.name) : modR n h (modR n g rs) = modR n (fun r => h (g r)) rs := by
  unfold modR
  rw [List.map_map]
  apply List.map_congr_left
  intro r _
  simp only [Function.comp]
  by_cases hn : r.name = n
  · simp [hn, hg]
  · simp [hn]
theorem modR_names (rs : List RuleS) (n : Nm) (g : RuleS → RuleS) (hg : ∀ r, (g r).name = r.name) : (modR n g rs).map (·.name) = rs.map (·.name) := by
  unfold modR; rw [List.map_map]; apply List.map_congr_left; intro r _; simp only [Function.comp]; split <;> simp [hg]
theorem findR_modR (rs : List RuleS) (n m : Nm) (g : RuleS → RuleS) (hg : ∀ r, (g r).name = r.name) : findR (modR n g rs) m = (findR rs m).map fun r => if m = n then g r else r := by
  unfold modR
  rw [findR_map _ (fun r => by split <;> simp [hg])]
  cases h : findR rs m with
  | none => rfl
  | some r => have := (findR_mem h).2; simp [this]
theorem nb_cons (a : RuleS) (q : List RuleS) : nb (a :: q) = (if a.busy = true then 0 else 1) + nb q := by
  unfold nb
  simp only [List.filter_cons]
  cases a.busy <;> simp [Nat.add_comm]
theorem modR_cons (n : Nm) (g : RuleS → RuleS) (a : RuleS) (q : List RuleS) : modR n g (a :: q) = (if a.name = n then g a else a) :: modR n g q := rfl
theorem nb_modR_le (rs : List RuleS) (n : Nm) (g : RuleS → RuleS) (hg : ∀ r, (g r).busy = true) : nb (modR n g rs) ≤ nb rs := by
  induction rs with
  | nil => exact Nat.le_refl _
  | cons a q ih =>
    rw [modR_cons, nb_cons, nb_cons]
    by_cases hn : a.name = n
    · rw [if_pos hn, if_pos (hg a)]; omega
    · rw [if_neg hn]; omega
theorem nb_begun {rs : List RuleS} {n : Nm} {r : RuleS} (h : findR rs n = some r) (hb : r.busy = false) (g : RuleS → RuleS) (hg : ∀ r, (g r).busy = true) : nb (modR n g rs) + 1 ≤ nb rs := by
  induction rs with
  | nil => cases h
  | cons a q ih =>
    unfold findR at h
    have hle := nb_modR_le q n g hg
    rw [modR_cons, nb_cons, nb_cons]
    split at h
    · rename_i hn
      injection h with h; subst h
      rw [if_pos hn.symm, if_pos (hg a), if_neg (by rw [hb]; simp)]; omega
    · rename_i hn
      have := ih h
      rw [if_neg (fun x : a.name = n => hn x.symm)]; omega
theorem nb_le (rs : List RuleS) : nb rs ≤ rs.length := List.length_filter_le _ _
/-- what is known while names are evaluated; k: how many runs may stand ahead of what is known -/
structure EI (R k : Nat) (E : ES) : Prop where
  vals : ∀ n v, getV E.s.vals n = some v → v.length ≤ 1000
  rv : ∀ r ∈ E.s.rules, r.val.length ≤ 1000
  kn : ∀ p ∈ E.known, p.2.1.length ≤ 1000
  runs : E.s.runs ≤ R + E.known.length + k
  nd : (E.known.map (·.1)).Nodup
  fr : ∀ p ∈ E.known, ∃ r, findR E.s.rules p.1 = some r ∧ r.busy = false
  nm : (E.s.rules.map (·.name)).Nodup
structure Sk (E E' : ES) : Prop where
  vals : E'.s.vals = E.s.vals
  changes : E'.s.changes = E.s.changes
  rules : skel E'.s.rules = skel E.s.rules
theorem Sk.refl (E : ES) : Sk E E := ⟨rfl, rfl, rfl⟩
theorem Sk.trans {E E' E'' : ES} (h : Sk E E') (k : Sk E' E'') : Sk E E'' := ⟨k.vals.trans h.vals, k.changes.trans h.changes, k.rules.trans h.rules⟩
theorem Sk.nb {E E' : ES} (h : Sk E E') : nb E'.s.rules = nb E.s.rules := by rw [← nb_skel, h.rules, nb_skel]
theorem Sk.find {E E' : ES} (h : Sk E E') {n : Nm} {r : RuleS} (hr : findR E.s.rules n = some r) : ∃ r', findR E'.s.rules n = some r' ∧ sk1 r' = sk1 r := by
  have e := findR_skel E'.s.rules n
  rw [h.rules, findR_skel, hr] at e
  cases hf : findR E'.s.rules n with
  | none => rw [hf] at e; cases e
  | some r' => rw [hf] at e; injection e with e; exact ⟨r', rfl, e.symm⟩
theorem lookK_mem {n : Nm} {K : List (Nm × Res)} {a : Res} (h : lookK n K = some a) : (n, a) ∈ K := by
  induction K with
  | nil => cases h
  | cons p r ih =>
    unfold lookK at h
    split at h
    · rename_i e; injection h with h; subst h; subst e; exact List.mem_cons_self
    · exact List.mem_cons_of_mem _ (ih h)
theorem lookK_none {n : Nm} {K : List (Nm × Res)} (h : lookK n K = none) : n ∉ K.map (·.1) := by
  induction K with
  | nil => simp
  | cons p r ih =>
    unfold lookK at h
    split at h
    · cases h
    · rename_i e
      rw [List.map_cons, List.mem_cons]
      rintro (h1 | h1)
      · exact e h1
      · exact ih h h1
theorem needsX_inv (I : ES → Prop) (g : ES → Nm → ES × Res) (hg : ∀ E n, I E → I (g E n).1) (l : List Nm) : ∀ (E : ES) (acc : List Nm), I E → I (needsX g E acc l).1 := by
  induction l with
  | nil => intro E acc h; exact h
  | cons n r ih =>
    intro E acc h
    unfold needsX
    split
    · exact ih _ _ (hg E n h)
    · exact hg E n h
theorem needsX_small (I : ES → Prop) (g : ES → Nm → ES × Res) (hg : ∀ E n, I E → I (g E n).1) (hs : ∀ E n, I E → (g E n).2.1.length ≤ 1000) (l : List Nm) : ∀ (E : ES) (acc : List Nm), I E → (∀ x ∈ acc, x.length ≤ 1000) → ∀ inn, (needsX g E acc l).2 = .inr inn → (∀ x ∈ inn, x.length ≤ 1000) ∧ inn.length = acc.length + l.length := by
  induction l with
  | nil => intro E acc h ha inn e; injection e with e; subst e; exact ⟨ha, rfl⟩
  | cons n r ih =>
    intro E acc h ha inn e
    unfold needsX at e
    split at e
    · have := ih _ _ (hg E n h) (fun x hx => by
        rcases List.mem_append.1 hx with hx | hx
        · exact ha x hx
        · rw [List.mem_singleton] at hx; subst hx; exact hs E n h) inn e
      refine ⟨this.1, by rw [this.2]; simp; omega⟩
    · cases e
theorem valueX_small (f : Nat) (inn : List Nm) : (valueX f inn).1.length ≤ 50 := by
  unfold valueX
  split
  · unfold join50; split
    · rw [List.length_take]; omega
    · show (List.flatten inn).length ≤ 50; omega
  · split
    · simp
    · split
      · split
        · simp
        · split
          · simp
          · simp; omega
      · simp
theorem applyV_small (f : Nat) (inn : List Nm) : (applyV f inn).1.length ≤ 1000 := by
  unfold applyV
  split
  · have := valueX_small f inn; omega
  · simp
theorem callX_inv {S : GS} {n : Nm} {inn : List Nm} {r : RuleS} (h : findR S.rules n = some r) (hv : ∀ r ∈ S.rules, r.val.length ≤ 1000) :
    (callX S n inn).1.vals = S.vals ∧ (callX S n inn).1.changes = S.changes ∧ skel (callX S n inn).1.rules = skel S.rules ∧ (callX S n inn).1.runs ≤ S.runs + 1 ∧ (∀ r ∈ (callX S n inn).1.rules, r.val.length ≤ 1000) ∧ (callX S n inn).2.1.length ≤ 1000 := by
  unfold callX
  rw [h]
  simp only
  split
  · exact ⟨rfl, rfl, rfl, by simp, hv, hv r (findR_mem h).1⟩
  · refine ⟨rfl, rfl, ?_, Nat.le_refl _, fun q hq => ?_, applyV_small _ _⟩
    · exact (skel_modR S.rules n (fun r => { r with called := true, inn := inn, val := (applyV r.f inn).1, e := (applyV r.f inn).2 }) (fun r => r) (fun _ => rfl)).trans (modR_id _ _ _ (fun _ _ _ => rfl))
    · simp only [modR, List.mem_map] at hq
      obtain ⟨q0, hq0, rfl⟩ := hq
      split
      · exact applyV_small _ _
      · exact hv q0 hq0
theorem findR_end (rs : List RuleS) (n m : Nm) : findR (modR n (fun r => { r with busy := false }) rs) m = (findR rs m).map fun r => if m = n then { r with busy := false } else r := findR_modR rs n m (fun r => { r with busy := false }) (fun _ => rfl)
theorem findR_beg (rs : List RuleS) (n m : Nm) : findR (modR n (fun r => { r with busy := true, stale := false }) rs) m = (findR rs m).map fun r => if m = n then { r with busy := true, stale := false } else r := findR_modR rs n m (fun r => { r with busy := true, stale := false }) (fun _ => rfl)
theorem names_end (rs : List RuleS) (n : Nm) : (modR n (fun r => { r with busy := false }) rs).map (·.name) = rs.map (·.name) := modR_names rs n (fun r => { r with busy := false }) (fun _ => rfl)
theorem names_beg (rs : List RuleS) (n : Nm) : (modR n (fun r => { r with busy := true, stale := false }) rs).map (·.name) = rs.map (·.name) := modR_names rs n (fun r => { r with busy := true, stale := false }) (fun _ => rfl)
theorem skel_end (rs : List RuleS) (n : Nm) : skel (modR n (fun r => { r with busy := false }) rs) = modR n (fun r => { r with busy := false }) (skel rs) := skel_modR rs n _ (fun r => { r with busy := false }) (fun _ => rfl)
theorem skel_beg (rs : List RuleS) (n : Nm) : skel (modR n (fun r => { r with busy := true, stale := false }) rs) = modR n (fun r => { r with busy := true }) (skel rs) := skel_modR rs n _ (fun r => { r with busy := true }) (fun _ => rfl)
theorem mod_be (rs : List RuleS) (n : Nm) : modR n (fun r => { r with busy := false }) (modR n (fun r => { r with busy := true }) rs) = modR n (fun r => { r with busy := false }) rs := modR_modR rs n (fun r => { r with busy := true }) (fun r => { r with busy := false }) (fun _ => rfl)
theorem begun_inv {R k : Nat} {E : ES} {n : Nm} {r : RuleS} (h : EI R k E) (hr : findR E.s.rules n = some r) (hk : lookK n E.known = none) : EI R k { E with s := begunX E.s n } where
  vals := h.vals
  rv := fun q hq => by
    simp only [begunX, modR, List.mem_map] at hq
    obtain ⟨q0, hq0, rfl⟩ := hq
    split <;> exact h.rv q0 hq0
  kn := h.kn
  runs := h.runs
  nd := h.nd
  fr := fun p hp => by
    obtain ⟨r, h1, h2⟩ := h.fr p hp
    have hne : p.1 ≠ n := fun e => lookK_none hk (e ▸ List.mem_map_of_mem hp)
    refine ⟨r, ?_, h2⟩
    simp only [begunX]
    rw [findR_beg, h1]; simp [hne]
  nm := by simp only [begunX]; rw [names_beg]; exact h.nm
/-- what an evaluation keeps -/
theorem evalX_inv (R : Nat) : ∀ (f k : Nat) (E : ES) (n : Nm), EI R k E → EI R k (evalX f E n).1 ∧ Sk E (evalX f E n).1 ∧ (evalX f E n).2.1.length ≤ 1000 := by
  intro f
  induction f with
  | zero => intro k E n h; exact ⟨h, Sk.refl E, by simp [evalX]⟩
  | succ f ih =>
    intro k E n h
    unfold evalX
    cases hv : getV E.s.vals n with
    | some v => exact ⟨h, Sk.refl E, h.vals n v hv⟩
    | none =>
      cases hr : findR E.s.rules n with
      | none => exact ⟨h, Sk.refl E, by simp⟩
      | some r =>
        cases hk : lookK n E.known with
        | some a => exact ⟨h, Sk.refl E, h.kn _ (lookK_mem hk)⟩
        | none =>
          simp only
          split
          · exact ⟨h, Sk.refl E, by simp⟩
          · rename_i hb
            have hb : r.busy = false := by simpa using hb
            have h1 := begun_inv h hr hk
            generalize hE1 : ({ E with s := begunX E.s n } : ES) = E1 at *
            have hfr1 : ∃ r1, findR E1.s.rules n = some r1 ∧ r1.busy = true ∧ r1.needs = r.needs := by
              rw [← hE1]; simp only [begunX]
              rw [findR_beg, hr]
              exact ⟨_, rfl, by simp, by simp⟩
            have hN := needsX_inv (fun E' => EI R k E' ∧ Sk E1 E') (evalX f) (fun E' m h' => ⟨(ih k E' m h'.1).1, h'.2.trans (ih k E' m h'.1).2.1⟩) r.needs E1 [] ⟨h1, Sk.refl E1⟩
            have hA : EI R (k + 1) (applyX (evalX f) E1 n r.needs).1 ∧ Sk E1 (applyX (evalX f) E1 n r.needs).1 ∧ (applyX (evalX f) E1 n r.needs).2.1.length ≤ 1000 := by
              unfold applyX
              split
              · rename_i E' e he
                rw [he] at hN
                exact ⟨⟨hN.1.vals, hN.1.rv, hN.1.kn, by have := hN.1.runs; simp only at this ⊢; omega, hN.1.nd, hN.1.fr, hN.1.nm⟩, hN.2, by simp⟩
              · rename_i E' inn he
                rw [he] at hN
                obtain ⟨r1, hr1, _⟩ := hfr1
                obtain ⟨r2, hr2, _⟩ := hN.2.find hr1
                obtain ⟨c1, c2, c3, c4, c5, c6⟩ := callX_inv (inn := inn) hr2 hN.1.rv
                have hsk : Sk E' { E' with s := (callX E'.s n inn).1 } := ⟨c1, c2, c3⟩
                refine ⟨⟨fun m v hm => hN.1.vals m v (by rw [← c1]; exact hm), c5, hN.1.kn, by have := hN.1.runs; simp only at this c4 ⊢; omega, hN.1.nd, fun p hp => ?_, ?_⟩, hN.2.trans hsk, c6⟩
                · obtain ⟨q, q1, q2⟩ := hN.1.fr p hp
                  obtain ⟨q', q3, q4⟩ := hsk.find q1
                  exact ⟨q', q3, by have := congrArg RuleS.busy q4; simpa [sk1, q2] using this⟩
                · have e := skel_names (callX E'.s n inn).1.rules
                  rw [c3, skel_names] at e
                  rw [← e]; exact hN.1.nm
            generalize applyX (evalX f) E1 n r.needs = A at *
            obtain ⟨hA1, hA2, hA3⟩ := hA
            obtain ⟨r1, hr1, hb1, _⟩ := hfr1
            obtain ⟨r2, hr2, hs2⟩ := hA2.find hr1
            have hb2 : r2.busy = true := by have := congrArg RuleS.busy hs2; simpa [sk1, hb1] using this
            have hnk : n ∉ A.1.known.map (·.1) := fun hn => by
              obtain ⟨p, hp, e⟩ := List.mem_map.1 hn
              obtain ⟨q, q1, q2⟩ := hA1.fr p hp
              rw [show p.1 = n from e, hr2] at q1
              injection q1 with q1; rw [q1, q2] at hb2; cases hb2
            refine ⟨⟨fun m v hm => hA1.vals m v hm, fun q hq => ?_, fun p hp => ?_, ?_, ?_, fun p hp => ?_, ?_⟩, ⟨hA2.vals.trans (by rw [← hE1]; rfl), hA2.changes.trans (by rw [← hE1]; rfl), ?_⟩, hA3⟩
            · simp only [endedX, modR, List.mem_map] at hq
              obtain ⟨q0, hq0, rfl⟩ := hq
              split <;> exact hA1.rv q0 hq0
            · rcases List.mem_append.1 hp with hp | hp
              · exact hA1.kn p hp
              · rw [List.mem_singleton] at hp; subst hp; exact hA3
            · have := hA1.runs; simp only [endedX, List.length_append, List.length_singleton]; omega
            · simp only [List.map_append, List.map_cons, List.map_nil]
              rw [List.nodup_append]
              exact ⟨hA1.nd, by simp, fun a ha b hb => by simp at hb; subst hb; exact fun e => hnk (e ▸ ha)⟩
            · simp only [endedX]
              rcases List.mem_append.1 hp with hp | hp
              · obtain ⟨q, q1, q2⟩ := hA1.fr p hp
                exact ⟨_, by rw [findR_end, q1]; rfl, by simp only; split <;> simp [q2]⟩
              · rw [List.mem_singleton] at hp; subst hp
                exact ⟨_, by rw [findR_end, hr2]; rfl, by simp⟩
            · simp only [endedX]; rw [names_end]; exact hA1.nm
            · simp only [endedX]
              rw [skel_end, hA2.rules, ← hE1]
              simp only [begunX]
              rw [skel_beg, mod_be]
              apply modR_id
              intro q hq hqn
              have hfq : findR (skel E.s.rules) n = some q := by
                have := findR_of (by rw [skel_names]; exact h.nm) hq
                rwa [hqn] at this
              rw [findR_skel, hr] at hfq
              injection hfq with hfq
              rw [← hfq]; simp [sk1, hb]
end Go.Proofs.Ytbikldmhfaecpaa
