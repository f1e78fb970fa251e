/-
  Layer 33 (markup), plain: the markup of a valid node is read back; what is read has the bytes that were read as its markup; no proper beginning is read.
-/
import Derived.Test.YtejjidbodfoiiaaGreatDoorMkQ
namespace Go.Proofs.YtejjidbodfoiiaaGreatDoor
set_option linter.unusedVariables false
set_option linter.unusedSimpArgs false

theorem span_stop (p : UInt8 → Bool) (a r : List UInt8) (ha : ∀ c ∈ a, p c = true) (hr : ∀ c, r.head? = some c → p c = false) : (a ++ r).takeWhile p = a ∧ (a ++ r).dropWhile p = r := by
  induction a with
  | nil =>
    cases r with
    | nil => exact ⟨rfl, rfl⟩
    | cons c q => have := hr c rfl; simp [this]
  | cons c q ih =>
    have h1 := ha c (List.mem_cons_self ..)
    have := ih (fun d hd => ha d (List.mem_cons_of_mem _ hd))
    simp [h1, this.1, this.2]
theorem span_head (p : UInt8 → Bool) (l : List UInt8) (c : UInt8) (h : (l.dropWhile p).head? = some c) : p c = false := by
  induction l with
  | nil => cases h
  | cons d r ih =>
    rw [List.dropWhile_cons] at h
    split at h
    · exact ih h
    · rename_i hd; simp at h; subst h; simpa using hd
theorem span_all (p : UInt8 → Bool) (l : List UInt8) : ∀ c ∈ l.takeWhile p, p c = true := by
  induction l with
  | nil => intro c hc; cases hc
  | cons d r ih =>
    intro c hc
    rw [List.takeWhile_cons] at hc
    split at hc
    · rcases List.mem_cons.1 hc with rfl | hc
      · assumption
      · exact ih c hc
    · cases hc
theorem name_parts {s : List UInt8} (h : nameB s = true) : (∀ c ∈ s, partB c = true) ∧ s ≠ [] ∧ s.length ≤ 60 := by
  simp only [nameB, Bool.and_eq_true, List.all_eq_true, decide_eq_true_eq] at h
  refine ⟨h.1, ?_, h.2.1⟩
  rintro rfl
  simp [lowB] at h
theorem pName_ok {nm r : List UInt8} (h : nameB nm = true) (hr : ∀ c, r.head? = some c → partB c = false) (hne : r ≠ []) : pName (nm ++ r) = .ok (nm, r) := by
  obtain ⟨e1, e2⟩ := span_stop partB nm r (name_parts h).1 hr
  unfold pName
  rw [e1, e2, if_neg hne, if_neg (by simp [h])]
theorem pName_some {l nm r : List UInt8} (h : pName l = .ok (nm, r)) : nameB nm = true ∧ nm ++ r = l ∧ r ≠ [] := by
  unfold pName at h
  split at h
  · cases h
  · split at h
    · cases h
    · rename_i h1 h2
      injection h with h
      injection h with ha hb
      subst ha hb
      exact ⟨by simpa using h2, List.takeWhile_append_dropWhile, h1⟩
theorem pExp_ok (t r : List UInt8) : pExp t (t ++ r) = .ok r := by
  unfold pExp
  rw [if_pos (List.prefix_append t r), List.drop_left]
theorem pExp_some {t l r : List UInt8} (h : pExp t l = .ok r) : t ++ r = l := by
  unfold pExp at h
  split at h
  · rename_i hp
    injection h with h
    obtain ⟨q, rfl⟩ := hp
    rw [List.drop_left] at h
    rw [h]
  · split at h <;> cases h
theorem pText_ok {u : List UInt8} (h : validB u = true) : pText (esc u) = .ok u := by
  unfold pText
  rw [valid_esc, h, if_neg (by decide), unesc_esc]
theorem pText_some {v u : List UInt8} (h : pText v = .ok u) : esc u = v ∧ validB u = true := by
  unfold pText at h
  split at h
  · cases h
  · rename_i hv
    have hv : validB v = true := by simpa using hv
    cases hu : unesc v with
    | none => rw [hu] at h; cases h
    | some x =>
      rw [hu] at h
      injection h with h
      subst h
      have he := esc_unesc hu
      refine ⟨he, ?_⟩
      rw [← valid_esc, he]; exact hv
theorem notQ_esc (u : List UInt8) : ∀ c ∈ esc u, notQ c = true := fun c hc => by have := (esc_clean u c hc).2.2; simp [notQ, this]
theorem notL_esc (u : List UInt8) : ∀ c ∈ esc u, notL c = true := fun c hc => by have := (esc_clean u c hc).1; simp [notL, this]
theorem pVal_ok {u r : List UInt8} (h : validB u = true) : pVal (esc u ++ 34 :: r) = .ok (u, r) := by
  obtain ⟨e1, e2⟩ := span_stop notQ (esc u) (34 :: r) (notQ_esc u) (fun c hc => by simp at hc; subst hc; rfl)
  unfold pVal
  rw [e1, e2, if_neg (by simp), pText_ok h]
  rfl
theorem pVal_some {l u r : List UInt8} (h : pVal l = .ok (u, r)) : esc u ++ 34 :: r = l ∧ validB u = true := by
  unfold pVal at h
  split at h
  · cases h
  · rename_i hd
    cases ht : pText (l.takeWhile notQ) with
    | error e => rw [ht] at h; cases h
    | ok x =>
      rw [ht] at h
      injection h with h
      injection h with h1 h2
      subst h1
      obtain ⟨e1, e2⟩ := pText_some ht
      refine ⟨?_, e2⟩
      rw [e1, ← h2]
      cases hh : l.dropWhile notQ with
      | nil => exact absurd hh hd
      | cons c q =>
        have := span_head notQ l c (by rw [hh]; rfl)
        have hc : c = 34 := by simpa [notQ] using this
        subst hc
        have := @List.takeWhile_append_dropWhile _ notQ l
        rw [hh] at this
        exact this
/-- the markup of one attribute, behind its space -/
def mkA (p : List UInt8 × List UInt8) : List UInt8 := p.1 ++ ([61, 34] ++ (esc p.2 ++ [34]))
theorem mkAs_cons (p : List UInt8 × List UInt8) (ats : List (List UInt8 × List UInt8)) : mkAs (p :: ats) = 32 :: (mkA p ++ mkAs ats) := by simp [mkAs, mkA]
theorem pAttr_ok {p : List UInt8 × List UInt8} {r : List UInt8} (h1 : nameB p.1 = true) (h2 : validB p.2 = true) : pAttr (mkA p ++ r) = .ok (p, r) := by
  unfold pAttr mkA
  rw [List.append_assoc, pName_ok h1 (fun c hc => by simp at hc; subst hc; decide) (by simp)]
  simp only [List.append_assoc]
  rw [pExp_ok]
  show (match pVal (esc p.2 ++ 34 :: r) with | .error e => _ | .ok (u, r2) => _) = _
  rw [pVal_ok h2]
theorem pAttr_some {p : List UInt8 × List UInt8} {l r : List UInt8} (h : pAttr l = .ok (p, r)) : nameB p.1 = true ∧ validB p.2 = true ∧ mkA p ++ r = l := by
  unfold pAttr at h
  cases h1 : pName l with
  | error e => rw [h1] at h; cases h
  | ok x =>
    obtain ⟨k, r0⟩ := x
    rw [h1] at h
    simp only at h
    cases h2 : pExp [61, 34] r0 with
    | error e => rw [h2] at h; cases h
    | ok r1 =>
      rw [h2] at h
      simp only at h
      cases h3 : pVal r1 with
      | error e => rw [h3] at h; cases h
      | ok y =>
        obtain ⟨u, r2⟩ := y
        rw [h3] at h
        injection h with h
        injection h with ha hb
        subst ha hb
        obtain ⟨a1, a2, _⟩ := pName_some h1
        obtain ⟨c1, c2⟩ := pVal_some h3
        refine ⟨a1, c2, ?_⟩
        rw [← a2, ← pExp_some h2, ← c1]
        simp [mkA]
theorem chkAs_cons {S : List (List UInt8)} {p : List UInt8 × List UInt8} {r : List (List UInt8 × List UInt8)} : chkAs S (p :: r) = 0 ↔ nameB p.1 = true ∧ validB p.2 = true ∧ p.1 ∉ S ∧ chkAs (S ++ [p.1]) r = 0 := by
  rw [chkAs]
  cases h1 : nameB p.1 <;> cases h2 : validB p.2 <;> by_cases h3 : p.1 ∈ S <;> simp [h3]
theorem pAttrs_ok : ∀ (ats : List (List UInt8 × List UInt8)) (f : Nat) (S : List (List UInt8)) (r : List UInt8), chkAs S ats = 0 → r.head? ≠ some 32 → ats.length < f → pAttrs f S (mkAs ats ++ r) = .ok (ats, r) := by
  intro ats
  induction ats with
  | nil =>
    intro f S r _ hr hf
    cases f with
    | zero => simp at hf
    | succ f => rw [show mkAs [] ++ r = r from rfl, pAttrs, if_neg hr]
  | cons p ats ih =>
    intro f S r h hr hf
    obtain ⟨h1, h2, h3, h4⟩ := chkAs_cons.1 h
    cases f with
    | zero => simp at hf
    | succ f =>
      rw [mkAs_cons, List.cons_append, pAttrs, if_pos (show List.head? ((32 : UInt8) :: _) = some 32 from rfl), List.drop_one, List.tail_cons, List.append_assoc, pAttr_ok h1 h2]
      simp only [h3, if_false]
      rw [ih f _ r h4 hr (by simpa using hf)]
theorem pAttrs_some : ∀ (f : Nat) (S : List (List UInt8)) (l : List UInt8) (ats : List (List UInt8 × List UInt8)) (r : List UInt8), pAttrs f S l = .ok (ats, r) → chkAs S ats = 0 ∧ mkAs ats ++ r = l ∧ r.head? ≠ some 32 := by
  intro f
  induction f with
  | zero => intro S l ats r h; cases h
  | succ f ih =>
    intro S l ats r h
    rw [pAttrs] at h
    by_cases h0 : l.head? = some 32
    · rw [if_pos h0] at h
      cases h1 : pAttr (l.drop 1) with
      | error e => rw [h1] at h; cases h
      | ok x =>
        obtain ⟨p, q⟩ := x
        rw [h1] at h
        simp only at h
        by_cases h2 : p.1 ∈ S
        · rw [if_pos h2] at h; cases h
        · rw [if_neg h2] at h
          cases h3 : pAttrs f (S ++ [p.1]) q with
          | error e => rw [h3] at h; cases h
          | ok y =>
            obtain ⟨ats', r'⟩ := y
            rw [h3] at h
            injection h with h
            injection h with ha hb
            subst ha hb
            obtain ⟨a1, a2, a3⟩ := pAttr_some h1
            obtain ⟨b1, b2, b3⟩ := ih _ _ _ _ h3
            refine ⟨chkAs_cons.2 ⟨a1, a2, h2, b1⟩, ?_, b3⟩
            cases l with
            | nil => cases h0
            | cons c l' =>
              have hc : c = 32 := by simpa using h0
              subst hc
              rw [mkAs_cons, List.cons_append, List.append_assoc, b2]
              simpa using a3
    · rw [if_neg h0] at h
      injection h with h
      injection h with ha hb
      subst ha hb
      exact ⟨rfl, rfl, h0⟩
theorem mkAs_len (ats : List (List UInt8 × List UInt8)) : ats.length ≤ (mkAs ats).length := by
  induction ats with
  | nil => simp
  | cons p ats ih => rw [mkAs_cons]; simp; omega
end Go.Proofs.YtejjidbodfoiiaaGreatDoor
