/-
  Layer 33 (markup), plain: the laws of nodes: read back, exact, cut.
-/
import Derived.Test.YtejjidbodfoiiaaGreatDoorMkR
namespace Go.Proofs.YtejjidbodfoiiaaGreatDoor
set_option linter.unusedVariables false
set_option linter.unusedSimpArgs false

theorem chk_iff (nm tx : List UInt8) (ats : List (List UInt8 × List UInt8)) (ks : List Nd) : chk (.mk nm tx ats ks) = 0 ↔
    (nm = [] ∧ ats = [] ∧ ks = [] ∧ tx ≠ [] ∧ validB tx = true) ∨ (nm ≠ [] ∧ nameB nm = true ∧ tx = [] ∧ (emptyB nm = true → ks = []) ∧ chkAs [] ats = 0 ∧ chkKs false ks = 0) := by
  rw [chk]
  by_cases h0 : nm = []
  · rw [if_pos h0]
    by_cases h1 : ats ≠ [] ∨ ks ≠ []
    · rw [if_pos h1]
      constructor
      · intro h; cases h
      · rintro (⟨_, a, b, _⟩ | ⟨a, _⟩)
        · rcases h1 with h | h
          · exact absurd a h
          · exact absurd b h
        · exact absurd h0 a
    · rw [if_neg h1]
      have ha : ats = [] := Classical.byContradiction fun h => h1 (.inl h)
      have hk : ks = [] := Classical.byContradiction fun h => h1 (.inr h)
      by_cases h2 : tx = [] ∨ validB tx = false
      · rw [if_pos h2]
        constructor
        · intro h; cases h
        · rintro (⟨_, _, _, a, b⟩ | ⟨a, _⟩)
          · rcases h2 with h | h
            · exact absurd h a
            · rw [b] at h; cases h
          · exact absurd h0 a
      · rw [if_neg h2]
        constructor
        · intro _
          exact .inl ⟨h0, ha, hk, fun h => h2 (.inl h), by cases hv : validB tx; exact absurd (.inr hv) h2; rfl⟩
        · intro _; rfl
  · rw [if_neg h0]
    cases hn : nameB nm
    · rw [if_pos rfl]
      constructor
      · intro h; cases h
      · rintro (⟨a, _⟩ | ⟨_, b, _⟩)
        · exact absurd a h0
        · cases b
    · rw [if_neg (by decide)]
      by_cases h1 : tx ≠ [] ∨ (emptyB nm = true ∧ ks ≠ [])
      · rw [if_pos h1]
        constructor
        · intro h; cases h
        · rintro (⟨a, _⟩ | ⟨_, _, a, b, _⟩)
          · exact absurd a h0
          · rcases h1 with h | h
            · exact absurd a h
            · exact absurd (b h.1) h.2
      · rw [if_neg h1]
        have ha : tx = [] := Classical.byContradiction fun h => h1 (.inl h)
        have hk : emptyB nm = true → ks = [] := fun e => Classical.byContradiction fun h => h1 (.inr ⟨e, h⟩)
        by_cases h2 : chkAs [] ats ≠ 0
        · rw [if_pos h2]
          constructor
          · intro h; exact absurd h h2
          · rintro (⟨a, _⟩ | ⟨_, _, _, _, a, _⟩)
            · exact absurd a h0
            · exact absurd a h2
        · rw [if_neg h2]
          have h2' : chkAs [] ats = 0 := Classical.byContradiction h2
          constructor
          · intro h; exact .inr ⟨h0, rfl, ha, hk, h2', h⟩
          · rintro (⟨a, _⟩ | ⟨_, _, _, _, _, a⟩)
            · exact absurd a h0
            · exact a
theorem chkKs_cons (t : Bool) (k : Nd) (r : List Nd) : chkKs t (k :: r) = 0 ↔ (t = true → k.nm ≠ []) ∧ chk k = 0 ∧ chkKs (decide (k.nm = [])) r = 0 := by
  rw [chkKs]
  by_cases h1 : t = true ∧ k.nm = []
  · rw [if_pos h1]
    exact ⟨fun h => (by cases h), fun h => absurd h1.2 (h.1 h1.1)⟩
  · rw [if_neg h1]
    by_cases h2 : chk k ≠ 0
    · rw [if_pos h2]
      exact ⟨fun h => absurd h h2, fun h => absurd h.2.1 h2⟩
    · rw [if_neg h2]
      exact ⟨fun h => ⟨fun a b => h1 ⟨a, b⟩, Classical.byContradiction h2, h⟩, fun h => h.2.2⟩
/-- the markup of an element: the name, then -/
def tailN (nm : List UInt8) (ats : List (List UInt8 × List UInt8)) (ks : List Nd) : List UInt8 := if emptyB nm = true then [47, 62] else [62] ++ (mkuL ks ++ ([60, 47] ++ nm ++ [62]))
theorem mku_elem (nm tx : List UInt8) (ats : List (List UInt8 × List UInt8)) (ks : List Nd) (h : nm ≠ []) : mku (.mk nm tx ats ks) = 60 :: (nm ++ (mkAs ats ++ tailN nm ats ks)) := by
  rw [mku, if_neg h, tailN]
  split <;> simp
theorem mku_text (tx : List UInt8) (ats : List (List UInt8 × List UInt8)) (ks : List Nd) : mku (.mk [] tx ats ks) = esc tx := by rw [mku, if_pos rfl]
theorem mku_head1 (n : Nd) (h : n.nm ≠ []) : (mku n).head? = some 60 := by
  obtain ⟨nm, tx, ats, ks⟩ := n
  rw [mku_elem nm tx ats ks h]; rfl
theorem low_ne {nm : List UInt8} (h : nameB nm = true) : ∃ c q, nm = c :: q ∧ c ≠ 47 ∧ c ≠ 32 := by
  obtain ⟨a, b, _⟩ := name_parts h
  cases nm with
  | nil => exact absurd rfl b
  | cons c q =>
    have := a c (List.mem_cons_self ..)
    refine ⟨c, q, rfl, ?_, ?_⟩ <;> (rintro rfl; revert this; decide)
theorem mku_elem2 (n : Nd) (h : n.nm ≠ []) (hc : chk n = 0) : ∃ c q, mku n = 60 :: c :: q ∧ c ≠ 47 := by
  obtain ⟨nm, tx, ats, ks⟩ := n
  rcases (chk_iff _ _ _ _).1 hc with ⟨a, _⟩ | ⟨_, a, _⟩
  · exact absurd a h
  · obtain ⟨c, q, rfl, hc, _⟩ := low_ne a
    exact ⟨c, _, mku_elem (c :: q) tx ats ks h, hc⟩
theorem mku_text2 (n : Nd) (h : n.nm = []) (hc : chk n = 0) : ∃ c q, mku n = c :: q ∧ c ≠ 60 := by
  obtain ⟨nm, tx, ats, ks⟩ := n
  have h : nm = [] := h
  subst h
  rcases (chk_iff _ _ _ _).1 hc with ⟨_, _, _, a, _⟩ | ⟨a, _⟩
  · rw [mku_text]
    cases he : esc tx with
    | nil =>
      have := esc_len tx
      rw [he] at this
      exact absurd (List.eq_nil_of_length_eq_zero (by simpa using this)) a
    | cons c q => exact ⟨c, q, rfl, (esc_clean tx c (by rw [he]; exact List.mem_cons_self ..)).1⟩
  · exact absurd rfl a
theorem mku_ne (n : Nd) (hc : chk n = 0) : mku n ≠ [] := by
  by_cases h : n.nm = []
  · obtain ⟨c, q, e, _⟩ := mku_text2 n h hc; rw [e]; simp
  · obtain ⟨c, q, e, _⟩ := mku_elem2 n h hc; rw [e]; simp
/-- a valid node does not begin with an end of an element -/
theorem mku_open (n : Nd) (hc : chk n = 0) (r : List UInt8) : ¬ [60, 47] <+: mku n ++ r := by
  rintro ⟨z, hz⟩
  by_cases h : n.nm = []
  · obtain ⟨c, q, e, h1⟩ := mku_text2 n h hc
    rw [e] at hz
    simp at hz
    exact h1 hz.1.symm
  · obtain ⟨c, q, e, h1⟩ := mku_elem2 n h hc
    rw [e] at hz
    simp at hz
    exact h1 hz.1.symm
theorem tail_head (nm : List UInt8) (ats : List (List UInt8 × List UInt8)) (ks : List Nd) (r : List UInt8) : ∃ c q, tailN nm ats ks ++ r = c :: q ∧ (c = 47 ∨ c = 62) := by
  unfold tailN
  split
  · exact ⟨_, _, rfl, .inl rfl⟩
  · exact ⟨_, _, rfl, .inr rfl⟩
theorem mkAs_head (ats : List (List UInt8 × List UInt8)) (r : List UInt8) (c : UInt8) (h : (mkAs ats ++ r).head? = some c) : c = 32 ∨ r.head? = some c := by
  cases ats with
  | nil => right; exact h
  | cons p ats => rw [mkAs_cons] at h; left; simpa using h.symm
theorem head60 {r : List UInt8} (h : [60, 47] <+: r) : r.head? = some 60 := by obtain ⟨z, rfl⟩ := h; rfl
theorem pKs_ok (ks : List Nd) (IH : ∀ k ∈ ks, chk k = 0 → ∀ f kid r, 2 * (mku k ++ r).length + 1 ≤ f → (k.nm = [] → r.head? = some 60 ∨ (r = [] ∧ kid = false)) → pN f kid (mku k ++ r) = .ok (k, r)) :
    ∀ f t r, chkKs t ks = 0 → 2 * (mkuL ks ++ r).length + 2 ≤ f → [60, 47] <+: r → pKs f (mkuL ks ++ r) = .ok (ks, r) := by
  induction ks with
  | nil =>
    intro f t r _ hf hr
    cases f with
    | zero => omega
    | succ f => rw [show mkuL [] ++ r = r from by rw [mkuL]; rfl, pKs, if_pos hr]
  | cons k q ih =>
    intro f t r hc hf hr
    obtain ⟨h1, h2, h3⟩ := (chkKs_cons _ _ _).1 hc
    cases f with
    | zero => omega
    | succ f =>
      rw [mkuL, List.append_assoc] at hf ⊢
      have hne : mku k ++ (mkuL q ++ r) ≠ [] := by
        intro e
        exact mku_ne k h2 (List.append_eq_nil_iff.1 e).1
      rw [pKs, if_neg (mku_open k h2 _), if_neg hne, IH k (List.mem_cons_self ..) h2 f true _ (by omega)]
      · simp only
        have hl : 0 < (mku k).length := List.length_pos_iff.2 (mku_ne k h2)
        rw [ih (fun x hx => IH x (List.mem_cons_of_mem _ hx)) f _ r h3 (by simp only [List.length_append] at hf ⊢; omega) hr]
      · intro hk
        left
        cases q with
        | nil => rw [mkuL]; exact head60 hr
        | cons k2 q2 =>
          obtain ⟨g1, g2, _⟩ := (chkKs_cons _ _ _).1 h3
          have := mku_head1 k2 (g1 (by simp [hk]))
          rw [mkuL, List.append_assoc, List.head?_append, this]; rfl
theorem pN_ok : ∀ n, chk n = 0 → ∀ f kid r, 2 * (mku n ++ r).length + 1 ≤ f → (n.nm = [] → r.head? = some 60 ∨ (r = [] ∧ kid = false)) → pN f kid (mku n ++ r) = .ok (n, r) := by
  refine Nd.ind ?_
  intro nm tx ats ks IH hc f kid r hf hr
  cases f with
  | zero => omega
  | succ f =>
    by_cases h0 : nm = []
    · subst h0
      obtain ⟨c, q, e, hne⟩ := mku_text2 _ rfl hc
      have hh : (mku (.mk [] tx ats ks) ++ r).head? ≠ some 60 := by rw [e]; simpa using hne
      rcases (chk_iff _ _ _ _).1 hc with ⟨_, rfl, rfl, a, hv⟩ | ⟨a, _⟩
      · rw [pN, if_neg hh, mku_text]
        have hr' : ∀ c, r.head? = some c → notL c = false := by
          intro c hc
          rcases hr rfl with h | ⟨rfl, _⟩
          · rw [h] at hc; injection hc with hc; subst hc; rfl
          · cases hc
        obtain ⟨e1, e2⟩ := span_stop notL (esc tx) r (notL_esc tx) hr'
        unfold pData
        rw [e1, e2, if_neg, pText_ok hv]
        rintro ⟨rfl, hk⟩
        rcases hr rfl with h | ⟨_, h⟩
        · cases h
        · rw [h] at hk; cases hk
      · exact absurd rfl a
    · rcases (chk_iff _ _ _ _).1 hc with ⟨a, _⟩ | ⟨_, hn, rfl, he, ha, hk⟩
      · exact absurd a h0
      · rw [mku_elem _ _ _ _ h0] at hf ⊢
        rw [List.cons_append, pN, if_pos (show List.head? ((60 : UInt8) :: _) = some 60 from rfl), List.drop_one, List.tail_cons, List.append_assoc, List.append_assoc]
        obtain ⟨c, q, et, hct⟩ := tail_head nm ats ks r
        rw [pName_ok hn]
        · simp only
          rw [pAttrs_ok ats _ [] _ ha]
          · simp only
            unfold tailN
            unfold tailN at hf
            cases hE : emptyB nm
            · simp only [Bool.false_eq_true, if_false]
              rw [hE] at hf
              simp only [Bool.false_eq_true, if_false] at hf
              rw [List.append_assoc, pExp_ok]
              simp only
              rw [List.append_assoc, pKs_ok ks IH f false _ hk]
              · simp only
                rw [pExp_ok]
              · simp only [List.length_append, List.length_cons, List.length_nil] at hf ⊢; omega
              · exact ⟨nm ++ [62] ++ r, by simp⟩
            · simp only [if_true]
              rw [pExp_ok]
              simp only
              rw [he hE]
          · rw [et]; rcases hct with rfl | rfl <;> simp
          · have := mkAs_len ats; simp only [List.length_append]; omega
        · intro d hd
          rcases mkAs_head ats _ d hd with rfl | h
          · decide
          · rw [et] at h
            have : c = d := by simpa using h
            subst this
            rcases hct with rfl | rfl <;> decide
        · rw [et]; simp
theorem pTop_ok (n : Nd) (hc : chk n = 0) (r : List UInt8) (hr : n.nm = [] → r.head? = some 60 ∨ r = []) : pTop (mku n ++ r) = .ok (n, r) := by
  unfold pTop
  rw [if_neg (fun e => mku_ne n hc (List.append_eq_nil_iff.1 e).1)]
  exact pN_ok n hc _ false r (Nat.le_refl _) (fun h => (hr h).imp id fun e => ⟨e, rfl⟩)

theorem pN_some : ∀ f, (∀ kid l n r, pN f kid l = .ok (n, r) → l ≠ [] → chk n = 0 ∧ mku n ++ r = l ∧ (n.nm = [] → r.head? = some 60 ∨ (r = [] ∧ kid = false)) ∧ (l.head? = some 60 → n.nm ≠ [])) ∧
    (∀ l ks r t, pKs f l = .ok (ks, r) → (t = true → l.head? = some 60) → chkKs t ks = 0 ∧ mkuL ks ++ r = l ∧ [60, 47] <+: r) := by
  intro f
  induction f with
  | zero => exact ⟨fun kid l n r h => (by cases h), fun l ks r t h => (by cases h)⟩
  | succ f ih =>
    constructor
    · intro kid l n r h hl
      rw [pN] at h
      by_cases h0 : l.head? = some 60
      · rw [if_pos h0] at h
        cases l with
        | nil => exact absurd rfl hl
        | cons c l =>
          have hc : c = 60 := by simpa using h0
          subst hc
          rw [List.drop_one, List.tail_cons] at h
          cases h1 : pName l with
          | error e => rw [h1] at h; cases h
          | ok x =>
            obtain ⟨nm, r1⟩ := x
            rw [h1] at h
            simp only at h
            obtain ⟨a1, a2, a3⟩ := pName_some h1
            have hnm := (name_parts a1).2.1
            cases h2 : pAttrs (r1.length + 1) [] r1 with
            | error e => rw [h2] at h; cases h
            | ok y =>
              obtain ⟨ats, r2⟩ := y
              rw [h2] at h
              simp only at h
              obtain ⟨b1, b2, b3⟩ := pAttrs_some _ _ _ _ _ h2
              cases hE : emptyB nm
              · rw [hE] at h
                simp only [Bool.false_eq_true, if_false] at h
                cases h3 : pExp [62] r2 with
                | error e => rw [h3] at h; cases h
                | ok r3 =>
                  rw [h3] at h
                  simp only at h
                  cases h4 : pKs f r3 with
                  | error e => rw [h4] at h; cases h
                  | ok z =>
                    obtain ⟨ks, r4⟩ := z
                    rw [h4] at h
                    simp only at h
                    cases h5 : pExp ([60, 47] ++ nm ++ [62]) r4 with
                    | error e => rw [h5] at h; cases h
                    | ok r5 =>
                      rw [h5] at h
                      injection h with h
                      injection h with ha hb
                      subst ha hb
                      obtain ⟨k1, k2, k3⟩ := ih.2 _ _ _ false h4 (fun h => (by cases h))
                      refine ⟨(chk_iff _ _ _ _).2 (.inr ⟨hnm, a1, rfl, (fun h => by rw [hE] at h; cases h), b1, k1⟩), ?_, fun h => absurd h hnm, fun _ => hnm⟩
                      rw [mku_elem _ _ _ _ hnm, ← a2, ← b2, ← pExp_some h3, ← k2, ← pExp_some h5, tailN, hE]
                      simp
              · rw [hE] at h
                simp only [if_true] at h
                cases h3 : pExp [47, 62] r2 with
                | error e => rw [h3] at h; cases h
                | ok r3 =>
                  rw [h3] at h
                  injection h with h
                  injection h with ha hb
                  subst ha hb
                  refine ⟨(chk_iff _ _ _ _).2 (.inr ⟨hnm, a1, rfl, fun _ => rfl, b1, by rw [chkKs]⟩), ?_, fun h => absurd h hnm, fun _ => hnm⟩
                  rw [mku_elem _ _ _ _ hnm, ← a2, ← b2, ← pExp_some h3, tailN, hE]
                  simp
      · rw [if_neg h0] at h
        unfold pData at h
        by_cases h1 : l.dropWhile notL = [] ∧ kid = true
        · rw [if_pos h1] at h; cases h
        · rw [if_neg h1] at h
          cases h2 : pText (l.takeWhile notL) with
          | error e => rw [h2] at h; cases h
          | ok u =>
            rw [h2] at h
            injection h with h
            injection h with ha hb
            subst ha hb
            obtain ⟨e1, e2⟩ := pText_some h2
            refine ⟨(chk_iff _ _ _ _).2 (.inl ⟨rfl, rfl, rfl, ?_, e2⟩), ?_, ?_, fun h => absurd h h0⟩
            · rintro rfl
              have e1 : [] = l.takeWhile notL := e1
              cases l with
              | nil => exact hl rfl
              | cons c q =>
                rw [List.takeWhile_cons] at e1
                split at e1
                · cases e1
                · rename_i hc
                  have : c = 60 := by simpa [notL] using hc
                  exact h0 (by rw [this]; rfl)
            · rw [mku_text, e1]; exact List.takeWhile_append_dropWhile
            · intro _
              cases hd : l.dropWhile notL with
              | nil =>
                right
                refine ⟨rfl, ?_⟩
                cases kid
                · rfl
                · exact absurd ⟨hd, rfl⟩ h1
              | cons c q =>
                left
                have := span_head notL l c (by rw [hd]; rfl)
                have hc : c = 60 := by simpa [notL] using this
                rw [hc]; rfl
    · intro l ks r t h ht
      rw [pKs] at h
      by_cases h0 : [60, 47] <+: l
      · rw [if_pos h0] at h
        injection h with h
        injection h with ha hb
        subst ha hb
        exact ⟨by rw [chkKs], by rw [mkuL]; rfl, h0⟩
      · rw [if_neg h0] at h
        by_cases h1 : l = []
        · rw [if_pos h1] at h; cases h
        · rw [if_neg h1] at h
          cases h2 : pN f true l with
          | error e => rw [h2] at h; cases h
          | ok x =>
            obtain ⟨k, r1⟩ := x
            rw [h2] at h
            simp only at h
            obtain ⟨a1, a2, a3, a4⟩ := ih.1 _ _ _ _ h2 h1
            cases h3 : pKs f r1 with
            | error e => rw [h3] at h; cases h
            | ok y =>
              obtain ⟨q, r2⟩ := y
              rw [h3] at h
              injection h with h
              injection h with ha hb
              subst ha hb
              obtain ⟨b1, b2, b3⟩ := ih.2 _ _ _ (decide (k.nm = [])) h3 (fun h => by
                rcases a3 (by simpa using h) with h | ⟨_, h⟩
                · exact h
                · cases h)
              exact ⟨(chkKs_cons _ _ _).2 ⟨fun h => a4 (ht h), a1, b1⟩, by rw [mkuL, List.append_assoc, b2, a2], b3⟩
theorem pTop_some {l : List UInt8} {n : Nd} {r : List UInt8} (h : pTop l = .ok (n, r)) : chk n = 0 ∧ mku n ++ r = l := by
  unfold pTop at h
  by_cases h0 : l = []
  · rw [if_pos h0] at h; cases h
  · rw [if_neg h0] at h
    have := (pN_some _).1 _ _ _ _ h h0
    exact ⟨this.1, this.2.1⟩
end Go.Proofs.YtejjidbodfoiiaaGreatDoor
