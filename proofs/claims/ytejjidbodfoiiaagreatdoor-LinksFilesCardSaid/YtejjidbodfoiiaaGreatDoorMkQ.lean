/-
  Layer 33 (markup), plain: clean text escaped is clean; what is escaped is read back.
-/
import Derived.Test.YtejjidbodfoiiaaGreatDoorMkP
namespace Go.Proofs.YtejjidbodfoiiaaGreatDoor
set_option linter.unusedVariables false
set_option linter.unusedSimpArgs false

theorem validB_cons (b : UInt8) (r : List UInt8) : validB (b :: r) = if b < 128 then cleanB b && validB r else match r with
    | [] => false
    | x :: r1 => if two b x then validB r1 else match r1 with
      | [] => false
      | y :: r2 => if thr b x y then validB r2 else match r2 with
        | [] => false
        | z :: r3 => if fou b x y z then validB r3 else false := by
  rcases r with _ | ⟨x, _ | ⟨y, _ | ⟨z, r⟩⟩⟩
  · by_cases h : b < 128 <;> simp [validB, h]
  · by_cases h : b < 128 <;> simp [validB, h]
  · by_cases h : b < 128 <;> by_cases h2 : two b x = true <;> simp [validB, h, h2]
  · by_cases h : b < 128 <;> by_cases h2 : two b x = true <;> by_cases h3 : thr b x y = true <;> simp [validB, h, h2, h3]
/-- the number of bytes of the sequence that a text begins with, or 0 -/
def sq : List UInt8 → Nat
  | [] => 0
  | b :: r => if b < 128 then 1 else match r with
    | [] => 0
    | x :: r1 => if two b x then 2 else match r1 with
      | [] => 0
      | y :: r2 => if thr b x y then 3 else match r2 with
        | [] => 0
        | z :: r3 => if fou b x y z then 4 else 0
theorem validB_sq (b : UInt8) (r : List UInt8) (h : ¬ b < 128) : validB (b :: r) = if sq (b :: r) = 0 then false else validB ((b :: r).drop (sq (b :: r))) := by
  rw [validB_cons, if_neg h]
  rcases r with _ | ⟨x, _ | ⟨y, _ | ⟨z, r⟩⟩⟩ <;> simp only [sq, h, if_false]
  · simp
  · by_cases h2 : two b x = true <;> simp [h2]
  · by_cases h2 : two b x = true
    · simp [h2]
    · by_cases h3 : thr b x y = true <;> simp [h2, h3]
  · by_cases h2 : two b x = true
    · simp [h2]
    · by_cases h3 : thr b x y = true
      · simp [h2, h3]
      · by_cases h4 : fou b x y z = true <;> simp [h2, h3, h4]
theorem sq_le (l : List UInt8) : sq l ≤ l.length := by
  rcases l with _ | ⟨b, _ | ⟨x, _ | ⟨y, _ | ⟨z, r⟩⟩⟩⟩ <;> simp only [sq, List.length] <;> repeat (first | omega | split)

theorem cont_big {x : UInt8} (h : contB x = true) : ¬ x < 128 := by
  simp only [contB, Bool.and_eq_true, decide_eq_true_eq, UInt8.le_iff_toNat_le] at h
  rw [UInt8.lt_iff_toNat_lt]
  have : (128 : UInt8).toNat = 128 := rfl
  omega
theorem two_cont {b x : UInt8} (h : two b x = true) : contB x = true := by simp only [two, Bool.and_eq_true] at h; exact h.2
theorem snd_cont {b x : UInt8} (h : sndB b x = true) : contB x = true := by simp only [sndB, Bool.and_eq_true] at h; exact h.1.1.1.1
theorem thr_cont {b x y : UInt8} (h : thr b x y = true) : contB x = true ∧ contB y = true := by simp only [thr, Bool.and_eq_true] at h; exact ⟨snd_cont h.1.2, h.2⟩
theorem fou_cont {b x y z : UInt8} (h : fou b x y z = true) : contB x = true ∧ contB y = true ∧ contB z = true := by simp only [fou, Bool.and_eq_true] at h; exact ⟨snd_cont h.1.1.2, h.1.2, h.2⟩
theorem escB_big {c : UInt8} (h : ¬ c < 128) : escB c = [c] := by
  unfold escB
  rw [if_neg, if_neg, if_neg, if_neg] <;> (rintro rfl; exact h (by decide))
/-- a byte that is escaped begins with a small byte -/
theorem escB_small {c : UInt8} (h : c < 128) : ∃ d r, escB c = d :: r ∧ d < 128 := by
  unfold escB
  split
  · exact ⟨_, _, rfl, by decide⟩
  · split
    · exact ⟨_, _, rfl, by decide⟩
    · split
      · exact ⟨_, _, rfl, by decide⟩
      · split
        · exact ⟨_, _, rfl, by decide⟩
        · exact ⟨_, _, rfl, h⟩
theorem esc_cons (c : UInt8) (l : List UInt8) : esc (c :: l) = escB c ++ esc l := by simp [esc]
theorem esc_append (a b : List UInt8) : esc (a ++ b) = esc a ++ esc b := by simp [esc]
theorem validB_escB (c : UInt8) (h : c < 128) (l : List UInt8) : validB (escB c ++ l) = (cleanB c && validB l) := by
  unfold escB
  split
  · rename_i e; subst e; simp [validB_cons, cleanB]
  · split
    · rename_i e; subst e; simp [validB_cons, cleanB]
    · split
      · rename_i e; subst e; simp [validB_cons, cleanB]
      · split
        · rename_i e; subst e; simp [validB_cons, cleanB]
        · show validB (c :: l) = _
          rw [validB_cons, if_pos h]
theorem two_small {b x : UInt8} (h : x < 128) : two b x = false := by
  cases e : two b x
  · rfl
  · exact absurd h (cont_big (two_cont e))
theorem thr_small {b x y : UInt8} (h : x < 128 ∨ y < 128) : thr b x y = false := by
  cases e : thr b x y
  · rfl
  · rcases h with h | h
    · exact absurd h (cont_big (thr_cont e).1)
    · exact absurd h (cont_big (thr_cont e).2)
theorem fou_small {b x y z : UInt8} (h : x < 128 ∨ y < 128 ∨ z < 128) : fou b x y z = false := by
  cases e : fou b x y z
  · rfl
  · rcases h with h | h | h
    · exact absurd h (cont_big (fou_cont e).1)
    · exact absurd h (cont_big (fou_cont e).2.1)
    · exact absurd h (cont_big (fou_cont e).2.2)
/-- a sequence whose second byte is small is none -/
theorem valid_stop1 {b x : UInt8} {r : List UInt8} (hb : ¬ b < 128) (hx : x < 128) : validB (b :: x :: r) = false := by
  rw [validB_cons, if_neg hb]
  rcases r with _ | ⟨y, _ | ⟨z, r⟩⟩ <;> simp [two_small hx, thr_small (Or.inl hx), fou_small (Or.inl hx)]
theorem valid_stop2 {b x y : UInt8} {r : List UInt8} (hb : ¬ b < 128) (hx : two b x = false) (hy : y < 128) : validB (b :: x :: y :: r) = false := by
  rw [validB_cons, if_neg hb]
  rcases r with _ | ⟨z, r⟩ <;> simp [hx, thr_small (Or.inr hy), fou_small (Or.inr (Or.inl hy))]
theorem valid_stop3 {b x y z : UInt8} {r : List UInt8} (hb : ¬ b < 128) (hx : two b x = false) (hy : thr b x y = false) (hz : z < 128) : validB (b :: x :: y :: z :: r) = false := by
  rw [validB_cons, if_neg hb]
  simp [hx, hy, fou_small (Or.inr (Or.inr hz))]
theorem esc_small {c : UInt8} (h : c < 128) (l : List UInt8) : ∃ d r, esc (c :: l) = d :: r ∧ d < 128 := by
  obtain ⟨d, r, e, hd⟩ := escB_small h
  exact ⟨d, r ++ esc l, by rw [esc_cons, e]; rfl, hd⟩
theorem esc_big {c : UInt8} (h : ¬ c < 128) (l : List UInt8) : esc (c :: l) = c :: esc l := by rw [esc_cons, escB_big h]; rfl
theorem valid_esc_n : ∀ n, ∀ l : List UInt8, l.length ≤ n → validB (esc l) = validB l := by
  intro n
  induction n with
  | zero =>
    intro l hl
    cases l with
    | nil => rfl
    | cons c r => simp at hl
  | succ n ih =>
    intro l hl
    rcases l with _ | ⟨b, r⟩
    · rfl
    by_cases hb : b < 128
    · rw [esc_cons, validB_escB b hb, validB_cons, if_pos hb, ih r (by simpa using hl)]
    · rw [esc_big hb]
      rcases r with _ | ⟨x, r1⟩
      · rfl
      by_cases hx : x < 128
      · obtain ⟨d, q, e, hd⟩ := esc_small hx r1
        rw [e, valid_stop1 hb hd, valid_stop1 hb hx]
      · rw [esc_big hx]
        by_cases h2 : two b x = true
        · rw [validB_cons, if_neg hb, validB_cons b, if_neg hb]
          simp only [h2, if_true]
          exact ih r1 (by simp at hl; omega)
        · have h2' : two b x = false := by simpa using h2
          rcases r1 with _ | ⟨y, r2⟩
          · rfl
          by_cases hy : y < 128
          · obtain ⟨d, q, e, hd⟩ := esc_small hy r2
            rw [e, valid_stop2 hb h2' hd, valid_stop2 hb h2' hy]
          · rw [esc_big hy]
            by_cases h3 : thr b x y = true
            · rw [validB_cons, if_neg hb, validB_cons b, if_neg hb]
              simp only [h2', h3, if_true]
              exact ih r2 (by simp at hl; omega)
            · have h3' : thr b x y = false := by simpa using h3
              rcases r2 with _ | ⟨z, r3⟩
              · rfl
              by_cases hz : z < 128
              · obtain ⟨d, q, e, hd⟩ := esc_small hz r3
                rw [e, valid_stop3 hb h2' h3' hd, valid_stop3 hb h2' h3' hz]
              · rw [esc_big hz, validB_cons, if_neg hb, validB_cons b, if_neg hb]
                simp only [h2', h3']
                by_cases h4 : fou b x y z = true
                · simp only [h4, if_true]
                  exact ih r3 (by simp at hl; omega)
                · simp [h4]
theorem valid_esc (l : List UInt8) : validB (esc l) = validB l := valid_esc_n _ l (Nat.le_refl _)

theorem escB_len (c : UInt8) : 1 ≤ (escB c).length := by
  unfold escB
  repeat (first | split | decide | simp)
theorem esc_len (l : List UInt8) : l.length ≤ (esc l).length := by
  induction l with
  | nil => simp [esc]
  | cons c r ih => rw [esc_cons, List.length_append]; have := escB_len c; simp; omega
theorem escB_len6 (c : UInt8) : (escB c).length ≤ 6 := by
  unfold escB
  repeat (first | split | decide | simp)
theorem esc_len6 (l : List UInt8) : (esc l).length ≤ 6 * l.length := by
  induction l with
  | nil => simp [esc]
  | cons c r ih => rw [esc_cons, List.length_append]; have := escB_len6 c; simp; omega
theorem esc_clean (l : List UInt8) : ∀ c ∈ esc l, c ≠ 60 ∧ c ≠ 62 ∧ c ≠ 34 := by
  induction l with
  | nil => intro c hc; cases hc
  | cons d r ih =>
    intro c hc
    rw [esc_cons, List.mem_append] at hc
    rcases hc with hc | hc
    · unfold escB at hc
      split at hc
      · simp at hc; rcases hc with rfl | rfl | rfl | rfl | rfl <;> decide
      · split at hc
        · simp at hc; rcases hc with rfl | rfl | rfl | rfl <;> decide
        · split at hc
          · simp at hc; rcases hc with rfl | rfl | rfl | rfl <;> decide
          · split at hc
            · simp at hc; rcases hc with rfl | rfl | rfl | rfl | rfl | rfl <;> decide
            · simp at hc; subst hc; exact ⟨by assumption, by assumption, by assumption⟩
    · exact ih c hc
/-- the four replacements -/
theorem repl_esc {c : UInt8} (h : c = 38 ∨ c = 60 ∨ c = 62 ∨ c = 34) (l : List UInt8) : repl (escB c ++ l) = ((escB c).length, c) ∧ ∃ r, escB c = 38 :: r := by
  rcases h with rfl | rfl | rfl | rfl <;> exact ⟨by simp [repl, escB, List.cons_prefix_cons], _, rfl⟩
theorem repl_some {l : List UInt8} (h : (repl l).1 ≠ 0) : ∃ r, l = escB (repl l).2 ++ r ∧ (repl l).1 = (escB (repl l).2).length := by
  unfold repl at *
  split
  · rename_i e; obtain ⟨r, rfl⟩ := e; exact ⟨r, rfl, rfl⟩
  · split
    · rename_i e; obtain ⟨r, rfl⟩ := e; exact ⟨r, rfl, rfl⟩
    · split
      · rename_i e; obtain ⟨r, rfl⟩ := e; exact ⟨r, rfl, rfl⟩
      · split
        · rename_i e; obtain ⟨r, rfl⟩ := e; exact ⟨r, rfl, rfl⟩
        · simp_all
theorem unescF_esc : ∀ (l : List UInt8) (k : Nat), (esc l).length ≤ k → unescF k (esc l) = some l := by
  intro l
  induction l with
  | nil => intro k _; cases k <;> rfl
  | cons c r ih =>
    intro k hk
    rw [esc_cons] at hk ⊢
    rw [List.length_append] at hk
    by_cases h : c = 38 ∨ c = 60 ∨ c = 62 ∨ c = 34
    · obtain ⟨e, q, hq⟩ := repl_esc h (esc r)
      rw [hq] at e hk ⊢
      cases k with
      | zero => simp at hk
      | succ k =>
        rw [List.cons_append] at e ⊢
        rw [unescF, if_neg (by decide), if_pos rfl, e]
        simp only [List.length_cons, Nat.succ_ne_zero, if_false]
        have : List.drop (q.length + 1) (38 :: (q ++ esc r)) = esc r := by simp
        rw [this, ih k (by simp at hk; omega)]
        rfl
    · have hE : escB c = [c] := by
        unfold escB
        rw [if_neg (fun e => h (.inl e)), if_neg (fun e => h (.inr (.inl e))), if_neg (fun e => h (.inr (.inr (.inl e)))), if_neg (fun e => h (.inr (.inr (.inr e))))]
      rw [hE] at hk ⊢
      cases k with
      | zero => simp at hk
      | succ k =>
        show unescF (k + 1) (c :: esc r) = _
        rw [unescF, if_neg (fun e => h (.inr (by rcases e with e | e | e; exact .inl e; exact .inr (.inl e); exact .inr (.inr e)))), if_neg (fun e => h (.inl e)), ih k (by simp at hk; omega)]
        rfl
theorem unesc_esc (l : List UInt8) : unesc (esc l) = some l := unescF_esc l _ (Nat.le_refl _)
theorem esc_unescF : ∀ (k : Nat) (v u : List UInt8), v.length ≤ k → unescF k v = some u → esc u = v := by
  intro k
  induction k with
  | zero =>
    intro v u hv h
    cases v with
    | nil => simp [unescF] at h; subst h; rfl
    | cons c r => simp at hv
  | succ k ih =>
    intro v u hv h
    cases v with
    | nil => simp [unescF] at h; subst h; rfl
    | cons c r =>
      rw [unescF] at h
      by_cases h1 : c = 60 ∨ c = 62 ∨ c = 34
      · rw [if_pos h1] at h; cases h
      · rw [if_neg h1] at h
        by_cases h2 : c = 38
        · rw [if_pos h2] at h
          by_cases h3 : (repl (c :: r)).1 = 0
          · rw [if_pos h3] at h; cases h
          · rw [if_neg h3] at h
            obtain ⟨q, e1, e2⟩ := repl_some h3
            generalize hg : (repl (c :: r)).2 = d at *
            rw [e2, e1, List.drop_left] at h
            cases hq : unescF k q with
            | none => rw [hq] at h; cases h
            | some u' =>
              rw [hq] at h
              injection h with h
              subst h
              have hl : q.length ≤ k := by
                have := congrArg List.length e1
                have := escB_len d
                simp at this hv
                simp [List.length_append] at *
                omega
              rw [esc_cons, ih q u' hl hq, e1]
        · rw [if_neg h2] at h
          cases hq : unescF k r with
          | none => rw [hq] at h; cases h
          | some u' =>
            rw [hq] at h
            injection h with h
            subst h
            have hE : escB c = [c] := by
              unfold escB
              rw [if_neg h2, if_neg (fun e => h1 (.inl e)), if_neg (fun e => h1 (.inr (.inl e))), if_neg (fun e => h1 (.inr (.inr e)))]
            rw [esc_cons, hE, ih r u' (by simpa using hv) hq]
            rfl
theorem esc_unesc {v u : List UInt8} (h : unesc v = some u) : esc u = v := esc_unescF _ v u (Nat.le_refl _) h
end Go.Proofs.YtejjidbodfoiiaaGreatDoor
