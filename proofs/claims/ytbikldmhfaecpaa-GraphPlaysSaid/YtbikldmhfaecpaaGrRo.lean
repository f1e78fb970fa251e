/-
  Layer 48 (graph), plain: the reference's Set and Rule are the program's.
-/
import Derived.Test.YtbikldmhfaecpaaGrRj
import Derived.Test.YtbikldmhfaecpaaGrFr
namespace Go.Proofs.Ytbikldmhfaecpaa
set_option linter.unusedVariables false
set_option linter.unusedSimpArgs false

/-- two graphs that differ at most in how often they were changed -/
def SameG (S T : GS) : Prop := T.vals = S.vals ∧ T.rules = S.rules ∧ T.runs = S.runs
theorem absV_snoc (L : List VM) (v : VM) : absV (L ++ [v]) = if v.rule = true then absV L else absV L ++ [(v.nm, v.vl)] := by
  unfold absV; rw [List.filter_append, List.map_append]
  cases h : v.rule <;> simp [h]
theorem absR_snoc (L : List VM) (v : VM) : absR (L ++ [v]) = if v.rule = true then absR L ++ [toR v] else absR L := by
  unfold absR; rw [List.filter_append, List.map_append]
  cases h : v.rule <;> simp [h]
theorem abs_len (L : List VM) : (absV L).length + (absR L).length = L.length := by
  unfold absV absR
  rw [List.length_map, List.length_map]
  induction L with
  | nil => rfl
  | cons a r ih => rw [List.filter_cons, List.filter_cons]; cases a.rule <;> simp <;> omega
/-- rules that need a name, directly or through others -/
inductive DepR (rs : List RuleS) (n : Nm) : Nm → Prop
  | one {r : RuleS} : r ∈ rs → n ∈ r.needs → DepR rs n r.name
  | more {r : RuleS} {m : Nm} : r ∈ rs → DepR rs n m → m ∈ r.needs → DepR rs n r.name
theorem mem_users {rs : List RuleS} {x u : Nm} : u ∈ usersOf rs x ↔ ∃ r ∈ rs, x ∈ r.needs ∧ r.name = u := by
  unfold usersOf
  rw [List.mem_map]
  constructor
  · rintro ⟨r, hr, rfl⟩
    obtain ⟨h1, h2⟩ := List.mem_filter.1 hr
    exact ⟨r, h1, by simpa using h2, rfl⟩
  · rintro ⟨r, hr, hx, rfl⟩
    exact ⟨r, List.mem_filter.2 ⟨hr, by simpa using hx⟩, rfl⟩
theorem pushU_sub : ∀ (l seen left : List Nm), (∀ x ∈ seen, x ∈ (pushU seen left l).1) ∧ (∀ x ∈ left, x ∈ (pushU seen left l).2) ∧ (∀ x ∈ (pushU seen left l).1, x ∈ seen ∨ (x ∈ l ∧ x ∈ (pushU seen left l).2)) ∧ (∀ x ∈ l, x ∈ (pushU seen left l).1) ∧ (∀ x ∈ (pushU seen left l).2, x ∈ left ∨ x ∈ l)
  | [], seen, left => ⟨fun _ h => h, fun _ h => h, fun _ h => .inl h, by simp, fun _ h => .inl h⟩
  | u :: l, seen, left => by
    unfold pushU
    by_cases h : u ∈ seen
    · rw [if_pos h]
      obtain ⟨a1, a2, a3, a4, a5⟩ := pushU_sub l seen left
      exact ⟨a1, a2, fun x hx => by
        rcases a3 x hx with h | ⟨h1, h2⟩
        · exact .inl h
        · exact .inr ⟨List.mem_cons_of_mem _ h1, h2⟩, fun x hx => by
        rcases List.mem_cons.1 hx with rfl | hx
        · exact a1 _ h
        · exact a4 x hx, fun x hx => by
        rcases a5 x hx with h | h
        · exact .inl h
        · exact .inr (List.mem_cons_of_mem _ h)⟩
    · rw [if_neg h]
      obtain ⟨a1, a2, a3, a4, a5⟩ := pushU_sub l (seen ++ [u]) (left ++ [u])
      exact ⟨fun x hx => a1 x (List.mem_append_left _ hx), fun x hx => a2 x (List.mem_append_left _ hx), fun x hx => by
        rcases a3 x hx with h | ⟨h1, h2⟩
        · rcases List.mem_append.1 h with h | h
          · exact .inl h
          · rw [List.mem_singleton] at h; subst h
            exact .inr ⟨List.mem_cons_self, a2 _ (by simp)⟩
        · exact .inr ⟨List.mem_cons_of_mem _ h1, h2⟩, fun x hx => by
        rcases List.mem_cons.1 hx with rfl | hx
        · exact a1 _ (by simp)
        · exact a4 x hx, fun x hx => by
        rcases a5 x hx with h | h
        · rcases List.mem_append.1 h with h | h
          · exact .inl h
          · rw [List.mem_singleton] at h; subst h; exact .inr List.mem_cons_self
        · exact .inr (List.mem_cons_of_mem _ h)⟩
/-- what touch sees: the rules that need the name -/
theorem touchGo_dep {rs : List RuleS} {n : Nm} : ∀ (f : Nat) (seen left TX : List Nm), touchGo rs f seen left = TX → 2 * (rs.length - seen.length) + left.length ≤ f → (seen.Nodup ∧ ∀ x ∈ seen, x ∈ rs.map (·.name)) →
    (∀ x ∈ seen, DepR rs n x) → (∀ x ∈ left, x = n ∨ DepR rs n x) → (∀ x, (x = n ∨ x ∈ seen) → x ∈ left ∨ ∀ u ∈ usersOf rs x, u ∈ seen) → ∀ x, x ∈ TX ↔ DepR rs n x
  | 0, seen, left, TX, hT, hK, _, h1, h2, h3 => by
    have hl : left = [] := by cases left with
      | nil => rfl
      | cons a r => simp at hK
    subst hl
    have hT : seen = TX := hT
    subst hT
    intro x
    refine ⟨h1 x, fun hx => ?_⟩
    have key : ∀ y, (y = n ∨ y ∈ seen) → ∀ u ∈ usersOf rs y, u ∈ seen := fun y hy => by
      rcases h3 y hy with h | h
      · cases h
      · exact h
    induction hx with
    | one hr hn => exact key n (.inl rfl) _ (mem_users.2 ⟨_, hr, hn, rfl⟩)
    | more hr _ hm ih => exact key _ (.inr ih) _ (mem_users.2 ⟨_, hr, hm, rfl⟩)
  | f + 1, seen, left, TX, hT, hK, hs, h1, h2, h3 => by
    rcases List.eq_nil_or_concat left with rfl | ⟨left', y, rfl⟩
    · have hT : seen = TX := by rw [← hT, touchGo_nil]
      subst hT
      intro x
      refine ⟨h1 x, fun hx => ?_⟩
      have key : ∀ y, (y = n ∨ y ∈ seen) → ∀ u ∈ usersOf rs y, u ∈ seen := fun y hy => by
        rcases h3 y hy with h | h
        · cases h
        · exact h
      induction hx with
      | one hr hn => exact key n (.inl rfl) _ (mem_users.2 ⟨_, hr, hn, rfl⟩)
      | more hr _ hm ih => exact key _ (.inr ih) _ (mem_users.2 ⟨_, hr, hm, rfl⟩)
    · rw [List.concat_eq_append] at *
      obtain ⟨a1, a2, a3, a4, a5⟩ := pushU_sub (usersOf rs y) seen left'
      obtain ⟨m, hm, hT2, hK2, hs2⟩ := touch_round (seen1 := (pushU seen left' (usersOf rs y)).1) (left1 := (pushU seen left' (usersOf rs y)).2) hT hK hs rfl
      obtain rfl : f = m := by omega
      have hy := h2 y (by simp)
      have hdep : ∀ u ∈ usersOf rs y, DepR rs n u := fun u hu => by
        obtain ⟨r, hr, hx, rfl⟩ := mem_users.1 hu
        rcases hy with e | e
        · subst e; exact .one hr hx
        · exact .more hr e hx
      refine touchGo_dep f _ _ TX hT2 hK2 hs2 (fun x hx => ?_) (fun x hx => ?_) (fun x hx => ?_)
      · rcases a3 x hx with h | ⟨h, _⟩
        · exact h1 x h
        · exact hdep x h
      · rcases a5 x hx with h | h
        · exact h2 x (List.mem_append_left _ h)
        · exact .inr (hdep x h)
      · by_cases hxy : x = y
        · subst hxy
          exact .inr a4
        · have hold : (x = n ∨ x ∈ seen) ∨ (x ∈ (pushU seen left' (usersOf rs y)).2) := by
            rcases hx with h | h
            · exact .inl (.inl h)
            · rcases a3 x h with h | ⟨_, h⟩
              · exact .inl (.inr h)
              · exact .inr h
          rcases hold with h | h
          · rcases h3 x h with h | h
            · rcases List.mem_append.1 h with h | h
              · exact .inl (a2 x h)
              · rw [List.mem_singleton] at h; exact absurd h hxy
            · exact .inr (fun u hu => a1 u (h u hu))
          · exact .inl h
theorem touch_dep (rs : List RuleS) (n : Nm) (x : Nm) : x ∈ touchGo rs (2 * rs.length + 1) [] [n] ↔ DepR rs n x :=
  touchGo_dep (2 * rs.length + 1) [] [n] _ rfl (by simp) ⟨by simp, by simp⟩ (by simp) (fun x hx => .inl (by simpa using hx)) (fun x hx => by
    rcases hx with h | h
    · exact .inl (by simp [h])
    · cases h) x
end Go.Proofs.Ytbikldmhfaecpaa
