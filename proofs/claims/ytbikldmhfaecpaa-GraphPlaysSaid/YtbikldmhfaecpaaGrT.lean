/-
  Layer 48 (graph): touch marks the rules that need a name.
-/
import Derived.Test.YtbikldmhfaecpaaGrN
import Derived.Deep.LoopGhost
import Derived.Deep.RegionLaw
import Derived.Deep.RegionHeld3
import Derived.Deep.Cut
import Derived.Deep.CutBlock
namespace Go.Proofs.Ytbikldmhfaecpaa
open Go.RowKit
set_option linter.unusedVariables false
set_option linter.unusedSimpArgs false
attribute [local go_sem] B_data B_size

theorem pushU_form (us : List Nm) : ∀ seen left : List Nm, ∃ new, pushU seen left us = (seen ++ new, left ++ new) ∧ (seen.Nodup → (seen ++ new).Nodup) ∧ ∀ x ∈ new, x ∈ us := by
  induction us with
  | nil => intro seen left; exact ⟨[], by simp [pushU], by simp, by simp⟩
  | cons u r ih =>
    intro seen left
    unfold pushU
    split
    · obtain ⟨new, h1, h2, h3⟩ := ih seen left
      exact ⟨new, h1, h2, fun x hx => List.mem_cons_of_mem _ (h3 x hx)⟩
    · rename_i hu
      obtain ⟨new, h1, h2, h3⟩ := ih (seen ++ [u]) (left ++ [u])
      refine ⟨u :: new, by rw [h1]; simp, fun hs => ?_, fun x hx => ?_⟩
      · have := h2 (by rw [List.nodup_append]; exact ⟨hs, by simp, fun a ha b hb => by simp at hb; subst hb; exact fun e => hu (e ▸ ha)⟩)
        simpa using this
      · rcases List.mem_cons.1 hx with rfl | hx
        · exact List.mem_cons_self
        · exact List.mem_cons_of_mem _ (h3 x hx)
theorem findR_map (g : RuleS → RuleS) (hg : ∀ r, (g r).name = r.name) (rs : List RuleS) (n : Nm) : findR (rs.map g) n = (findR rs n).map g := by
  induction rs with
  | nil => rfl
  | cons r q ih =>
    simp only [List.map_cons, findR, hg]
    split
    · rfl
    · exact ih
theorem markS_snoc (seen : List Nm) (u : Nm) (rs : List RuleS) : modR u (fun r => { r with stale := true }) (markS seen rs) = markS (seen ++ [u]) rs := by
  unfold modR markS
  rw [List.map_map]
  apply List.map_congr_left
  intro r _
  simp only [Function.comp]
  by_cases h1 : r.name ∈ seen <;> by_cases h2 : r.name = u <;> simp [h1, h2]
  all_goals (try (subst h2; simp_all))
theorem markS_find {seen : List Nm} {rs : List RuleS} {n : Nm} {r : RuleS} (h : findR rs n = some r) : ∃ r', findR (markS seen rs) n = some r' := by
  unfold markS
  rw [findR_map _ (fun r => by split <;> rfl), h]
  exact ⟨_, rfl⟩
theorem markS_nil (rs : List RuleS) : markS [] rs = rs := by simp [markS]
theorem users_map (g : RuleS → RuleS) (hg : ∀ r, (g r).name = r.name ∧ (g r).needs = r.needs) (rs : List RuleS) (n : Nm) : usersOf (rs.map g) n = usersOf rs n := by
  unfold usersOf
  rw [List.filter_map, List.map_map]
  have e1 : ((fun r : RuleS => r.needs.contains n) ∘ g) = fun r => r.needs.contains n := by funext r; simp [(hg r).2]
  have e2 : ((fun r : RuleS => r.name) ∘ g) = fun r => r.name := by funext r; simp [(hg r).1]
  rw [e1, e2]
theorem markS_users (seen : List Nm) (rs : List RuleS) (n : Nm) : usersOf (markS seen rs) n = usersOf rs n := users_map _ (fun r => by split <;> exact ⟨rfl, rfl⟩) rs n
theorem markS_len (seen : List Nm) (rs : List RuleS) : (markS seen rs).length = rs.length := by simp [markS]
theorem users_mem {rs : List RuleS} {n u : Nm} (h : u ∈ usersOf rs n) : u ∈ rs.map (·.name) := by
  unfold usersOf at h
  obtain ⟨r, hr, rfl⟩ := List.mem_map.1 h
  exact List.mem_map_of_mem (List.mem_filter.1 hr).1
theorem users_len (rs : List RuleS) (n : Nm) : (usersOf rs n).length ≤ rs.length := by
  unfold usersOf; rw [List.length_map]; exact List.length_filter_le _ _
theorem find_of_mem {rs : List RuleS} {u : Nm} (h : u ∈ rs.map (·.name)) : ∃ r, findR rs u = some r := by
  induction rs with
  | nil => cases h
  | cons a q ih =>
    unfold findR
    split
    · exact ⟨_, rfl⟩
    · rename_i hne
      rw [List.map_cons] at h
      rcases List.mem_cons.1 h with rfl | h
      · exact absurd rfl hne
      · exact ih h
theorem nodup_sub_len : ∀ (l m : List Nm), l.Nodup → (∀ x ∈ l, x ∈ m) → l.length ≤ m.length := by
  intro l
  induction l with
  | nil => intro m _ _; simp
  | cons a r ih =>
    intro m h hs
    rw [List.nodup_cons] at h
    have ha := hs a List.mem_cons_self
    have := ih (m.erase a) h.2 fun x hx => (List.mem_erase_of_ne (fun e : x = a => h.1 (e ▸ hx))).2 (hs x (List.mem_cons_of_mem _ hx))
    rw [List.length_erase_of_mem ha] at this
    have hp : 0 < m.length := List.length_pos_of_mem ha
    simp only [List.length_cons]; omega
theorem seen_len {seen : List Nm} {rs : List RuleS} (h : seen.Nodup) (hs : ∀ x ∈ seen, x ∈ rs.map (·.name)) : seen.length ≤ rs.length := by
  have := nodup_sub_len _ _ h hs
  rwa [List.length_map] at this
def seenM (S : List Nm) : List (Nm × Value) := S.map fun k => (k, .bool true)
theorem seenM_snoc (S : List Nm) (k : Nm) : seenM S ++ [(k, .bool true)] = seenM (S ++ [k]) := by simp [seenM]
theorem lookL_seen (S : List Nm) (k : Nm) : lookL k (seenM S) = if k ∈ S then some (.bool true) else none := by
  induction S with
  | nil => rfl
  | cons a r ih =>
    simp only [seenM, List.map_cons, lookL] at ih ⊢
    by_cases h : k = a
    · simp [h]
    · simp [h, ih]
theorem look_seen {w : World} {b : Nat} {S : List Nm} (h : SMap w b (seenM S)) (k : Nm) : (Instr.lookup 62 (.map (some b)) (.string (B k)) false).run Try.prog w = .ok (.bool (decide (k ∈ S))) w := by
  have := (SMap.look (T := 62) (K := 9) (E := 4) Try.underlying62 Try.underlying9 h k _ (zeroBO w)).1
  rw [lookL_seen] at this
  by_cases hk : k ∈ S
  · simpa [hk] using this
  · simpa [hk] using this
theorem putM_seen {S : List Nm} {k : Nm} (h : k ∉ S) : putM k (.bool true) (seenM S) = seenM (S ++ [k]) := by
  rw [putM_new (by rw [lookL_seen, if_neg h]), seenM_snoc]
theorem run_mkSet (w : World) : (Instr.makeMap 62 none).run Try.prog w = .ok (.map (some w.heap.size)) (w.alloc (.map #[] 0)) := rfl
/-- an own row made shorter -/
theorem own_take {w : World} {base : Nat} {e : TypeId} {A : Option Addr} {n c k : Nat} {xs : List Value} (h : w.ownsRow base e 1 (.slice A n c) n xs) (hk : k ≤ n) (h0 : 0 < n) : w.ownsRow base e 1 (.slice A k c) k (xs.take k) := by
  obtain ⟨h1, h2⟩ := h
  refine ⟨by rw [List.length_take, h1]; omega, ?_⟩
  rcases h2 with ⟨_, h2⟩ | ⟨g, cap, cur, e1, e2, e3, e4, e5, e6, e7⟩
  · omega
  · injection e1 with a1 a2 a3
    subst a1; subst a3
    exact .inr ⟨g, c, cur, rfl, e2, e3, by omega, e5, e6, by rw [← e7, List.take_take]; congr 1; omega⟩
theorem drop_cons {α : Type} {l : List α} {k : Nat} (h : k < l.length) : l.drop k = l[k] :: l.drop (k + 1) := List.drop_eq_getElem_cons h
theorem touchGo_nil (rs : List RuleS) (f : Nat) (seen : List Nm) : touchGo rs f seen [] = seen := by cases f <;> rfl
theorem touchGo_step (rs : List RuleS) (f : Nat) (seen left : List Nm) (n : Nm) : touchGo rs (f + 1) seen (left ++ [n]) = touchGo rs f (pushU seen left (usersOf rs n)).1 (pushU seen left (usersOf rs n)).2 := by
  simp [touchGo]
theorem strs_app (a b : List Nm) : strs (a ++ b) = strs a ++ strs b := by simp [strs]
theorem touch_round {rs : List RuleS} {g : Nat} {seen left seen1 left1 TX : List Nm} {x : Nm} (hT : touchGo rs g seen (left ++ [x]) = TX) (hK : 2 * (rs.length - seen.length) + (left ++ [x]).length ≤ g) (hS : seen.Nodup ∧ ∀ x ∈ seen, x ∈ rs.map (·.name)) (hp : pushU seen left (usersOf rs x) = (seen1, left1)) :
    ∃ m, g = m + 1 ∧ touchGo rs m seen1 left1 = TX ∧ 2 * (rs.length - seen1.length) + left1.length ≤ m ∧ (seen1.Nodup ∧ ∀ x ∈ seen1, x ∈ rs.map (·.name)) := by
  rw [List.length_append, List.length_singleton] at hK
  obtain ⟨m, rfl⟩ : ∃ m, g = m + 1 := ⟨g - 1, by omega⟩
  rw [touchGo_step, hp] at hT
  obtain ⟨new, h1, h2, h3⟩ := pushU_form (usersOf rs x) seen left
  rw [hp] at h1
  injection h1 with e1 e2
  subst e1; subst e2
  have hn : (seen ++ new).Nodup ∧ ∀ x ∈ seen ++ new, x ∈ rs.map (·.name) := ⟨h2 hS.1, fun y hy => by
    rcases List.mem_append.1 hy with hy | hy
    · exact hS.2 y hy
    · exact users_mem (h3 y hy)⟩
  have hl := seen_len hn.1 hn.2
  have hl0 := seen_len hS.1 hS.2
  rw [List.length_append] at hl
  refine ⟨m, rfl, hT, ?_, hn⟩
  rw [List.length_append, List.length_append]; omega
theorem RAt.c6 {own : Own} {id : Nat} {p : PtI} {r : RuleS} {w : World} (h : RAt own id p r w) : w.cell? ⟨p.p, 6, none⟩ = some (.bool r.stale) := by
  obtain ⟨_, _, _, h, _⟩ := h.cells; simp [World.cell?, h]
theorem RAt.c7 {own : Own} {id : Nat} {p : PtI} {r : RuleS} {w : World} (h : RAt own id p r w) : w.cell? ⟨p.p, 7, none⟩ = some (.bool r.busy) := by
  obtain ⟨_, _, _, h, _⟩ := h.cells; simp [World.cell?, h]
theorem RAt.c2 {own : Own} {id : Nat} {p : PtI} {r : RuleS} {w : World} (h : RAt own id p r w) : w.cell? ⟨p.p, 2, none⟩ = some (.bool r.called) := by
  obtain ⟨_, _, _, h, _⟩ := h.cells; simp [World.cell?, h]
theorem RAt.free {own : Own} {id : Nat} {p : PtI} {r : RuleS} {w : World} (h : RAt own id p r w) (i : Nat) : w.frozen? ⟨p.p, i, none⟩ = false := by
  obtain ⟨_, _, _, h, _⟩ := h.cells; simp [World.frozen?, h]
/-- a text of a slice of texts -/
theorem rd_get {w : World} {M n k : Nat} {A : Option Addr} {ls : List Nm} {x : Nm} (h : Rd w M 1 A n (strs ls)) (hk : ls[k]? = some x) :
    ∃ b o, A = some ⟨b, o, none⟩ ∧ b < M ∧ w.cell? ⟨b, o + k, none⟩ = some (.string (B x)) := by
  have hl := h.1
  rw [strs_len, Nat.mul_one] at hl
  have hkl := (List.getElem?_eq_some_iff.1 hk).1
  obtain ⟨ad, e, hb, hc⟩ := h.2 (by omega)
  obtain ⟨b, o, spot⟩ := ad
  have h0 := hc k (.string (B x)) (by unfold strs; simp [hk])
  have hx0 := hc 0 _ (List.getElem?_eq_getElem (by rw [strs_len]; omega))
  have hsp : spot = none := by simpa [Addr.add] using World.cell?_spot hx0
  subst hsp
  rw [addr_lit] at h0
  exact ⟨b, o, e, hb, h0⟩
theorem GW.none_of {own : Own} {id gb : Nat} {vm rm um : Option Nat} {pt : Nm → PtI} {S : GS} {U : Nm → List Nm} {w : World} (h : GW own id gb vm rm um pt S U w) {sb : Nat} (hs : ∀ b, sb ≤ b → own b = none) {b : Nat} (hb : Mine own id b) : b < sb := by
  rcases Nat.lt_or_ge b sb with h1 | h1
  · exact h1
  · obtain ⟨t, ht⟩ := hb
    rw [hs b h1] at ht; cases ht
end Go.Proofs.Ytbikldmhfaecpaa
