/-
  Layer 48 (graph): a graph that a law makes, through its calls.
-/
import Derived.Test.YtbikldmhfaecpaaGrL
namespace Go.Proofs.Ytbikldmhfaecpaa
open Go.RowKit
set_option linter.unusedVariables false
set_option linter.unusedSimpArgs false
attribute [local go_sem] B_data B_size

/-- a graph whose blocks lie above those of w0 -/
def GT (id gb : Nat) (S : GS) (w0 w : World) : Prop := ∃ own, Gr own id gb S w ∧ Below w0.heap.size w0 w ∧ ∀ b, Mine own id b → w0.heap.size ≤ b
theorem GT.b {id gb : Nat} {S : GS} {w0 w : World} (h : GT id gb S w0 w) : Below w0.heap.size w0 w := by obtain ⟨_, _, h, _⟩ := h; exact h
theorem GT.below {id gb : Nat} {S : GS} {w0 w w' : World} (h : GT id gb S w0 w) (hb : Below w.heap.size w w') : GT id gb S w0 w' := by
  obtain ⟨own, h1, h2, h3⟩ := h
  exact ⟨own, h1.below hb, h2.trans (hb.mono h2.size), h3⟩
theorem GPost.gt {own : Own} {id gb : Nat} {S S' : GS} {v : Value} {w0 w w' : World} {e : Ending} (h : GPost own id gb S' v w e w') (hb : Below w0.heap.size w0 w) (hm : ∀ b, Mine own id b → w0.heap.size ≤ b) : e = .returned v ∧ GT id gb S' w0 w' := by
  obtain ⟨h1, own', h2, h3, h4⟩ := h
  refine ⟨h1, own', h3, hb.trans (h4.below hb.size hm), fun b hm' => ?_⟩
  rcases Nat.lt_or_ge b w.heap.size with hl | hl
  · exact hm b ((h2.mine hl).1 hm')
  · have := hb.size; omega
theorem GT.new (id : Nat) {w0 w : World} (hb : Below w0.heap.size w0 w) : GT id w.heap.size GS.new w0 (w.alloc (.cells #[.map none, .map none, .map none, .int .i64 0, .int .i64 0] 49)) := by
  refine ⟨_, Gr.new (own := fun _ => none) w (fun _ _ => rfl), hb.alloc hb.size _, fun b hm => ?_⟩
  obtain ⟨t, ht⟩ := hm
  unfold tagO at ht
  split at ht
  · rename_i e; rw [e]; exact hb.size
  · cases ht
theorem GT.set {id gb R : Nat} {S : GS} {w0 w : World} (h : GT id gb S w0 w) (hi : GI R S) (hc : S.changes ≤ 1000000) (n v : Nm) :
    Calls Try.prog 13 #[.pointer (some ⟨gb, 0, none⟩), .string (B n), .string (B v)] w fun e w' => e = .returned (.int .i64 ((setX S n v).1 : Int)) ∧ GT id gb (setX S n v).2 w0 w' := by
  obtain ⟨own, h1, h2, h3⟩ := h
  exact (set_any n v w h1 hi hc).mono fun e w' hp => hp.gt (S := S) h2 h3
theorem GT.get {id gb R : Nat} {S : GS} {w0 w : World} (h : GT id gb S w0 w) (hi : GI R S) (hR : R ≤ 1000000) (n : Nm) :
    Calls Try.prog 17 #[.pointer (some ⟨gb, 0, none⟩), .string (B n)] w fun e w' => e = .returned (ResV (getX S n).2) ∧ GT id gb (getX S n).1 w0 w' := by
  obtain ⟨own, h1, h2, h3⟩ := h
  exact (get_any n w h1 hi hR).mono fun e w' hp => hp.gt (S := S) h2 h3
theorem GT.runs {id gb : Nat} {S : GS} {w0 w : World} (h : GT id gb S w0 w) :
    Calls Try.prog 19 #[.pointer (some ⟨gb, 0, none⟩)] w fun e w' => e = .returned (.int .i64 (S.runs : Int)) ∧ w' = w := by
  obtain ⟨own, h1, h2, h3⟩ := h
  exact runs_any w h1
theorem GT.stale {id gb R : Nat} {S : GS} {w0 w : World} (h : GT id gb S w0 w) (hi : GI R S) :
    Calls Try.prog 22 #[.pointer (some ⟨gb, 0, none⟩)] w fun e w' => ∃ A c, e = .returned (.slice A (staleX S).length c) ∧ w'.ownsRow w.heap.size 9 1 (.slice A (staleX S).length c) (staleX S).length (strs (staleX S)) ∧ Below w.heap.size w w' ∧ GT id gb S w0 w' := by
  have h0 := h
  obtain ⟨own, h1, h2, h3⟩ := h
  refine (stale_any w h1 (by have := hi.size; omega)).mono ?_
  rintro e w' ⟨v, rfl, ho, hb⟩
  obtain ⟨A, c, rfl, _⟩ := own_form ho
  exact ⟨A, c, rfl, ho, hb, h0.below hb⟩
/-- an argument of texts that lies below w0, or was just laid -/
theorem GT.rule {id gb R m c : Nat} {S : GS} {w0 w : World} {A : Option Addr} {needs : List Nm} (h : GT id gb S w0 w) (hi : GI R S) (hc : S.changes ≤ 1000000) (n : Nm) (fo : Option Nat) (hr : Rd w w.heap.size 1 A m (strs needs)) (hA : ∀ ad, A = some ad → ad.block < w0.heap.size) (hm : m ≤ 1000000) (hmc : m ≤ c) :
    Calls Try.prog 24 #[.pointer (some ⟨gb, 0, none⟩), .string (B n), .slice A m c, fnO fo] w fun e w' => e = .returned (.int .i64 ((ruleX S n needs fo).1 : Int)) ∧ GT id gb (ruleX S n needs fo).2 w0 w' := by
  obtain ⟨own, h1, h2, h3⟩ := h
  exact (rule_any n needs fo A m c w h1 hi hc ⟨hr, fun ad e _ hmi => by have := hA ad e; have := h3 _ hmi; omega, hmc⟩ hm).mono fun e w' hp => hp.gt (S := S) h2 h3
theorem GT.ruleLit {id gb R m : Nat} {S : GS} {w0 w : World} {needs : List Nm} (h : GT id gb S w0 w) (hi : GI R S) (hc : S.changes ≤ 1000000) (n : Nm) (fo : Option Nat) (C : Array Value) (hC : C.toList = strs needs) (hl : needs.length = m) (hm : m ≤ 1000000) :
    Calls Try.prog 24 #[.pointer (some ⟨gb, 0, none⟩), .string (B n), .slice (some ⟨w.heap.size, 0, none⟩) m m, fnO fo] (w.alloc (.cells C 9)) fun e w' => e = .returned (.int .i64 ((ruleX S n needs fo).1 : Int)) ∧ GT id gb (ruleX S n needs fo).2 w0 w' := by
  obtain ⟨own, h1, h2, h3⟩ := h
  have hr : Rd (w.alloc (.cells C 9)) (w.alloc (.cells C 9)).heap.size 1 (some ⟨w.heap.size, 0, none⟩) m (strs needs) := by
    refine ⟨by rw [strs_len, hl, Nat.mul_one], fun _ => ⟨_, rfl, by simp, fun j u hj => ?_⟩⟩
    rw [addr_lit, cell_of_row _ w.heap.size _ C 9 (0, 0) (heap_alloc_new w _)]
    rw [← hC] at hj
    simpa using hj
  have hf := h1.fr
  have hb := below_alloc w (.cells C 9)
  exact (rule_any n needs fo _ m m _ (h1.below hb) hi hc ⟨hr, (fun ad e _ hmi => by
    injection e with e; subst e
    obtain ⟨t, ht⟩ := hmi
    rw [hf w.heap.size (Nat.le_refl _)] at ht; cases ht), Nat.le_refl _⟩ hm).mono fun e w' hp => hp.gt (S := S) (h2.trans (hb.mono h2.size)) h3
theorem getV_put {n v : Nm} {vs : List (Nm × Nm)} (m : Nm) : getV (putV n v vs) m = if m = n then some v else getV vs m := by
  induction vs with
  | nil => simp [putV, getV]
  | cons p r ih =>
    unfold putV
    split
    · rename_i h
      simp only [getV]
      by_cases hm : m = n <;> simp [hm, h]
      subst h; simp [hm]
    · rename_i h
      simp only [getV, ih]
      by_cases hm : m = n
      · subst hm; simp [h]
      · simp [hm]
theorem putV_len (n v : Nm) (vs : List (Nm × Nm)) : (putV n v vs).length = if (getV vs n).isSome then vs.length else vs.length + 1 := by
  induction vs with
  | nil => rfl
  | cons p r ih =>
    unfold putV getV
    split
    · simp
    · simp only [List.length_cons, ih]
      split <;> rfl
theorem mark_gi {R : Nat} {S : GS} (h : GI R S) (n : Nm) : GI R (touchX S n) := by
  have hm : ∀ r ∈ (touchX S n).rules, ∃ q ∈ S.rules, r.name = q.name ∧ r.val = q.val ∧ r.busy = q.busy ∧ r.needs = q.needs := fun r hr => by
    unfold touchX markS at hr
    obtain ⟨q, hq, rfl⟩ := List.mem_map.1 hr
    exact ⟨q, hq, by split <;> exact ⟨rfl, rfl, rfl, rfl⟩⟩
  have hn : (touchX S n).rules.map (·.name) = S.rules.map (·.name) := by
    unfold touchX markS
    simp only [List.map_map]
    apply List.map_congr_left
    intro r _
    simp only [Function.comp]
    split <;> rfl
  refine ⟨h.vals, fun r hr => ?_, by rw [hn]; exact h.nm, fun r hr => ?_, fun r hr => ?_, ?_, h.runs⟩
  · obtain ⟨q, hq, _, e, _⟩ := hm r hr; rw [e]; exact h.rv q hq
  · obtain ⟨q, hq, _, _, e, _⟩ := hm r hr; rw [e]; exact h.nb q hq
  · obtain ⟨q, hq, _, _, _, e⟩ := hm r hr; rw [e]; exact h.needs q hq
  · have : (touchX S n).rules.length = S.rules.length := by have := congrArg List.length hn; simpa using this
    rw [this]; exact h.size
/-- Set keeps a graph sound -/
theorem setX_gi {R : Nat} {S : GS} (h : GI R S) (n v : Nm) (hv : v.length ≤ 1000) : GI R (setX S n v).2 ∧ (setX S n v).2.changes ≤ S.changes + 1 := by
  have hp : ∀ (hs : (putV n v S.vals).length + S.rules.length ≤ 1024), GI R (touchX { S with vals := putV n v S.vals } n) := fun hs =>
    mark_gi (S := { S with vals := putV n v S.vals }) ⟨fun m x hx => by
      have hx : getV (putV n v S.vals) m = some x := hx
      rw [getV_put] at hx
      split at hx
      · injection hx with hx; rw [← hx]; exact hv
      · exact h.vals m x hx, h.rv, h.nm, h.nb, h.needs, hs, h.runs⟩ n
  unfold setX
  split
  · exact ⟨h, Nat.le_succ _⟩
  · split
    · exact ⟨h, Nat.le_succ _⟩
    · cases hg : getV S.vals n with
      | none =>
        simp only
        split
        · exact ⟨h, Nat.le_succ _⟩
        · exact ⟨hp (by rw [putV_len, hg]; simp; omega), Nat.le_refl _⟩
      | some o =>
        simp only
        split
        · exact ⟨h, Nat.le_succ _⟩
        · exact ⟨hp (by rw [putV_len, hg]; simpa using h.size), Nat.le_refl _⟩
/-- Rule keeps a graph sound -/
theorem ruleX_gi {R : Nat} {S : GS} (h : GI R S) (n : Nm) (needs : List Nm) (fo : Option Nat) : GI R (ruleX S n needs fo).2 ∧ (ruleX S n needs fo).2.changes ≤ S.changes + 1 := by
  unfold ruleX
  split
  · exact ⟨h, Nat.le_succ _⟩
  · split
    · exact ⟨h, Nat.le_succ _⟩
    · cases fo with
      | none => exact ⟨h, Nat.le_succ _⟩
      | some f =>
        simp only
        split
        · exact ⟨h, Nat.le_succ _⟩
        · split
          · exact ⟨h, Nat.le_succ _⟩
          · rename_i hr
            split
            · exact ⟨h, Nat.le_succ _⟩
            · split
              · exact ⟨h, Nat.le_succ _⟩
              · rename_i hl hs
                have hn : findR S.rules n = none := by
                  cases hf : findR S.rules n with
                  | none => rfl
                  | some r => rw [hf] at hr; exact absurd rfl hr
                refine ⟨mark_gi (S := { S with rules := S.rules ++ [⟨n, needs, f, false, [], [], 0, true, false⟩] }) ⟨h.vals, fun r hr => ?_, ?_, fun r hr => ?_, fun r hr => ?_, ?_, h.runs⟩ n, Nat.le_refl _⟩
                · rcases List.mem_append.1 hr with hr | hr
                  · exact h.rv r hr
                  · rw [List.mem_singleton] at hr; subst hr; simp
                · simp only [List.map_append, List.map_cons, List.map_nil]
                  rw [List.nodup_append]
                  exact ⟨h.nm, by simp, fun a ha b hb => by
                    simp at hb; subst hb
                    obtain ⟨q, hq, rfl⟩ := List.mem_map.1 ha
                    exact findR_none hn q hq⟩
                · rcases List.mem_append.1 hr with hr | hr
                  · exact h.nb r hr
                  · rw [List.mem_singleton] at hr; subst hr; rfl
                · rcases List.mem_append.1 hr with hr | hr
                  · exact h.needs r hr
                  · rw [List.mem_singleton] at hr; subst hr; simp only; omega
                · simp only [List.length_append, List.length_singleton]; omega
end Go.Proofs.Ytbikldmhfaecpaa
