/-
  Layer 48 (graph): what a store makes of a graph in memory; look-ups in its maps; its size.
-/
import Derived.Test.YtbikldmhfaecpaaGrM
namespace Go.Proofs.Ytbikldmhfaecpaa
open Go.RowKit
set_option linter.unusedVariables false
set_option linter.unusedSimpArgs false
attribute [local go_sem] B_data B_size

theorem wpList_put {P : Program} {w : World} {ops : Array Oper} {rest : List Oper} {o : Oper} {a : Act} {Q : Exit → Act → World → Prop} (hgd : o.guard = none) (T K E : TypeId) (m k v : Operand) (ho : o.op = .mapUpdate T m k v)
    (hT : P.underlying T = some (.map K E)) (hK : P.underlying K = some .string) (b : Nat) (kvs : List (List UInt8 × Value)) (hs : SMap w b kvs) (hm : a.eval m = .map (some b)) (kl : List UInt8) (hk : a.eval k = .string (B kl)) (val : Value) (hv : a.eval v = val)
    (h : ∀ w', SMap w' b (putM kl val kvs) → w.grownBy w' (some b) → wpList P ops Q rest (a.put o.dst undef) w') :
    wpList P ops Q (o :: rest) a w := by
  refine wpList_plain hgd fun K' hK' => ?_
  obtain ⟨w', hrun, r1, r2⟩ := SMap.store hT hK hs kl val
  unfold Oper.wp
  simp [execOp, ho, hm, hk, hv, hrun, Result.andThen]
  exact hK' _ _ (h w' r1 r2)
theorem zeroPR (w : World) : (zeroValue 54).run Try.prog w = .ok (.pointer none) w := by kernel_rfl
theorem zeroST (w : World) : (zeroValue 9).run Try.prog w = .ok (.string ⟨#[]⟩) w := by kernel_rfl
theorem zeroBO (w : World) : (zeroValue 4).run Try.prog w = .ok (.bool false) w := by kernel_rfl
theorem zeroSS (w : World) : (zeroValue 29).run Try.prog w = .ok (.slice none 0 0) w := by kernel_rfl
theorem zeroRE (w : World) : (zeroValue 67).run Try.prog w = .ok (.agg #[.string ⟨#[]⟩, .int .i64 0]) w := by kernel_rfl
section
variable {own : Own} {id gb : Nat} {vm rm um : Option Nat} {pt : Nm → PtI} {S : GS} {U : Nm → List Nm} {w w' : World}
theorem GW.lookR_some (h : GW own id gb vm rm um pt S U w) {n : Nm} {r : RuleS} (hr : findR S.rules n = some r) : (Instr.lookup 46 (.map rm) (.string (B n)) false).run Try.prog w = .ok (.pointer (some ⟨(pt n).p, 0, none⟩)) w := by
  cases hm : rm with
  | none => rw [h.r0 hm] at hr; cases hr
  | some b =>
    have := (SMap.look (T := 46) (K := 9) (E := 54) Try.underlying46 Try.underlying9 (h.r1 b hm).2 n _ (zeroPR w)).1
    rwa [lookL_rkv, hr] at this
theorem GW.lookR_none (h : GW own id gb vm rm um pt S U w) {n : Nm} (hr : findR S.rules n = none) : (Instr.lookup 46 (.map rm) (.string (B n)) false).run Try.prog w = .ok (.pointer none) w := by
  cases hm : rm with
  | none => exact (SMap.look_nil (T := 46) (K := 9) (E := 54) Try.underlying46 Try.underlying9 w n _ (zeroPR w)).1
  | some b =>
    have := (SMap.look (T := 46) (K := 9) (E := 54) Try.underlying46 Try.underlying9 (h.r1 b hm).2 n _ (zeroPR w)).1
    rwa [lookL_rkv, hr] at this
theorem GW.lookV (h : GW own id gb vm rm um pt S U w) (n : Nm) : (Instr.lookup 45 (.map vm) (.string (B n)) true).run Try.prog w = .ok (.tuple #[.string (B ((getV S.vals n).getD [])), .bool (getV S.vals n).isSome]) w := by
  cases hm : vm with
  | none =>
    rw [h.v0 hm]
    exact (SMap.look_nil (T := 45) (K := 9) (E := 9) Try.underlying45 Try.underlying9 w n _ (zeroST w)).2
  | some b =>
    have := (SMap.look (T := 45) (K := 9) (E := 9) Try.underlying45 Try.underlying9 (h.v1 b hm).2 n _ (zeroST w)).2
    rw [lookL_vkv] at this
    cases hv : getV S.vals n with
    | none => rw [hv] at this; exact this
    | some v => rw [hv] at this; exact this
/-- the users of a name -/
theorem GW.users (h : GW own id gb vm rm um pt S U w) (n : Nm) : ∃ A c, (Instr.lookup 47 (.map um) (.string (B n)) false).run Try.prog w = .ok (.slice A (U n).length c) w ∧ Rdo own id (.user n) w A (U n).length (U n) ∧
    ∀ ub, um = some ub → own ub = some (id, .users) ∧ ∃ kv, SMap w ub kv ∧ UAt own id U kv w ∧ w.ownsRow 0 9 1 (.slice A (U n).length c) (U n).length (strs (U n)) ∧ ∀ b, (Value.slice A (U n).length c).ownBlock = some b → own b = some (id, .user n) := by
  cases hm : um with
  | none =>
    have e := h.u0 hm n
    refine ⟨none, 0, ?_, ?_, fun ub e => by cases e⟩
    · rw [e]; exact (SMap.look_nil (T := 47) (K := 9) (E := 29) Try.underlying47 Try.underlying9 w n _ (zeroSS w)).1
    · rw [e]; exact ⟨Rd.nil, fun ad e => by cases e⟩
  | some b =>
    obtain ⟨ht, kv, hs, hu⟩ := h.u1 b hm
    have L := (SMap.look (T := 47) (K := 9) (E := 29) Try.underlying47 Try.underlying9 hs n _ (zeroSS w)).1
    rcases hu n with ⟨h1, h2⟩ | ⟨v, h1, h2, h3⟩
    · refine ⟨none, 0, ?_, ?_, fun ub e => ?_⟩
      · rw [h2]; rw [h1] at L; exact L
      · rw [h2]; exact ⟨Rd.nil, fun ad e => by cases e⟩
      · injection e with e; subst e
        exact ⟨ht, kv, hs, hu, by rw [h2]; exact ⟨rfl, .inl ⟨rfl, rfl⟩⟩, fun b e => by cases e⟩
    · obtain ⟨A, c, rfl, hc⟩ := own_form h2
      refine ⟨A, c, by rw [h1] at L; exact L, ⟨Rd.of_own h2, fun ad e hn => ?_⟩, fun ub e => ?_⟩
      · subst e; exact h3 _ rfl
      · injection e with e; subst e
        exact ⟨ht, kv, hs, hu, h2, h3⟩
theorem Rdo.keepT {t : Tag} {A : Option Addr} {n : Nat} {xs : List Nm} (h : Rdo own id t w A n xs) (hk : ∀ b, own b = some (id, t) → w'.heap[b]? = w.heap[b]?) (hs : w.heap.size ≤ w'.heap.size) : Rdo own id t w' A n xs := by
  obtain ⟨⟨h1, h2⟩, h3⟩ := h
  refine ⟨⟨h1, fun hn => ?_⟩, h3⟩
  obtain ⟨ad, e, hb, hc⟩ := h2 hn
  exact ⟨ad, e, Nat.lt_of_lt_of_le hb hs, fun j u hj => (World.cell?_of_block (w := w) (a := ad.add j) (by rw [show (ad.add j).block = ad.block from by unfold Addr.add; split <;> rfl]; exact hk _ (h3 ad e hn))).trans (hc j u hj)⟩
theorem RAt.keepT {p : PtI} {r : RuleS} (h : RAt own id p r w) (hk : ∀ b t, own b = some (id, t) → t = .rule r.name ∨ t = .needs r.name ∨ t = .inn r.name → w'.heap[b]? = w.heap[b]?) (hs : w.heap.size ≤ w'.heap.size) : RAt own id p r w' := by
  obtain ⟨iA, im, ic, h1, h2, h3, h4⟩ := h.cells
  exact ⟨h.tag, iA, im, ic, (hk _ _ h.tag (.inl rfl)).trans h1, h2.keepT (fun b e => hk b _ e (.inr (.inl rfl))) hs, h3, h4.keepT (fun b e => hk b _ e (.inr (.inr rfl))) hs⟩
/-- the graph's own cells are others -/
theorem GW.hset (h : GW own id gb vm rm um pt S U w) (S' : GS) (hv : S'.vals = S.vals) (hr : S'.rules = S.rules) (hh : w'.heap[gb]? = some (.cells #[.map vm, .map rm, .map um, .int .i64 (S'.runs : Int), .int .i64 (S'.changes : Int)] 49 (0, 0)))
    (hk : ∀ b, b ≠ gb → w'.heap[b]? = w.heap[b]?) (hs : w.heap.size ≤ w'.heap.size) : GW own id gb vm rm um pt S' U w' := by
  have k : ∀ b t, own b = some (id, t) → t ≠ .g → w'.heap[b]? = w.heap[b]? := fun b t e ht => hk b fun e' => by subst e'; rw [h.gt] at e; injection e with e; injection e with _ e; exact ht e.symm
  refine ⟨h.gt, hh, fun e => by rw [hv]; exact h.v0 e, fun b e => ?_, fun e => by rw [hr]; exact h.r0 e, fun b e => ?_, h.ru, h.u0, fun b e => ?_, fun r hr' => ?_, by rw [hr]; exact h.nd, fun b hb => h.fr b (Nat.le_trans hs hb)⟩
  · rw [hv]; exact ⟨(h.v1 b e).1, (h.v1 b e).2.of_block (k b _ (h.v1 b e).1 (by simp))⟩
  · rw [hr]; exact ⟨(h.r1 b e).1, (h.r1 b e).2.of_block (k b _ (h.r1 b e).1 (by simp))⟩
  · obtain ⟨h1, kv, h2, h3⟩ := h.u1 b e
    refine ⟨h1, kv, h2.of_block (k b _ h1 (by simp)), fun n => ?_⟩
    rcases h3 n with h0 | ⟨v, g1, g2, g3⟩
    · exact .inl h0
    · exact .inr ⟨v, g1, own_keep g2 fun b hb => k b _ (g3 b hb) (by simp), g3⟩
  · rw [hr] at hr'
    exact (h.rs r hr').keepT (fun b t e ht => k b t e (by rcases ht with rfl | rfl | rfl <;> simp)) hs
theorem GW.changed (h : GW own id gb vm rm um pt S U w) (c : Nat) : GW own id gb vm rm um pt { S with changes := c } U (w.setCell ⟨gb, 4, none⟩ (.int .i64 (c : Int))) :=
  h.hset _ rfl rfl (by simp [World.setCell, Array.getElem?_modify, h.head]) (fun b hb => Below.heap_setCell w _ _ b hb) (by simp [World.setCell])
theorem GW.ran (h : GW own id gb vm rm um pt S U w) (c : Nat) : GW own id gb vm rm um pt { S with runs := c } U (w.setCell ⟨gb, 3, none⟩ (.int .i64 (c : Int))) :=
  h.hset _ rfl rfl (by simp [World.setCell, Array.getElem?_modify, h.head]) (fun b hb => Below.heap_setCell w _ _ b hb) (by simp [World.setCell])
/-- one rule is another one -/
theorem GW.rset (h : GW own id gb vm rm um pt S U w) {n : Nm} {r : RuleS} (hr : findR S.rules n = some r) (g : RuleS → RuleS) (hg : ∀ r, (g r).name = r.name) (hat : RAt own id (pt n) (g r) w')
    (hk : ∀ b t, own b = some (id, t) → t ≠ .rule n → w'.heap[b]? = w.heap[b]?) (hs : w.heap.size ≤ w'.heap.size) : GW own id gb vm rm um pt { S with rules := modR n g S.rules } U w' := by
  have hnm : (modR n g S.rules).map (·.name) = S.rules.map (·.name) := by
    unfold modR; rw [List.map_map]; apply List.map_congr_left; intro r _; simp only [Function.comp]; split <;> simp [hg]
  have hkv : rkv pt (modR n g S.rules) = rkv pt S.rules := by
    unfold rkv modR; rw [List.map_map]; apply List.map_congr_left; intro r _; simp only [Function.comp]; split <;> simp [hg]
  refine ⟨h.gt, (hk gb _ h.gt (by simp)).trans h.head, h.v0, fun b e => ?_, fun e => by simp [h.r0 e, modR], fun b e => ?_, h.ru, h.u0, fun b e => ?_, fun r' hr' => ?_, by rw [hnm]; exact h.nd, fun b hb => h.fr b (Nat.le_trans hs hb)⟩
  · exact ⟨(h.v1 b e).1, (h.v1 b e).2.of_block (hk b _ (h.v1 b e).1 (by simp))⟩
  · rw [hkv]; exact ⟨(h.r1 b e).1, (h.r1 b e).2.of_block (hk b _ (h.r1 b e).1 (by simp))⟩
  · obtain ⟨h1, kv, h2, h3⟩ := h.u1 b e
    refine ⟨h1, kv, h2.of_block (hk b _ h1 (by simp)), fun n => ?_⟩
    rcases h3 n with h0 | ⟨v, g1, g2, g3⟩
    · exact .inl h0
    · exact .inr ⟨v, g1, own_keep g2 fun b hb => hk b _ (g3 b hb) (by simp), g3⟩
  · obtain ⟨q, hq, rfl⟩ := List.mem_map.1 hr'
    by_cases hqn : q.name = n
    · have := findR_of h.nd hq
      rw [hqn, hr] at this
      injection this with this
      subst this
      simp only [hqn, if_true, hg]
      exact hat
    · simp only [if_neg hqn]
      exact (h.rs q hq).keepT (fun b t e ht => hk b t e (by rcases ht with rfl | rfl | rfl <;> simp [hqn])) hs
theorem RAt.only {p : PtI} {r : RuleS} {n : Nm} (h : RAt own id p r w) (hn : r.name = n) (i : Nat) (u : Value) : ∀ b t, own b = some (id, t) → t ≠ .rule n → (w.setCell ⟨p.p, i, none⟩ u).heap[b]? = w.heap[b]? := fun b t e ht =>
  Below.heap_setCell w _ _ b fun e' => by have e' : b = p.p := e'; subst e'; rw [h.tag] at e; injection e with e; injection e with _ e; exact ht (by rw [← e, hn])
theorem RAt.stale {p : PtI} {r : RuleS} (h : RAt own id p r w) (u : Bool) : RAt own id p { r with stale := u } (w.setCell ⟨p.p, 6, none⟩ (.bool u)) := by
  obtain ⟨iA, im, ic, h1, h2, h3, h4⟩ := h.cells
  exact ⟨h.tag, iA, im, ic, by simp [World.setCell, Array.getElem?_modify, h1], h2.keepT (fun b e => h.only rfl 6 _ b _ e (by simp)) (by simp [World.setCell]), h3, h4.keepT (fun b e => h.only rfl 6 _ b _ e (by simp)) (by simp [World.setCell])⟩
theorem RAt.busy {p : PtI} {r : RuleS} (h : RAt own id p r w) (u : Bool) : RAt own id p { r with busy := u } (w.setCell ⟨p.p, 7, none⟩ (.bool u)) := by
  obtain ⟨iA, im, ic, h1, h2, h3, h4⟩ := h.cells
  exact ⟨h.tag, iA, im, ic, by simp [World.setCell, Array.getElem?_modify, h1], h2.keepT (fun b e => h.only rfl 7 _ b _ e (by simp)) (by simp [World.setCell]), h3, h4.keepT (fun b e => h.only rfl 7 _ b _ e (by simp)) (by simp [World.setCell])⟩
theorem GW.rule (h : GW own id gb vm rm um pt S U w) {n : Nm} {r : RuleS} (hr : findR S.rules n = some r) : RAt own id (pt n) r w := by
  have := h.rs r (findR_mem hr).1
  rwa [(findR_mem hr).2] at this
theorem GW.staled (h : GW own id gb vm rm um pt S U w) {n : Nm} {r : RuleS} (hr : findR S.rules n = some r) (u : Bool) : GW own id gb vm rm um pt { S with rules := modR n (fun r => { r with stale := u }) S.rules } U (w.setCell ⟨(pt n).p, 6, none⟩ (.bool u)) :=
  h.rset hr _ (fun _ => rfl) ((h.rule hr).stale u) ((h.rule hr).only (findR_mem hr).2 6 _) (by simp [World.setCell])
theorem GW.busied (h : GW own id gb vm rm um pt S U w) {n : Nm} {r : RuleS} (hr : findR S.rules n = some r) (u : Bool) : GW own id gb vm rm um pt { S with rules := modR n (fun r => { r with busy := u }) S.rules } U (w.setCell ⟨(pt n).p, 7, none⟩ (.bool u)) :=
  h.rset hr _ (fun _ => rfl) ((h.rule hr).busy u) ((h.rule hr).only (findR_mem hr).2 7 _) (by simp [World.setCell])
end
theorem len_mapV {own : Own} {id gb : Nat} {vm rm um : Option Nat} {pt : Nm → PtI} {S : GS} {U : Nm → List Nm} {w : World} (h : GW own id gb vm rm um pt S U w) (ty : TypeId) : (Builtin.len_ #[45] ty #[.map vm]).run Try.prog w = .ok (.int .i64 (S.vals.length : Int)) w := by
  cases hm : vm with
  | none => rw [h.v0 hm]; exact SMap.len_nil Try.underlying45 w ty
  | some b => have := SMap.len Try.underlying45 (h.v1 b hm).2 ty; rwa [vkv, List.length_map] at this
theorem len_mapR {own : Own} {id gb : Nat} {vm rm um : Option Nat} {pt : Nm → PtI} {S : GS} {U : Nm → List Nm} {w : World} (h : GW own id gb vm rm um pt S U w) (ty : TypeId) : (Builtin.len_ #[46] ty #[.map rm]).run Try.prog w = .ok (.int .i64 (S.rules.length : Int)) w := by
  cases hm : rm with
  | none => rw [h.r0 hm]; exact SMap.len_nil Try.underlying46 w ty
  | some b => have := SMap.len Try.underlying46 (h.r1 b hm).2 ty; rwa [rkv, List.length_map] at this
/-- how many names have a value or a rule -/
theorem size_any {own : Own} {id gb : Nat} {vm rm um : Option Nat} {pt : Nm → PtI} {S : GS} {U : Nm → List Nm} (w : World) (h : GW own id gb vm rm um pt S U w) (hn : S.vals.length + S.rules.length ≤ 1000000) :
    Calls Try.prog 27 #[.pointer (some ⟨gb, 0, none⟩)] w fun e w' => e = .returned (.int .i64 ((S.vals.length + S.rules.length : Nat) : Int)) ∧ ∃ q, w' = w.drewN q := by
  have c0 := h.c0
  have c1 := h.c1
  have l0 : (Builtin.len_ #[45] 3 #[.map vm]).run Try.prog w.drew = .ok (.int .i64 (S.vals.length : Int)) w.drew := len_mapV h.drew _
  have l1 : (Builtin.len_ #[46] 3 #[.map rm]).run Try.prog w.drew = .ok (.int .i64 (S.rules.length : Int)) w.drew := len_mapR h.drew _
  clear h
  generalize S.vals.length = x at *
  generalize S.rules.length = y at *
  have i6 : IntKind.i64.wrap ((x : Int) + (y : Int)) = (x : Int) + (y : Int) := IntWalk.i64_in _ (by omega)
  go_enter Try.func27, Try.ntmps27
  go_wp2
  go_region
  go_wp2
  go_ret
  exact ⟨ret_int (by omega), 1, rfl⟩
end Go.Proofs.Ytbikldmhfaecpaa
