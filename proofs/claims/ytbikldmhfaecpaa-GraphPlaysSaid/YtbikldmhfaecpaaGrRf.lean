/-
  Layer 48 (graph), the reference: Rule.
-/
import Derived.Test.YtbikldmhfaecpaaGrRe
import Derived.Deep.RegionLaw
import Derived.Deep.Upon
import Derived.Deep.Onto
import Derived.IntWalk
namespace Go.Proofs.Ytbikldmhfaecpaa
open Go.RowKit
set_option linter.unusedVariables false
set_option linter.unusedSimpArgs false
attribute [local go_sem] B_data B_size

theorem strs_oneT (l : List Nm) : ∀ u ∈ strs l, u.oneCell' = true := fun u hu => by
  unfold strs at hu
  obtain ⟨x, _, rfl⟩ := List.mem_map.1 hu
  rfl
theorem strs_appT (a b : List Nm) : strs (a ++ b) = strs a ++ strs b := by simp [strs]
theorem run_appT (ty : TypeId) (W : World) (base M : Nat) (v : Value) (n : Nat) (xs : List Nm) (hE : W.ownsRow base 9 1 v n (strs xs))
    (A : Option Addr) (m c : Nat) (ys : List Nm) (hr : Rd W M 1 A m (strs ys)) (hn : n ≤ 100000000) (hm : m ≤ 100000000) (hbase : base ≤ W.heap.size) :
    ∃ A' c' w', (Builtin.append_ #[29, 29] ty #[v, .slice A m c]).run Try.prog W = .ok (.slice A' (n + m) c') w' ∧ w'.ownsRow base 9 1 (.slice A' (n + m) c') (n + m) (strs (xs ++ ys)) ∧ Below base W w' ∧ W.grownBy w' v.ownBlock := by
  obtain ⟨i0, hi, hz0, hz1, hz2⟩ := info_parts Try.info9
  have hl := hr.1
  have hgl := hr.strs_length
  obtain ⟨A0, c0, rfl, hle⟩ := own_form hE
  by_cases h0 : m = 0
  · subst h0
    have hx : ys = [] := List.eq_nil_of_length_eq_zero hgl
    subst hx
    rw [List.append_nil]
    cases A with
    | none =>
      have h := run_append_nothing (P := Try.prog) W 29 29 ty 9 i0 Try.underlying29 hi A0 n c0 hle (.slice none 0 c) (Src.ofNil W Try.underlying29 c)
      exact ⟨_, _, W, h, hE, Below.refl _ _, ⟨rfl, rfl, rfl, Nat.le_refl _, fun _ _ _ => rfl⟩⟩
    | some ad =>
      have h := run_append_nothing (P := Try.prog) W 29 29 ty 9 i0 Try.underlying29 hi A0 n c0 hle (.slice (some ad) 0 c) (Src.ofSlice W Try.underlying29 ad 0 c [] (by simp) (fun j u h => by simp at h) (fun u h => by cases h))
      exact ⟨_, _, W, h, hE, Below.refl _ _, ⟨rfl, rfl, rfl, Nat.le_refl _, fun _ _ _ => rfl⟩⟩
  · obtain ⟨ad, rfl, hlt, hc⟩ := hr.2 (by omega)
    obtain ⟨v', w', h1, h2, h3, _, _⟩ := run_append_own_at (P := Try.prog) W base 29 ty 9 i0 (.string ⟨#[]⟩) 1 16 Try.underlying29 hi hz0 hz1 hz2 rfl (by decide) _ n (strs xs) hE ad m c (strs ys) hl hc (strs_oneT ys) (by simp only [maxLen]; omega) (by omega) hbase
    rw [← strs_appT] at h2
    obtain ⟨g', cap, rfl, _, _⟩ := h2.form (by omega)
    exact ⟨_, _, w', h1, h2, below_of_grown h3 hbase fun k hk => (hE.lt k hk).1, h3⟩
theorem wpList_appT {ops : Array Oper} {rest : List Oper} {o : Oper} {a : Act} {Q : Exit → Act → World → Prop} (hgd : o.guard = none) (s y : Operand)
    (ho : o.op = .call { callee := .builtin .append, args := #[s, y], argTypes := #[29, 29] })
    (W : World) (base M : Nat) (v : Value) (n : Nat) (xs : List Nm) (hE : W.ownsRow base 9 1 v n (strs xs))
    (A : Option Addr) (m c : Nat) (ys : List Nm) (hr : Rd W M 1 A m (strs ys)) (hn : n ≤ 100000000) (hm : m ≤ 100000000) (hbase : base ≤ W.heap.size)
    (hs : a.eval s = v) (hy : a.eval y = .slice A m c)
    (h : ∀ A' c' w', w'.ownsRow base 9 1 (.slice A' (n + m) c') (n + m) (strs (xs ++ ys)) → Below base W w' → W.grownBy w' v.ownBlock → wpList Try.prog ops Q rest (a.put o.dst (.slice A' (n + m) c')) w') :
    wpList Try.prog ops Q (o :: rest) a W :=
  wpList_plain hgd fun _ hK => by
    obtain ⟨A', c', w', hr, h1, h2, h3⟩ := run_appT o.type W base M v n xs hE A m c ys hr hn hm hbase
    unfold Oper.wp execOp
    simp only [ho, resolve, invoke, builtin, Sem.run_bind, Sem.run_pure, Result.andThen_ok, List.map_toArray, List.map_cons, List.map_nil, hs, hy, hr]
    exact hK _ _ (h A' c' w' h1 h2 h3)
theorem step_appT {ops : Array Oper} {o : Oper} {a : Act} {K : Act → World → Prop} {Q : Exit → Act → World → Prop} {E : Prop} (hgd : o.guard = none) (s y : Operand)
    (ho : o.op = .call { callee := .builtin .append, args := #[s, y], argTypes := #[29, 29] })
    (W : World) (base M : Nat) (v : Value) (n : Nat) (xs : List Nm) (hE : W.ownsRow base 9 1 v n (strs xs))
    (A : Option Addr) (m c : Nat) (ys : List Nm) (hr : Rd W M 1 A m (strs ys)) (hn : n ≤ 100000000) (hm : m ≤ 100000000) (hbase : base ≤ W.heap.size)
    (hs : a.eval s = v) (hy : a.eval y = .slice A m c)
    (h : ∀ A' c' w', w'.ownsRow base 9 1 (.slice A' (n + m) c') (n + m) (strs (xs ++ ys)) → Below base W w' → W.grownBy w' v.ownBlock → K (a.put o.dst (.slice A' (n + m) c')) w') :
    if Region.wanted o (yielded ops a.tmps) = true then Oper.wp Try.prog o a W K Q else E := by
  have hw : Region.wanted o (yielded ops a.tmps) = true := by simp [Region.wanted, hgd]
  rw [if_pos hw]
  obtain ⟨A', c', w', hr, h1, h2, h3⟩ := run_appT o.type W base M v n xs hE A m c ys hr hn hm hbase
  unfold Oper.wp execOp
  simp only [ho, resolve, invoke, builtin, Sem.run_bind, Sem.run_pure, Result.andThen_ok, List.map_toArray, List.map_cons, List.map_nil, hs, hy, hr]
  exact h A' c' w' h1 h2 h3
theorem lit_ownT (w : World) (base : Nat) (hb : base ≤ w.heap.size) : (w.alloc (.cells #[] 9)).ownsRow base 9 1 (.slice (some ⟨w.heap.size, 0, none⟩) 0 0) 0 (strs []) := World.ownsRow_lit w #[] 0 hb (by decide) rfl
theorem step_appV {ops : Array Oper} {o : Oper} {a : Act} {K : Act → World → Prop} {Q : Exit → Act → World → Prop} {E : Prop} (hgd : o.guard = none) (s x : Operand)
    (ho : o.op = .call { callee := .builtin .append, args := #[s, x], argTypes := #[51, 51] }) (wr : World) (p : VM)
    (base : Nat) (v : Value) (n : Nat) (xs : List Value) (hown : wr.ownsRow base 59 10 v n xs) (hs : a.eval s = v) (hx : a.eval x = .slice (some ⟨wr.heap.size, 0, none⟩) 1 1) (hn : n ≤ 100000) (hbase : base ≤ wr.heap.size)
    (h : ∀ g cap w', w'.ownsRow base 59 10 (.slice (some ⟨g, 0, none⟩) (n + 1) cap) (n + 1) (xs ++ vmF p) → wr.grownBy w' v.ownBlock → Below base wr w' → (v.ownBlock = some g ∨ wr.heap.size ≤ g) → g < w'.heap.size → K (a.put o.dst (.slice (some ⟨g, 0, none⟩) (n + 1) cap)) w') :
    if Region.wanted o (yielded ops a.tmps) = true then Oper.wp Try.prog o a (wr.alloc (.cells (vmC p) 59)) K Q else E := by
  obtain ⟨i0, hi, hz0, hz1, hz2⟩ := info_parts infoV
  refine step_append_lies _ hgd s x 51 ho base 59 i0 _ 10 136 Try.underlying51 hi hz0 hz1 hz2 rfl (by omega) v n xs hs (hown.alloc _) ⟨wr.heap.size, 0, none⟩ 1 1 (vmF p) hx rfl ?_ (by simp [vmF]; exact ⟨rfl, rfl, rfl, rfl, rfl, rfl, rfl, rfl, rfl, rfl⟩) (by omega) (by simp only [maxLen]; omega) (by omega) (by simp; omega) (wr.heap.size + 1) (by simp) ?_
  · intro j u hj
    rw [addr_lit, cell_of_row (wr.alloc (.cells (vmC p) 59)) wr.heap.size _ (vmC p) 59 (0, 0) (heap_alloc_new wr _)]
    simpa [vmF, vmC] using hj
  · intro g cap w' h1 h2 h3 h4
    have hg : wr.grownBy w' v.ownBlock := grown_trans (World.grownBy_alloc wr _ _) h2
    exact h g cap w' h1 hg (below_of_grown hg hbase fun k hk => (hown.lt k hk).1) (by rcases h3 with h3 | h3; exact .inl h3; exact .inr (by omega)) h4
def rulV (n : Nm) (nd : List Nm) (F : Int) (nA : Option Addr) (nc : Nat) : VM := ⟨n, true, [], nd, F, false, [], [], 0, false, nA, nc, none, 0⟩
def RuleR (L : List VM) (n : Nm) (nd : List Nm) (F : Int) (code : Nat) (L' : List VM) : Prop :=
  ((n = [] ∨ [] ∈ nd) ∧ code = 6 ∧ L' = L) ∨
  (¬ (n = [] ∨ [] ∈ nd) ∧ F < 0 ∧ code = 2 ∧ L' = L) ∨
  (¬ (n = [] ∨ [] ∈ nd) ∧ 0 ≤ F ∧ (∃ i, findI L n = some i) ∧ code = 7 ∧ L' = L) ∨
  (¬ (n = [] ∨ [] ∈ nd) ∧ 0 ≤ F ∧ findI L n = none ∧ (1024 < nd.length ∨ 1024 ≤ L.length) ∧ code = 3 ∧ L' = L) ∨
  (¬ (n = [] ∨ [] ∈ nd) ∧ 0 ≤ F ∧ findI L n = none ∧ nd.length ≤ 1024 ∧ L.length < 1024 ∧ code = 0 ∧ ∃ nA nc, L' = (L ++ [rulV n nd F nA nc]).map (mkV (StV (L ++ [rulV n nd F nA nc]) n)))
set_option maxHeartbeats 16000000 in
set_option maxRecDepth 100000 in
theorem rrule_any {rb c N : Nat} {A : Option Addr} {L : List VM} {w0 : World} {X : Nat → Prop} (n : Nm) (A1 : Option Addr) (p c1 : Nat) (nd : List Nm) (F : Int) (w : World) (h : RG rb A c L N w0 w X) (hl : L.length ≤ 5000) (hnd : ∀ v ∈ L, v.nd.length ≤ 10000) (hr : Rd w w.heap.size 1 A1 p (strs nd)) (hp : p ≤ 10000) :
    Calls Try.prog 16 #[.pointer (some ⟨rb, 0, none⟩), .string (B n), .slice A1 p c1, .int .i64 F] w fun e w' => ∃ code, e = .returned (.int .i64 ((code : Nat) : Int)) ∧ RSt rb (fun L' N' => RuleR L n nd F code L' ∧ N' = N) w0 w w' X := by
  obtain ⟨m, hm⟩ : ∃ m, L.length = m := ⟨_, rfl⟩
  have HM := Lib.hid hm
  have H := Lib.hid h
  have HND := Lib.hid hnd
  obtain rfl : p = nd.length := hr.strs_length.symm
  have HRD := Lib.hid hr
  rw [hm] at hl
  have k0 := h.h0
  rw [hm] at k0
  have hfr := h.hfree 0
  have HC := Lib.hid (find_any n w h (by rw [hm]; omega))
  have HNE := Lib.hid (needs_any A1 nd.length c1 nd [] w hr (by omega))
  clear hm h hnd hr
  have same : ∀ code, RuleR L n nd F code L → RSt rb (fun L' N' => RuleR L n nd F code L' ∧ N' = N) w0 w w X := fun code hc => ⟨A, c, L, N, X, H.out, RPost.same (KO.of_below (Below.refl _ _)), hc, rfl⟩
  have HSM := Lib.hid same
  clear same
  go_enter Try.func16, Try.ntmps16
  by_cases hn : n = []
  · subst hn
    have HQ := Lib.hid (HSM.out 6 (.inl ⟨.inl rfl, rfl, rfl⟩))
    clear k0 hfr
    go_wp2
    go_ret
    exact ⟨6, rfl, HQ.out⟩
  have hn2 : (n == []) = false := beq_eq_false_iff_ne.2 hn
  by_cases hm : [] ∈ nd
  · have HQ := Lib.hid (HSM.out 6 (.inl ⟨.inr hm, rfl, rfl⟩))
    have hd : decide (([] : Nm) ∈ nd) = true := decide_eq_true hm
    rw [hd] at HNE
    clear k0 hfr hm hd hn
    go_wp2_with fail
    refine HNE.out.mono ?_
    rintro e wx ⟨rfl, rfl⟩
    go_wp2
    go_ret
    exact ⟨6, rfl, HQ.out⟩
  have HNN : Hid (¬ (n = [] ∨ [] ∈ nd)) := Lib.hid (by rintro (h | h); exact hn h; exact hm h)
  have hd : decide (([] : Nm) ∈ nd) = false := decide_eq_false hm
  rw [hd] at HNE
  clear hm hd hn
  by_cases hF : F < 0
  · have HQ := Lib.hid (HSM.out 2 (.inr (.inl ⟨HNN.out, hF, rfl, rfl⟩)))
    clear k0 hfr
    go_wp2_with fail
    refine HNE.out.mono ?_
    rintro e wx ⟨rfl, rfl⟩
    go_wp2
    go_ret
    exact ⟨2, rfl, HQ.out⟩
  have HF0 : Hid (0 ≤ F) := Lib.hid (by omega)
  have hF2 : decide (F < 0) = false := by simpa using hF
  cases hf : findI L n with
  | some i =>
    have HQ := Lib.hid (HSM.out 7 (.inr (.inr (.inl ⟨HNN.out, HF0.out, ⟨i, hf⟩, rfl, rfl⟩))))
    rw [hf] at HC
    clear k0 hfr hf
    go_wp2_with fail
    refine HNE.out.mono ?_
    rintro e wx ⟨rfl, rfl⟩
    go_wp2_with fail
    refine HC.out.mono ?_
    rintro e wx ⟨rfl, rfl⟩
    simp only [fiV]
    go_wp2
    go_ret
    exact ⟨7, rfl, HQ.out⟩
  | none =>
    have HFI := Lib.hid hf
    rw [hf] at HC
    clear hf
    by_cases hp2 : 1024 < nd.length
    · have HQ := Lib.hid (HSM.out 3 (.inr (.inr (.inr (.inl ⟨HNN.out, HF0.out, HFI.out, .inl hp2, rfl, rfl⟩)))))
      clear k0 hfr
      go_wp2_with fail
      refine HNE.out.mono ?_
      rintro e wx ⟨rfl, rfl⟩
      go_wp2_with fail
      refine HC.out.mono ?_
      rintro e wx ⟨rfl, rfl⟩
      simp only [fiV]
      go_wp2
      go_ret
      exact ⟨3, rfl, HQ.out⟩
    by_cases hm2 : 1024 ≤ m
    · have HQ := Lib.hid (HSM.out 3 (.inr (.inr (.inr (.inl ⟨HNN.out, HF0.out, HFI.out, .inr (by rw [HM.out]; exact hm2), rfl, rfl⟩)))))
      go_wp2_with fail
      refine HNE.out.mono ?_
      rintro e wx ⟨rfl, rfl⟩
      go_wp2_with fail
      refine HC.out.mono ?_
      rintro e wx ⟨rfl, rfl⟩
      simp only [fiV]
      go_wp2
      go_ret
      exact ⟨3, rfl, HQ.out⟩
    · go_wp2_with fail
      refine HNE.out.mono ?_
      rintro e wx ⟨rfl, rfl⟩
      go_wp2_with fail
      refine HC.out.mono ?_
      rintro e wx ⟨rfl, rfl⟩
      simp only [fiV]
      have hrow := H.out.row
      rw [HM.out] at hrow
      have HRW := Lib.hid hrow
      have hs0 := H.out.b.size
      have HAL := Lib.hid (fun (W : World) (hb : Below wx.heap.size wx W) => And.intro (own_below hrow hb) (HRD.out.below hb))
      clear hrow HC HNE
      go_wp2_with fail
      have hu1 := Below.refl wx.heap.size wx
      have HHD := Lib.hid (fun (W5 W6 : World) (hb : Below wx.heap.size wx W5) (hg : W5.grownBy W6 (Value.slice A m c).ownBlock) => by
        have hrb := (H.out.xs rb H.out.xr).2
        have h1 : W6.heap[rb]? = some (.cells #[.slice A m c, .int .i64 (N : Int)] 53 (0, 0)) := by
          rw [← HM.out]
          rw [← HM.out] at hg
          exact ((hg.block rb (Nat.lt_of_lt_of_le hrb hb.size) (fun e => (H.out.rx rb e.symm).2 rfl)).trans (hb.block rb hrb)).trans H.out.hd
        exact (show W6.cell? ⟨rb, 0, none⟩ = some (.slice A m c) ∧ W6.frozen? ⟨rb, 0, none⟩ = false from ⟨by simp [World.cell?, h1], by simp [World.frozen?, h1]⟩))
      have hk1 : (wx.alloc (.cells #[] 9)).cell? ⟨rb, 0, none⟩ = some (.slice A m c) := (HHD.out _ _ (below_alloc wx _) ⟨rfl, rfl, rfl, Nat.le_refl _, fun _ _ _ => rfl⟩).1
      go_region_law (first
        | (refine step_appT (by rfl) (.tmp 40) (.tmp 41) (by rfl) _ wx.heap.size wx.heap.size _ 0 [] (lit_ownT wx.drew wx.heap.size (Nat.le_refl _)) A1 nd.length c1 nd (HAL.out _ (hu1.drew.alloc (Nat.le_refl _) _)).2 (by omega) (by omega) (by simp) (by rfl) (by rfl) ?_; intro A5 c5 w5 ho5 hb5 hg5; have hB5 := (hu1.drew.alloc (Nat.le_refl _) (.cells #[] 9)).trans hb5; have hr5 := (HAL.out _ hB5).1; have hs5 := hB5.size; have hk5 := (HHD.out _ _ hB5 ⟨rfl, rfl, rfl, Nat.le_refl _, fun _ _ _ => rfl⟩).1; have hk5b := fun o => (HHD.out _ _ (hB5.alloc hB5.size o) ⟨rfl, rfl, rfl, Nat.le_refl _, fun _ _ _ => rfl⟩).1)
        | (refine step_appV (by rfl) (.tmp 38) (.tmp 45) (by rfl) w5 (rulV n nd F A5 c5) w0.heap.size _ m _ hr5 (by rfl) (by rfl) (by omega) (by omega) ?_; intro g cap w6 ho6 hg6 hb6 hl6 hs6; have hk6 := (HHD.out w5 w6 hB5 hg6).1; have hf6 := (HHD.out w5 w6 hB5 hg6).2))
      all_goals
        have hY : RG rb A c L N w0 w5 (fun b => X b ∨ (wx.heap.size ≤ b ∧ b < w5.heap.size)) := (H.out.below hB5).more (fun b hb => .inl hb) (fun b hb => by
          rcases hb with hb | hb
          · exact ⟨(H.out.xs b hb).1, Nat.lt_of_lt_of_le (H.out.xs b hb).2 hs5⟩
          · exact ⟨Nat.le_trans hs0 hb.1, hb.2⟩)
        have hdt : Dt w5 (fun b => X b ∨ (wx.heap.size ≤ b ∧ b < w5.heap.size)) rb (Value.slice A L.length c).ownBlock A5 nd := by
          have ho : w5.ownsRow wx.heap.size 9 1 (.slice A5 nd.length c5) nd.length (strs nd) := by simpa using ho5
          refine ⟨Rd.of_own ho, fun ad e hn => ?_⟩
          have hob : (Value.slice A5 nd.length c5).ownBlock = some ad.block := by rw [e]; rfl
          obtain ⟨x1, x2⟩ := ho.lt _ hob
          have hrb := (H.out.xs rb H.out.xr).2
          exact ⟨.inr ⟨x1, x2⟩, fun e2 => by omega, fun e2 => by have := (H.out.xs _ (H.out.rx _ e2).1).2; omega⟩
        have hg6' : w5.grownBy w6 (Value.slice A L.length c).ownBlock := by rw [HM.out]; exact hg6
        have hl6' : (Value.slice A L.length c).ownBlock = some g ∨ w5.heap.size ≤ g := by rw [HM.out]; exact hl6
        have ho6' : w6.ownsRow w0.heap.size 59 10 (.slice (some ⟨g, 0, none⟩) (L.length + 1) cap) (L.length + 1) (L.flatMap vmF ++ vmF (rulV n nd F A5 c5)) := by rw [HM.out]; exact ho6
        have hp6 := hY.push ho6' hg6' hb6 hl6' hs6 (v := rulV n nd F A5 c5) ⟨hdt, Dt.nil⟩
        have HKO := Lib.hid (((KO.of_below (X := X) hB5).wide (KO.of_grown hg6' (X := X) (fun q e => (H.out.rx q e).1)) (fun q hq => .inl hq)).trans (KO.put (g := rb) (i := 0) (u := .slice (some ⟨g, 0, none⟩) (L.length + 1) cap) H.out.xr))
        have HP := Lib.hid hp6
        rw [HM.out] at HP HKO
        have hlen : (L ++ [rulV n nd F A5 c5]).length ≤ 100000 := by have := HM.out; simp; omega
        have HST := Lib.hid (rstale_any n _ HP.out hlen (fun a ha => by
          rcases List.mem_append.1 ha with ha | ha
          · exact HND.out a ha
          · rw [List.mem_singleton] at ha; subst ha; simp [rulV]; omega))
        have HSZ := Lib.hid (And.intro hs5 hg6.size)
        clear hY hdt hg6 hg6' hl6' ho6' hp6 ho5 hb5 hg5 hr5 ho6 hb6 hl6 hs6 hlen hk6 hf6 HHD HAL
        go_wp2_with fail
        refine HST.out.mono ?_
        rintro e w7 ⟨rfl, h7, k7⟩
        have HQ : Hid (RSt rb (fun L' N' => RuleR L n nd F 0 L' ∧ N' = N) w0 wx w7 X) := Lib.hid ⟨_, _, _, _, _, h7, ⟨HKO.out.wide k7 (fun q hq => by
          rcases hq with (hq | hq) | hq
          · exact .inl hq
          · exact .inr hq.1
          · exact .inr (Nat.le_trans HSZ.out.1 hq.1)), fun b hb => by
          rcases hb with (hb | hb) | hb
          · exact .inl hb
          · exact .inr hb.1
          · exact .inr (Nat.le_trans HSZ.out.1 hb.1)⟩, .inr (.inr (.inr (.inr ⟨HNN.out, HF0.out, HFI.out, by omega, by rw [HM.out]; omega, rfl, A5, c5, rfl⟩))), rfl⟩
        clear h7 k7 HST HP HKO
        go_wp2
        go_ret
        exact ⟨0, rfl, HQ.out⟩
end Go.Proofs.Ytbikldmhfaecpaa
