/-
  Layer 40 (page): waiting boxes from an index on are struck (slices.DeleteFunc at the program's closure), where they ascend.
-/
import Derived.Test.YtpgpkgpiengmkaaDoorPgE
namespace Go.Proofs.YtpgpkgpiengmkaaDoor
open Go.RowKit
set_option linter.unusedVariables false
set_option linter.unusedSimpArgs false
attribute [local go_sem] B_data B_size

theorem closure_any (x f : Int) (r : Nat) (w : World) (hr : w.cell? ⟨r, 0, none⟩ = some (.int .i64 f)) :
    Calls Tryd.prog 62 #[.int .i64 x, .pointer (some ⟨r, 0, none⟩)] w fun e w' => e = .returned (.bool (decide (f ≤ x))) ∧ w = w' := by
  go_enter Tryd.func62, Tryd.ntmps62
  go_wp2
  go_ret
  exact ⟨rfl, rfl⟩
theorem WRow.cells {W : World} {base g off m cap : Nat} {xs : List Int} (h : WRow W base (.slice (some ⟨g, off, none⟩) m cap) xs) :
    m = xs.length ∧ base ≤ g ∧ g < W.heap.size ∧ m ≤ cap ∧ (∀ j x, xs[j]? = some x → W.cell? ⟨g, off + j, none⟩ = some (.int .i64 x)) ∧ (∀ j, j < cap → (W.cell? ⟨g, off + j, none⟩).isSome = true) ∧ ∀ j, W.frozen? ⟨g, j, none⟩ = false := by
  rcases h with ⟨h, _⟩ | ⟨g', off', cap', cur, e, hb, hg, hn, hc, hs, hx⟩
  · cases h
  · injection e with e1 e2 e3
    injection e1 with e1
    injection e1 with e1 e4 _
    subst e1 e4 e3 e2
    refine ⟨rfl, hb, (Array.getElem?_eq_some_iff.1 hg).1, hn, fun j x hj => ?_, fun j hj => ?_, fun j => by simp [World.frozen?, hg]⟩
    · rw [cell_of_row W g _ cur _ _ hg, ← Array.getElem?_toList]
      have hl : j < xs.length := (List.getElem?_eq_some_iff.1 hj).1
      have h0 : (ints xs)[j]? = some (.int .i64 x) := by unfold ints; rw [List.getElem?_map, hj]; rfl
      rw [← hx, List.getElem?_take, if_pos hl, List.getElem?_drop] at h0
      exact h0
    · rw [cell_of_row W g _ cur _ _ hg]; simp; omega
/-- ascending indices: those below f are the first k -/
theorem sorted_cut : ∀ (wt : List Nat) (f : Nat), wt.Pairwise (· < ·) → ∃ k, k ≤ wt.length ∧ wt.filter (· < f) = wt.take k ∧ ∀ j x, wt[j]? = some x → (x < f ↔ j < k) := by
  intro wt f h
  induction wt with
  | nil => exact ⟨0, Nat.le_refl _, rfl, fun j x hj => by simp at hj⟩
  | cons a r ih =>
    rw [List.pairwise_cons] at h
    by_cases ha : a < f
    · obtain ⟨k, hk, hf, hx⟩ := ih h.2
      refine ⟨k + 1, by simp; omega, by rw [List.filter_cons_of_pos (by simpa using ha), hf]; rfl, fun j x hj => ?_⟩
      cases j with
      | zero => have : a = x := by simpa using hj
                subst this; exact ⟨fun _ => by omega, fun _ => ha⟩
      | succ j => have := hx j x (by simpa using hj); omega
    · refine ⟨0, Nat.zero_le _, ?_, fun j x hj => ?_⟩
      · rw [List.filter_eq_nil_iff.2]
        · rfl
        · intro x hx
          rcases List.mem_cons.1 hx with rfl | hx
          · simpa using ha
          · have := h.1 x hx; simp; omega
      · cases j with
        | zero => have : a = x := by simpa using hj
                  subst this; omega
        | succ j => have := h.1 x (List.mem_of_getElem? (by simpa using hj)); omega
theorem nints_at {l : List Nat} {j x : Nat} (h : l[j]? = some x) : (nints l)[j]? = some (x : Int) := by unfold nints; rw [List.getElem?_map, h]; rfl
set_option maxHeartbeats 4000000 in
set_option maxRecDepth 100000 in
theorem index_any (v : Value) (wt : List Nat) (base k f r : Nat) (w : World) (hv : WRow w base v (nints wt)) (hk : k ≤ wt.length) (hx : ∀ j x, wt[j]? = some x → (x < f ↔ j < k)) (hn : wt.length ≤ 1000000) (hr : w.cell? ⟨r, 0, none⟩ = some (.int .i64 (f : Int))) :
    Calls Tryd.prog 71 #[v, .func (.func 62) #[] #[.pointer (some ⟨r, 0, none⟩)]] w fun e w' => e = .returned (.int .i64 (if k = wt.length then -1 else (k : Int))) ∧ w = w' := by
  obtain ⟨A, c, rfl, hrd⟩ := hv.form
  have HI : Hid (∀ (j x : Nat), wt[j]? = some x → ∃ g o, A = some ⟨g, o, none⟩ ∧ g < w.heap.size ∧ w.cell? ⟨g, o + j, none⟩ = some (.int .i64 (x : Int))) := fun j x hj => hrd.int (nints_at hj)
  have HX := Lib.hid hx
  rw [nints_len]
  generalize hL : wt.length = n at *
  have HL := Lib.hid hL
  clear hL hrd hv hx
  go_enter Tryd.func71, Tryd.ntmps71
  go_wp2
  go_loopw [8] (fun i wr => ∃ j : Nat, j ≤ n ∧ j ≤ k ∧ i = .int .i64 j ∧ w = wr) (fun i _ => n - (intOf i).toNat)
  case atStart => exact ⟨0, Nat.zero_le _, Nat.zero_le _, rfl, rfl⟩
  case round =>
    obtain ⟨j, hj, hjk, rfl, rfl⟩ := hrel
    by_cases hlt : j < n
    · obtain ⟨x, hxj⟩ := get_of (l := wt) (k := j) (by rw [HL.out]; exact hlt)
      obtain ⟨g, o, rfl, hg, d0⟩ := HI.out j x hxj
      have hh := HX.out j x hxj
      have i1 : (0 : Int) ≤ (j : Int) := by omega
      have i2 : (j : Int) < (n : Int) := by omega
      go_wp2_with fail
      refine (closure_any (x : Int) (f : Int) r _ hr).mono ?_
      rintro e w1 ⟨rfl, rfl⟩
      by_cases hjk2 : j < k
      · have hd : decide ((f : Int) ≤ (x : Int)) = false := by have := hh.2 hjk2; simp; omega
        rw [hd]
        clear hh hd
        go_wp2
        go_roundw
        case rel => exact ⟨j + 1, by omega, by omega, by go_num, by trivial⟩
        case measure => simp [intOf]; omega
      · have hd : decide ((f : Int) ≤ (x : Int)) = true := by have : ¬ x < f := fun h => hjk2 (hh.1 h); simp; omega
        rw [hd]
        have e : j = k := by omega
        subst e
        have hne : ¬ j = n := by omega
        clear hh hd
        go_wp2
        go_ret
        exact ⟨rfl, rfl⟩
    · have e : k = n := by omega
      go_wp2
      go_ret
      exact ⟨rfl, rfl⟩
theorem Kpt.setCells {R : Nat → Prop} {a b : World} {g : Nat} (hR : R g) : ∀ (vs : List Value) (o : Nat), Kpt R a b → Kpt R a (b.setCells g o vs)
  | [], _, h => h
  | v :: r, o, h => Kpt.setCells hR r (o + 1) (h.setCell fun _ => hR)
theorem heap_sets {g : Nat} {t : TypeId} {fr : Nat × Nat} : ∀ (vs : List Value) (o : Nat) (w : World) (cur : Array Value), w.heap[g]? = some (.cells cur t fr) →
    ∃ cur', (w.setCells g o vs).heap[g]? = some (.cells cur' t fr) ∧ cur'.size = cur.size ∧ ∀ j, j < o → cur'[j]? = cur[j]?
  | [], o, w, cur, h => ⟨cur, h, rfl, fun _ _ => rfl⟩
  | v :: r, o, w, cur, h => by
    obtain ⟨cur', h1, h2, h3⟩ := heap_sets r (o + 1) (w.setCell ⟨g, o, none⟩ v) (cur.setIfInBounds o v) (heap_set v h)
    refine ⟨cur', h1, by rw [h2]; simp, fun j hj => ?_⟩
    rw [h3 j (by omega), Array.getElem?_setIfInBounds_ne (by omega)]
/-- the first k of a row, when what follows them was written -/
theorem WRow.cutTo {W : World} {base g off m cap k : Nat} {wt : List Nat} {vs : List Value} (h : WRow W base (.slice (some ⟨g, off, none⟩) m cap) (nints wt)) (hk : k ≤ m) (hm : wt.length = m) :
    WRow (W.setCells g (off + k) vs) base (.slice (some ⟨g, off, none⟩) k cap) (nints (wt.take k)) := by
  rcases h with ⟨h, _⟩ | ⟨g', off', cap', cur, e, hb, hg, hn, hc, hs, hx⟩
  · cases h
  · injection e with e1 e2 e3
    injection e1 with e1
    injection e1 with e1 e4 _
    subst e1 e4 e3
    rw [nints_len] at hn hx
    obtain ⟨cur', h1, h2, h3⟩ := heap_sets vs (off + k) W cur hg
    have hlk : (nints (wt.take k)).length = k := by rw [nints_len, List.length_take]; omega
    refine .inr ⟨g, off, cap, cur', by rw [hlk], hb, h1, by omega, hc, by omega, ?_⟩
    rw [hlk]
    have e5 : ints (nints (wt.take k)) = (ints (nints wt)).take k := by unfold ints nints; rw [List.map_take, List.map_take]
    rw [e5, ← hx, List.take_take, Nat.min_eq_left (by omega)]
    refine List.ext_getElem? fun j => ?_
    rw [List.getElem?_take, List.getElem?_take]
    by_cases hj : j < k
    · rw [if_pos hj, if_pos hj, List.getElem?_drop, List.getElem?_drop, Array.getElem?_toList, Array.getElem?_toList, h3 _ (by omega)]
    · rw [if_neg hj, if_neg hj]
theorem run_clearW (w : World) (ty : TypeId) (g o m c : Nat) (hc : ∀ j, j < m → (w.cell? ⟨g, o + j, none⟩).isSome = true) (hf : ∀ j, w.frozen? ⟨g, j, none⟩ = false) (hm : 0 < m) :
    (Builtin.clear_ #[40] ty #[.slice (some ⟨g, o, none⟩) m c]).run Tryd.prog w = .ok (.tuple #[]) (w.setCells g o (List.replicate m (.int .i64 0))) := by
  have hu := run_underlying (w := w) Tryd.underlying40
  have hz : (zeroValue 3).run Tryd.prog w = .ok (.int .i64 0) w := by kernel_rfl
  have h := run_storeCells_cells (P := Tryd.prog) g o (List.replicate m (.int .i64 0)) 0 w (fun j hj => by rw [Nat.add_zero]; exact hc j (by simpa using hj)) (fun j hj => hf _) (fun v hv => by rw [List.mem_replicate] at hv; rw [hv.2]; rfl)
  have he : (Builtin.zeroCells (Value.cells (.int .i64 0)) m).toList = List.replicate m (.int .i64 0) := by
    simp [Builtin.zeroCells, Value.cells]
    rw [List.eq_replicate_iff]
    refine ⟨by simp, fun b hb => ?_⟩
    obtain ⟨i, _, rfl⟩ := List.mem_map.1 hb
    simp [Nat.mod_one]
  obtain ⟨m, rfl⟩ : ∃ m', m = m' + 1 := ⟨m - 1, by omega⟩
  simp [Builtin.clear_, hu, hz, he, h, Result.andThen]
set_option maxHeartbeats 4000000 in
set_option maxRecDepth 100000 in
theorem delete_any (v : Value) (wt : List Nat) (base f r : Nat) (w : World) (hv : WRow w base v (nints wt)) (hs : wt.Pairwise (· < ·)) (hn : wt.length ≤ 1000000) (hr : w.cell? ⟨r, 0, none⟩ = some (.int .i64 (f : Int))) :
    Calls Tryd.prog 61 #[v, .func (.func 62) #[] #[.pointer (some ⟨r, 0, none⟩)]] w fun e w' => ∃ v', e = .returned v' ∧ WRow w' base v' (nints (wt.filter (· < f))) ∧ Kpt (fun k => v.ownBlock = some k) w w' ∧ v'.ownBlock = v.ownBlock := by
  obtain ⟨k, hk, hkf, hx⟩ := sorted_cut wt f hs
  have HC := Lib.hid (index_any v wt base k f r w hv hk hx hn hr)
  rw [hkf]
  by_cases hkn : k = wt.length
  · rw [if_pos hkn] at HC
    have HV : Hid (WRow w base v (nints (wt.take k))) := by rw [hkn, List.take_length]; exact hv
    obtain ⟨A, c, rfl, _⟩ := hv.form
    clear hv hx hkf
    go_enter Tryd.func61, Tryd.ntmps61
    go_wp2_with fail
    refine HC.out.mono ?_
    rintro e w1 ⟨rfl, rfl⟩
    go_wp2
    go_ret
    exact ⟨_, rfl, HV.out, Kpt.refl _ _, rfl⟩
  · rw [if_neg hkn] at HC
    have hkl : k < wt.length := by omega
    obtain ⟨y, hy⟩ := get_of (l := wt) (k := k) hkl
    have hne : nints wt ≠ [] := fun h => by have := congrArg List.length h; rw [nints_len, List.length_nil] at this; omega
    obtain ⟨x0, xs0, hxs⟩ := List.exists_cons_of_ne_nil hne
    have hv2 := hv
    rw [hxs] at hv2
    obtain ⟨g, off, cap, rfl, _, _, _⟩ := hv2.cons
    obtain ⟨hm, hbg, hg, hmc, hcell, hsome, hfr⟩ := hv.cells
    generalize hmm : xs0.length + 1 = m at *
    rw [nints_len] at hm
    have HV := Lib.hid hv
    have HI : Hid (∀ (j x : Nat), wt[j]? = some x → w.cell? ⟨g, off + j, none⟩ = some (.int .i64 (x : Int))) := fun j x hj => hcell j x (nints_at hj)
    have HX := Lib.hid hx
    have HL := Lib.hid hm.symm
    have hck : ¬ cap = k := by omega
    have hkm : k < m := by omega
    have hm6 : m ≤ 1000000 := by omega
    have q1 : ((k : Int) == -1) = false := by simp
    have hcl := fun ty => run_clearW w ty g (off + k) (m - k) (cap - k) (fun j hj => by rw [Nat.add_assoc]; exact hsome _ (by omega)) hfr (by omega)
    clear hv hv2 hx hkf hcell hsome hfr hmm hxs hne hm
    go_enter Tryd.func61, Tryd.ntmps61
    go_wp2_with fail
    refine HC.out.mono ?_
    rintro e w1 ⟨rfl, rfl⟩
    go_wp2
    go_loopw [5, 6] (fun i j wr => ∃ t : Nat, t ≤ m ∧ k < t ∧ i = .int .i64 k ∧ j = .int .i64 t ∧ w = wr) (fun _ j _ => m - (intOf j).toNat)
    case atStart => exact ⟨k + 1, by omega, by omega, rfl, by go_num, rfl⟩
    case round =>
      obtain ⟨t, ht, hkt, rfl, rfl, rfl⟩ := hrel
      by_cases hlt : t < m
      · obtain ⟨x, hxj⟩ := get_of (l := wt) (k := t) (by rw [HL.out]; exact hlt)
        have d0 := HI.out t x hxj
        have hh := HX.out t x hxj
        have i1 : (0 : Int) ≤ (t : Int) := by omega
        have i2 : (t : Int) < (m : Int) := by omega
        go_wp2_with fail
        refine (closure_any (x : Int) (f : Int) r _ hr).mono ?_
        rintro e w1 ⟨rfl, rfl⟩
        have hd2 : ¬ x < f := fun h => by have := hh.1 h; omega
        have hd : decide ((f : Int) ≤ (x : Int)) = true := by simp; omega
        rw [hd]
        clear hh hd hd2
        go_wp2
        go_roundw
        case rel => exact ⟨t + 1, by omega, by omega, rfl, by go_num, by trivial⟩
        case measure => simp [intOf]; omega
      · have e : t = m := by omega
        subst e
        go_wp2
        go_ret
        refine ⟨_, rfl, ?_, ?_, rfl⟩
        · exact HV.out.cutTo (by omega) HL.out
        · exact Kpt.setCells (R := fun k => (Value.slice (some ⟨g, off, none⟩) t cap).ownBlock = some k) rfl _ _ (Kpt.refl _ w)
end Go.Proofs.YtpgpkgpiengmkaaDoor
