/-
  Layer 33 (markup): arguments of the type api.Node.
-/
import Derived.Test.YtlhkpkjcecjomaaMkG
import Derived.Deep.SlicePairs
import Derived.Lib.SmallJoins
import Derived.ChangeOld
import Derived.SizedLaws
namespace Go.Proofs.Ytlhkpkjcecjomaa
open Go.ChangeShapes Go.WideShapes Go.ChangeAt Go.RowKit
open Go.ChangeMaps (open_string shut_string)
set_option linter.unusedVariables false
set_option linter.unusedSimpArgs false

theorem rds_of {α : Type} {W : World} {S : Nat → Prop} {sz : Nat} (f : α → List Value) (hf : ∀ x, (f x).length = sz) (hsz : 0 < sz) (a : Addr) (l : List α) (hS : 0 < l.length → S a.block)
    (hc : ∀ i x, l[i]? = some x → ∀ r u, (f x)[r]? = some u → W.cell? (a.add (i * sz + r)) = some u) : RdS W S sz (some a) l.length (l.flatMap f) := by
  refine ⟨row_len f sz hf l, fun hn => ⟨a, rfl, hS hn, fun j u hj => ?_⟩⟩
  have hjl := (List.getElem?_eq_some_iff.1 hj).1
  rw [row_len f sz hf] at hjl
  have hi : j / sz < l.length := Nat.div_lt_of_lt_mul (by rw [Nat.mul_comm]; exact hjl)
  have hr := Nat.mod_lt j hsz
  have e : j = j / sz * sz + j % sz := by rw [Nat.mul_comm]; exact (Nat.div_add_mod j sz).symm
  have hx : l[j / sz]? = some l[j / sz] := List.getElem?_eq_getElem hi
  rw [e, row_at f sz hf l _ _ _ hx hr] at hj
  rw [e]
  exact hc _ _ hx _ _ hj
theorem wAll_mem {H : Type} {P : Program} {e : TypeId} : ∀ {l : List (DataW H)} {d : DataW H}, d ∈ l → ∀ k ∈ d.weights P e, k ∈ DataW.weightsAll P e l := by
  intro l
  induction l with
  | nil => intro d h; cases h
  | cons a r ih =>
    intro d h k hk
    rw [DataW.weightsAll, List.mem_append]
    rcases List.mem_cons.1 h with rfl | h
    · exact .inl hk
    · exact .inr (ih h k hk)
theorem okL_of {M : Nat} : ∀ {ks : List Nd}, (∀ k ∈ ks, okN M k) → okL M ks := by
  intro ks
  induction ks with
  | nil => intro _; rw [okL]; trivial
  | cons a r ih => intro h; rw [okL]; exact ⟨h a (List.mem_cons_self ..), ih (fun k hk => h k (List.mem_cons_of_mem _ hk))⟩
theorem KsAt.of_map {W : World} {S : Nat → Prop} (N : Nat → Nd) (C : Nat → NC) : ∀ l : List Nat, (∀ i ∈ l, NdAt W S (N i) (C i)) → KsAt W S (l.map N) (l.map C) := by
  intro l
  induction l with
  | nil => intro _; exact rfl
  | cons a r ih => intro h; exact ⟨h a (List.mem_cons_self ..), ih (fun i hi => h i (List.mem_cons_of_mem _ hi))⟩
instance : Inhabited Nd := ⟨.mk [] [] [] []⟩
instance : Inhabited NC := ⟨⟨[], [], none, 0, 0, none, 0, 0⟩⟩

section
variable {H : Type} {enc : TypeId × Value → H} {W : World} {sp : Nat → Bool} {held : Bool}
theorem open_pairs {fuel : Nat} {v : Value} {x : DataW H × List MemPlace} (h : DataW.trod enc Try.prog W 0 sp held fuel 22 [v] = some x) (hw : ∀ k ∈ x.1.weights Try.prog 22, k ≤ reachBytes) :
    ∃ (A : Option Addr) (n c : Nat) (ats : List (List UInt8 × List UInt8)), v = .slice A n c ∧ n = ats.length ∧ RdS W (fun b => b < W.heap.size) 2 A n (ats.flatMap prF) ∧ ats.length ≤ 140737488355328 ∧ ∀ p ∈ ats, p.1.length ≤ 140737488355328 ∧ p.2.length ≤ 140737488355328 := by
  rcases Go.Deep.open_slice_pairs Try.underlying22 Try.underlying46 (by kernel_rfl) rfl rfl (by kernel_rfl) (by kernel_rfl) h with ⟨h0, _⟩ | ⟨a, len, cap, m, q, V0, V1, D0, D1, P0, P1, h0, hb, hl, hm, hmm, hx0, hx⟩
  · have : v = .slice none 0 0 := by simpa using h0
    subst this
    exact ⟨none, 0, 0, [], rfl, rfl, ⟨rfl, fun h => absurd h (Nat.lt_irrefl 0)⟩, by simp, by simp⟩
  · have : v = .slice (some a) len cap := by simpa using h0
    subst this
    subst hx0
    have hlm : len ≤ m := by rw [hmm]; split <;> omega
    have hR : reachBytes ≤ 140737488355328 := by decide
    have hb32 : Try.prog.bytesOf 46 = 32 := by kernel_rfl
    have hlen : len ≤ 140737488355328 := by
      have := hw ((((List.range len).map fun i => DataW.agg [D0 i, D1 i]).length + ((List.range (m - len)).map fun j => DataW.agg [D0 (len + j), D1 (len + j)]).length) * Try.prog.bytesOf 46) (by simp [DataW.weights, Try.underlying22])
      rw [hb32] at this
      simp only [List.length_map, List.length_range] at this
      omega
    have each : ∀ i, i < len → ∃ q : List UInt8 × List UInt8, V0 i = .string (B q.1) ∧ V1 i = .string (B q.2) ∧ q.1.length ≤ 140737488355328 ∧ q.2.length ≤ 140737488355328 := by
      intro i hi
      obtain ⟨_, _, t0, t1⟩ := hx i (by omega)
      obtain ⟨s0, e0, d0, _⟩ := DataW.trod_string Try.underlying9 t0
      obtain ⟨s1, e1, d1, _⟩ := DataW.trod_string Try.underlying9 t1
      have hmem : DataW.agg [D0 i, D1 i] ∈ (List.range len).map fun i => DataW.agg [D0 i, D1 i] := List.mem_map.2 ⟨i, List.mem_range.2 hi, rfl⟩
      have hk : ∀ k ∈ (DataW.agg [D0 i, D1 i]).weights Try.prog 46, k ≤ reachBytes := fun k hk => hw k (by
        simp only [DataW.weights, Try.underlying22, List.mem_cons, List.mem_append]
        exact .inr (.inl (wAll_mem hmem k hk)))
      have f0 : D0 i = .lit (.string s0.data.toList) := congrArg Prod.fst d0
      have f1 : D1 i = .lit (.string s1.data.toList) := congrArg Prod.fst d1
      rw [f0, f1] at hk
      simp only [DataW.weights, Try.underlying46] at hk
      have k0 := hk s0.data.toList.length (by simp [DataW.weightsEach, DataW.weights])
      have k1 := hk s1.data.toList.length (by simp [DataW.weightsEach, DataW.weights])
      refine ⟨(s0.data.toList, s1.data.toList), ?_, ?_, Nat.le_trans k0 hR, Nat.le_trans k1 hR⟩
      · have : V0 i = .string s0 := by simpa using e0
        rw [this]; rfl
      · have : V1 i = .string s1 := by simpa using e1
        rw [this]; rfl
    obtain ⟨Q, hQ⟩ := Go.Deep.choose_lt each
    have hll : ((List.range len).map Q).length = len := by simp
    refine ⟨some a, len, cap, (List.range len).map Q, rfl, hll.symm, ?_, by rw [hll]; exact hlen, ?_⟩
    · have := rds_of (W := W) (S := fun b => b < W.heap.size) (sz := 2) prF prF_len (by omega) a ((List.range len).map Q) (fun hp => by
        rw [hll] at hp
        have := World.block_lt_of_cell? W _ (hx 0 (by omega)).1
        rwa [addr_block] at this) (fun i p hp r u hr => by
        have hi : i < len := by have := (List.getElem?_eq_some_iff.1 hp).1; rw [hll] at this; exact this
        rw [List.getElem?_map, List.getElem?_range hi] at hp
        have hp := Option.some.inj hp
        subst hp
        obtain ⟨c0, c1, _, _⟩ := hx i (by omega)
        obtain ⟨e0, e1, _, _⟩ := hQ i hi
        rw [e0] at c0
        rw [e1] at c1
        match r, hr with
        | 0, hr => rw [← Option.some.inj hr]; exact c0
        | 1, hr => rw [← Option.some.inj hr]; exact c1)
      rw [hll] at this
      exact this
    · intro p hp
      obtain ⟨i, hi, rfl⟩ := List.mem_map.1 hp
      exact (hQ i (List.mem_range.1 hi)).2.2
set_option maxRecDepth 100000 in
theorem open_node_aux : ∀ (fuel : Nat) (cs : List Value) (x : DataW H × List MemPlace), DataW.trod enc Try.prog W 0 sp held fuel 25 cs = some x → (∀ k ∈ x.1.weights Try.prog 25, k ≤ reachBytes) →
    ∃ (n : Nd) (c : NC), cs = c.cells ∧ NdB W W.heap.size n c ∧ okN 140737488355328 n := by
  intro fuel
  induction fuel using Nat.strongRecOn with
  | ind fuel IH =>
    intro cs x h hw
    obtain ⟨xs, m, hm, rfl, hlen, hxl, hf⟩ := DataW.trod_struct Try.underlying25 h
    have c4 : Try.prog.cellsOf 25 = 4 := by kernel_rfl
    have s1 : Try.prog.cellsOf 9 = 1 := by kernel_rfl
    have s2 : Try.prog.cellsOf 22 = 1 := by kernel_rfl
    have s3 : Try.prog.cellsOf 23 = 1 := by kernel_rfl
    have hR : reachBytes ≤ 140737488355328 := by decide
    rw [c4] at hlen
    match cs, hlen, xs, hxl with
    | [v0, v1, v2, v3], _, [y0, y1, y2, y3], _ =>
      have g0 : DataW.trod enc Try.prog W 0 sp held m 9 [v0] = some y0 := by have := hf 0 _ rfl; simpa [s1] using this
      have g1 : DataW.trod enc Try.prog W 0 sp held m 9 [v1] = some y1 := by have := hf 1 _ rfl; simpa [s1] using this
      have g2 : DataW.trod enc Try.prog W 0 sp held m 22 [v2] = some y2 := by have := hf 2 _ rfl; simpa [s2] using this
      have g3 : DataW.trod enc Try.prog W 0 sp held m 23 [v3] = some y3 := by have := hf 3 _ rfl; simpa [s3] using this
      have hW : ∀ k, (k ∈ y0.1.weights Try.prog 9 ∨ k ∈ y1.1.weights Try.prog 9 ∨ k ∈ y2.1.weights Try.prog 22 ∨ k ∈ y3.1.weights Try.prog 23) → k ≤ reachBytes := by
        intro k hk
        refine hw k ?_
        simp only [DataW.weights, Try.underlying25, List.map_cons, List.map_nil, DataW.weightsEach, List.mem_append]
        rcases hk with hk | hk | hk | hk
        · exact .inl hk
        · exact .inr (.inl hk)
        · exact .inr (.inr (.inl hk))
        · exact .inr (.inr (.inr (.inl hk)))
      obtain ⟨s0, e0, d0, _⟩ := DataW.trod_string Try.underlying9 g0
      obtain ⟨s1', e1, d1, _⟩ := DataW.trod_string Try.underlying9 g1
      have n0 : s0.data.toList.length ≤ 140737488355328 := Nat.le_trans (hW _ (.inl (by rw [d0]; simp [DataW.weights]))) hR
      have n1 : s1'.data.toList.length ≤ 140737488355328 := Nat.le_trans (hW _ (.inr (.inl (by rw [d1]; simp [DataW.weights])))) hR
      have e0 : v0 = .string (B s0.data.toList) := by have : v0 = .string s0 := by simpa using e0
                                                      rw [this]; rfl
      have e1 : v1 = .string (B s1'.data.toList) := by have : v1 = .string s1' := by simpa using e1
                                                       rw [this]; rfl
      obtain ⟨A, na, ca, ats, rfl, hna, hA, hal, hap⟩ := open_pairs g2 (fun k hk => hW k (.inr (.inr (.inl hk))))
      subst e0 e1 hna
      rcases DataW.trod_slice Try.underlying23 g3 with ⟨h0, _⟩ | ⟨a, len, cap, elems, rest, q, hq, h0, hy, hb, hl, hmx, hel, hall, _, _⟩
      · have : v3 = .slice none 0 0 := by simpa using h0
        subst this
        refine ⟨.mk s0.data.toList s1'.data.toList ats [], ⟨s0.data.toList, s1'.data.toList, A, ats.length, ca, none, 0, 0⟩, rfl, ⟨rfl, rfl, hA, [], ⟨rfl, fun h => absurd h (Nat.lt_irrefl 0)⟩, rfl⟩, ?_⟩
        rw [okN, okL]
        exact ⟨n0, n1, hal, by simp, hap, trivial⟩
      · have : v3 = .slice (some a) len cap := by simpa using h0
        subst this
        have hb80 : Try.prog.bytesOf 25 = 80 := by kernel_rfl
        have hwl : ∀ k ∈ DataW.weights Try.prog 23 (DataW.slice (elems.map (·.1)) (rest.map (·.1))), k ≤ reachBytes := fun k hk => hW k (.inr (.inr (.inr (by rw [hy]; exact hk))))
        simp only [DataW.weights, Try.underlying23, List.mem_cons, List.mem_append] at hwl
        have hlen2 : len ≤ 140737488355328 := by
          have := hwl _ (.inl rfl)
          rw [hb80] at this
          simp only [List.length_map] at this
          omega
        have each : ∀ i, i < len → ∃ p : Nd × NC, NdB W W.heap.size p.1 p.2 ∧ okN 140737488355328 p.1 ∧ ∀ r u, p.2.cells[r]? = some u → W.cell? (a.add (i * 4 + r)) = some u := by
          intro i hi
          have hx := hall i hi
          have hie : elems[i]? = some elems[i] := List.getElem?_eq_getElem (by omega)
          rw [hie] at hx
          obtain ⟨cs', h1, h2⟩ := Option.bind_eq_some_iff.1 hx
          obtain ⟨n, c, ec, hn, hok⟩ := IH q (by omega) cs' _ h2 (fun k hk => hwl k (.inr (.inl (wAll_mem (List.mem_map.2 ⟨elems[i], List.getElem_mem _, rfl⟩) k hk))))
          refine ⟨(n, c), hn, hok, fun r u hr => ?_⟩
          rw [c4] at h1
          obtain ⟨_, hl4, hc⟩ := World.cells?_some h1
          have hr4 : r < 4 := by have := (List.getElem?_eq_some_iff.1 hr).1; rw [NC.cells_len] at this; exact this
          have := hc r hr4
          rw [Go.Deep.add_add, ec, hr] at this
          exact this
        obtain ⟨Q, hQ⟩ := Go.Deep.choose_lt each
        have hll : ((List.range len).map fun i => (Q i).2).length = len := by simp
        have hK := rds_of (W := W) (S := fun b => b < W.heap.size) (sz := 4) NC.cells NC.cells_len (by omega) a ((List.range len).map fun i => (Q i).2) (fun hp => by
          rw [hll] at hp
          have := World.block_lt_of_cell? W _ ((hQ 0 hp).2.2 0 _ rfl)
          rwa [addr_block] at this) (fun i p hp r u hr => by
          have hi : i < len := by have := (List.getElem?_eq_some_iff.1 hp).1; rw [hll] at this; exact this
          rw [List.getElem?_map, List.getElem?_range hi] at hp
          have hp := Option.some.inj hp
          subst hp
          exact (hQ i hi).2.2 r u hr)
        rw [hll] at hK
        refine ⟨.mk s0.data.toList s1'.data.toList ats ((List.range len).map fun i => (Q i).1), ⟨s0.data.toList, s1'.data.toList, A, ats.length, ca, some a, len, cap⟩, rfl, ⟨rfl, rfl, hA, _, hK, KsAt.of_map _ _ _ (fun i hi => (hQ i (List.mem_range.1 hi)).1)⟩, ?_⟩
        rw [okN]
        refine ⟨n0, n1, hal, by simpa using hlen2, hap, okL_of fun k hk => ?_⟩
        obtain ⟨i, hi, rfl⟩ := List.mem_map.1 hk
        exact (hQ i (List.mem_range.1 hi)).2.1
theorem open_node {b0 : Nat} {v : Value} {d : DataW H} {ps : List MemPlace} (hv : Value.okWide Try.prog W .any b0 25 v) (h : DataW.Trod enc Try.prog W 0 sp held 25 v d ps) (hw : ∀ k ∈ d.weights Try.prog 25, k ≤ reachBytes) :
    ∃ (n : Nd) (c : NC), v = .agg #[.string (B c.nm), .string (B c.tx), .slice c.A c.na c.ca, .slice c.K c.nk c.ck] ∧ NdB W W.heap.size n c ∧ okN 140737488355328 n := by
  obtain ⟨cs, rfl, hsz⟩ := okWide_struct Try.underlying25 hv
  obtain ⟨fuel, hf⟩ := h
  obtain ⟨n, c, e, hn, hok⟩ := open_node_aux fuel _ _ hf hw
  refine ⟨n, c, ?_, hn, hok⟩
  have e : cs.toList = c.cells := e
  rw [← Array.toArray_toList (xs := cs), e]
  rfl
end
end Go.Proofs.Ytlhkpkjcecjomaa
