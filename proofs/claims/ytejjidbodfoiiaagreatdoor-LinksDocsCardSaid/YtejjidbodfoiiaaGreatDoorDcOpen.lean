/-
  Arguments of the types api.Doc, []api.Block, []api.Inline.
-/
import Derived.Test.YtejjidbodfoiiaaGreatDoorLkDV
import Derived.Deep.SlicePairs
import Derived.Lib.SmallJoins
import Derived.ChangeOld
import Derived.SizedLaws
namespace Go.Proofs.YtejjidbodfoiiaaGreatDoor
open Go.ChangeShapes Go.WideShapes Go.ChangeAt Go.RowKit
open Go.ChangeMaps (open_string shut_string)
set_option linter.unusedVariables false
set_option linter.unusedSimpArgs false
set_option maxRecDepth 100000

theorem rds_of {α : Type} {W : World} {S : Nat → Prop} {sz : Nat} (f : α → List Value) (hf : ∀ x, (f x).length = sz) (hsz : 0 < sz) (a : Addr) (l : List α) (hS : 0 < l.length → S a.block)
    (hc : ∀ i x, l[i]? = some x → ∀ r u, (f x)[r]? = some u → W.cell? (a.add (i * sz + r)) = some u) : RdS W S sz (some a) l.length (l.flatMap f) := by
  refine ⟨row_len f sz hf l, fun hn => ⟨a, rfl, hS hn, fun j u hj => ?_⟩⟩
  have hjl := (List.getElem?_eq_some_iff.1 hj).1
  rw [row_len f sz hf] at hjl
  have hi : j / sz < l.length := Nat.div_lt_of_lt_mul (by rw [Nat.mul_comm]; exact hjl)
  have hr := Nat.mod_lt j hsz
  have e : j = j / sz * sz + j % sz := by rw [Nat.mul_comm]; exact (Nat.div_add_mod j sz).symm
  have hx : l[j / sz]? = some l[j / sz] := List.getElem?_eq_getElem hi
  rw [e, row_at f sz hf l _ _ _ hx hr] at hj
  rw [e]
  exact hc _ _ hx _ _ hj
theorem wAll_mem {H : Type} {P : Program} {e : TypeId} : ∀ {l : List (DataW H)} {d : DataW H}, d ∈ l → ∀ k ∈ d.weights P e, k ∈ DataW.weightsAll P e l := by
  intro l
  induction l with
  | nil => intro d h; cases h
  | cons a r ih =>
    intro d h k hk
    rw [DataW.weightsAll, List.mem_append]
    rcases List.mem_cons.1 h with rfl | h
    · exact .inl hk
    · exact .inr (ih h k hk)
instance : Inhabited In := ⟨.mk 0 [] [] [] [] ⟨[], []⟩ [] [] []⟩
instance : Inhabited Bk := ⟨.mk 0 0 [] [] [] [] [] ⟨[], []⟩ [] []⟩
instance : Inhabited Ct := ⟨⟨[], [], [], false⟩⟩
instance : Inhabited IC := ⟨⟨0, [], [], [], [], .nil, .nil, .nil, .nil, .nil⟩⟩
instance : Inhabited BC := ⟨⟨0, 0, [], [], [], [], [], .nil, .nil, .nil, .nil⟩⟩
theorem IsAt.of_list {W : World} {S : Nat → Prop} : ∀ l : List (In × IC), (∀ p ∈ l, InAt W S p.1 p.2) → IsAt W S (l.map (·.1)) (l.map (·.2)) := by
  intro l
  induction l with
  | nil => intro _; exact rfl
  | cons a r ih => intro h; exact ⟨h a (List.mem_cons_self ..), ih (fun i hi => h i (List.mem_cons_of_mem _ hi))⟩
theorem BsAt.of_list {W : World} {S : Nat → Prop} : ∀ l : List (Bk × BC), (∀ p ∈ l, BkAt W S p.1 p.2) → BsAt W S (l.map (·.1)) (l.map (·.2)) := by
  intro l
  induction l with
  | nil => intro _; exact rfl
  | cons a r ih => intro h; exact ⟨h a (List.mem_cons_self ..), ih (fun i hi => h i (List.mem_cons_of_mem _ hi))⟩
theorem flat_snd {α β : Type} (f : β → List Value) (l : List (α × β)) : l.flatMap (fun p => f p.2) = (l.map (·.2)).flatMap f := by rw [List.flatMap_map]
theorem okT_mem {s : Bs} (h : s.length ≤ 140737488355328) : ∀ x ∈ [s], x.length ≤ 140737488355328 := fun x hx => by rw [List.mem_singleton] at hx; rw [hx]; exact h

section
variable {H : Type} {enc : TypeId × Value → H} {W : World} {sp : Nat → Bool} {held : Bool}
theorem open_sliceG {α : Type} [Inhabited α] (f : α → List Value) (sz : Nat) (hf : ∀ a, (f a).length = sz) (hsz : 0 < sz) (t e : TypeId) (hu : Tryz.prog.underlying t = some (.slice e)) (hc : Tryz.prog.cellsOf e = sz) (by0 : 0 < Tryz.prog.bytesOf e)
    (Good : α → Prop) {fuel : Nat} (each : ∀ q, q < fuel → ∀ cs x, DataW.trod enc Tryz.prog W 0 sp held q e cs = some x → (∀ k ∈ x.1.weights Tryz.prog e, k ≤ reachBytes) → ∃ a, cs = f a ∧ Good a)
    {v : Value} {x : DataW H × List MemPlace} (h : DataW.trod enc Tryz.prog W 0 sp held fuel t [v] = some x) (hw : ∀ k ∈ x.1.weights Tryz.prog t, k ≤ reachBytes) :
    ∃ (s : Sl) (l : List α), v = s.v ∧ RdT W (fun b => b < W.heap.size) sz s (l.flatMap f) ∧ (l.length = s.n ∧ s.n ≤ s.c ∧ s.c ≤ maxLen) ∧ ∀ a ∈ l, Good a := by
  have hR : reachBytes ≤ 140737488355328 := by decide
  rcases DataW.trod_slice hu h with ⟨h0, _⟩ | ⟨a, len, cap, elems, rest, q, hq, h0, hy, hb, hl, hmx, hel, hall, _, _⟩
  · have : v = .slice none 0 0 := by simpa using h0
    subst this
    exact ⟨.nil, [], rfl, ⟨⟨by simp [Sl.nil], fun h => absurd h (Nat.lt_irrefl 0)⟩, by simp [Sl.nil]⟩, ⟨rfl, Nat.le_refl _, Nat.zero_le _⟩, by simp⟩
  · have : v = .slice (some a) len cap := by simpa using h0
    subst this
    have hwl : ∀ k ∈ DataW.weights Tryz.prog t (DataW.slice (elems.map (·.1)) (rest.map (·.1))), k ≤ reachBytes := fun k hk => hw k (by rw [hy]; exact hk)
    simp only [DataW.weights, hu, List.mem_cons, List.mem_append] at hwl
    have hlen2 : len ≤ 140737488355328 := by
      have := hwl _ (.inl rfl)
      simp only [List.length_map] at this
      have h2 : elems.length * 1 ≤ (elems.length + rest.length) * Tryz.prog.bytesOf e := Nat.mul_le_mul (Nat.le_add_right ..) by0
      omega
    have each2 : ∀ i, i < len → ∃ p : α, Good p ∧ ∀ r u, (f p)[r]? = some u → W.cell? (a.add (i * sz + r)) = some u := by
      intro i hi
      have hx := hall i hi
      have hie : elems[i]? = some elems[i] := List.getElem?_eq_getElem (by omega)
      rw [hie] at hx
      obtain ⟨cs', h1, h2⟩ := Option.bind_eq_some_iff.1 hx
      obtain ⟨p, ec, hn⟩ := each q (by omega) cs' _ h2 (fun k hk => hwl k (.inr (.inl (wAll_mem (List.mem_map.2 ⟨elems[i], List.getElem_mem _, rfl⟩) k hk))))
      refine ⟨p, hn, fun r u hr => ?_⟩
      rw [hc] at h1
      obtain ⟨_, hl4, hcc⟩ := World.cells?_some h1
      have hr4 : r < sz := by have := (List.getElem?_eq_some_iff.1 hr).1; rw [hf] at this; exact this
      have := hcc r hr4
      rw [Go.Deep.add_add, ec, hr] at this
      exact this
    obtain ⟨Q, hQ⟩ := Go.Deep.choose_lt each2
    have hll : ((List.range len).map Q).length = len := by simp
    have hK := rds_of (W := W) (S := fun b => b < W.heap.size) (sz := sz) f hf hsz a ((List.range len).map Q) (fun hp => by
      rw [hll] at hp
      have hlt : 0 < (f (Q 0)).length := by rw [hf]; exact hsz
      have := World.block_lt_of_cell? W _ ((hQ 0 hp).2 0 _ (List.getElem?_eq_getElem hlt))
      rwa [addr_block] at this) (fun i p hp r u hr => by
      have hi : i < len := by have := (List.getElem?_eq_some_iff.1 hp).1; rw [hll] at this; exact this
      rw [List.getElem?_map, List.getElem?_range hi] at hp
      have hp := Option.some.inj hp
      subst hp
      exact (hQ i hi).2 r u hr)
    rw [hll] at hK
    refine ⟨⟨some a, len, cap⟩, (List.range len).map Q, rfl, ⟨hK, hlen2⟩, ⟨hll, hl, hmx⟩, fun p hp => ?_⟩
    obtain ⟨i, hi, rfl⟩ := List.mem_map.1 hp
    exact (hQ i (List.mem_range.1 hi)).1
theorem open_str1 {q : Nat} {cs : List Value} {x : DataW H × List MemPlace} (h : DataW.trod enc Tryz.prog W 0 sp held q 9 cs = some x) (hw : ∀ k ∈ x.1.weights Tryz.prog 9, k ≤ reachBytes) :
    ∃ s : Bs, cs = [.string (B s)] ∧ s.length ≤ 140737488355328 := by
  have hR : reachBytes ≤ 140737488355328 := by decide
  obtain ⟨s0, e0, d0, _⟩ := DataW.trod_string Tryz.underlying9 h
  refine ⟨s0.data.toList, by rw [e0]; rfl, Nat.le_trans (hw _ (by rw [d0]; simp [DataW.weights])) hR⟩
theorem open_strs {q : Nat} {v : Value} {x : DataW H × List MemPlace} (h : DataW.trod enc Tryz.prog W 0 sp held q 25 [v] = some x) (hw : ∀ k ∈ x.1.weights Tryz.prog 25, k ≤ reachBytes) :
    ∃ (s : Sl) (l : List Bs), v = s.v ∧ RdT W (fun b => b < W.heap.size) 1 s (strs l) ∧ (l.length = s.n ∧ s.n ≤ s.c ∧ s.c ≤ maxLen) ∧ okT l := by
  have hs : ∀ l : List Bs, l.flatMap (fun s => [Value.string (B s)]) = strs l := fun l => by induction l with
    | nil => rfl
    | cons a r ih => rw [List.flatMap_cons, ih]; rfl
  obtain ⟨s, l, e, h1, h2, h3⟩ := open_sliceG (fun s : Bs => [Value.string (B s)]) 1 (fun _ => rfl) (by omega) 25 9 Tryz.underlying25 (by kernel_rfl) (of_decide_eq_true (by kernel_rfl)) (fun s => s.length ≤ 140737488355328) (fun q _ cs x h hw => open_str1 h hw) h hw
  rw [hs] at h1
  exact ⟨s, l, e, h1, h2, h3⟩
theorem open_pair1 {q : Nat} {cs : List Value} {x : DataW H × List MemPlace} (h : DataW.trod enc Tryz.prog W 0 sp held q 71 cs = some x) (hw : ∀ k ∈ x.1.weights Tryz.prog 71, k ≤ reachBytes) :
    ∃ p : Bs × Bs, cs = prF p ∧ okT [p.1, p.2] := by
  obtain ⟨xs, m, hm, rfl, hlen, hxl, hf⟩ := DataW.trod_struct Tryz.underlying71 h
  have c2 : Tryz.prog.cellsOf 71 = 2 := by kernel_rfl
  have s1 : Tryz.prog.cellsOf 9 = 1 := by kernel_rfl
  rw [c2] at hlen
  match cs, hlen, xs, hxl with
  | [v0, v1], _, [y0, y1], _ =>
    have g0 : DataW.trod enc Tryz.prog W 0 sp held m 9 [v0] = some y0 := by have := hf 0 _ rfl; simpa [s1] using this
    have g1 : DataW.trod enc Tryz.prog W 0 sp held m 9 [v1] = some y1 := by have := hf 1 _ rfl; simpa [s1] using this
    have hW : ∀ k, (k ∈ y0.1.weights Tryz.prog 9 ∨ k ∈ y1.1.weights Tryz.prog 9) → k ≤ reachBytes := by
      intro k hk
      refine hw k ?_
      simp only [DataW.weights, Tryz.underlying71, List.map_cons, List.map_nil, DataW.weightsEach, List.mem_append]
      rcases hk with hk | hk
      · exact .inl hk
      · exact .inr (.inl hk)
    obtain ⟨a, ea, ha⟩ := open_str1 g0 (fun k hk => hW k (.inl hk))
    obtain ⟨b, eb, hb⟩ := open_str1 g1 (fun k hk => hW k (.inr hk))
    refine ⟨(a, b), ?_, fun s hs => ?_⟩
    · injection ea with ea; injection eb with eb
      rw [ea, eb]; rfl
    · rcases List.mem_cons.1 hs with rfl | hs
      · exact ha
      · exact okT_mem hb _ hs
theorem open_prs {q : Nat} {v : Value} {x : DataW H × List MemPlace} (h : DataW.trod enc Tryz.prog W 0 sp held q 27 [v] = some x) (hw : ∀ k ∈ x.1.weights Tryz.prog 27, k ≤ reachBytes) :
    ∃ (s : Sl) (l : List (Bs × Bs)), v = s.v ∧ RdT W (fun b => b < W.heap.size) 2 s (l.flatMap prF) ∧ (l.length = s.n ∧ s.n ≤ s.c ∧ s.c ≤ maxLen) ∧ okT (l.flatMap fun p => [p.1, p.2]) := by
  obtain ⟨s, l, e, h1, h2, h3⟩ := open_sliceG prF 2 prF_len (by omega) 27 71 Tryz.underlying27 (by kernel_rfl) (of_decide_eq_true (by kernel_rfl)) (fun p => okT [p.1, p.2]) (fun q _ cs x h hw => open_pair1 h hw) h hw
  exact ⟨s, l, e, h1, h2, fun s hs => by obtain ⟨p, hp, hs⟩ := List.mem_flatMap.1 hs; exact h3 p hp s hs⟩
theorem open_cite1 {q : Nat} {cs : List Value} {x : DataW H × List MemPlace} (h : DataW.trod enc Tryz.prog W 0 sp held q 137 cs = some x) (hw : ∀ k ∈ x.1.weights Tryz.prog 137, k ≤ reachBytes) :
    ∃ c : Ct, cs = ctF c ∧ okT [c.key, c.pre, c.suf] := by
  obtain ⟨xs, m, hm, rfl, hlen, hxl, hf⟩ := DataW.trod_struct Tryz.underlying137 h
  have c4 : Tryz.prog.cellsOf 137 = 4 := by kernel_rfl
  have s1 : Tryz.prog.cellsOf 9 = 1 := by kernel_rfl
  have s2 : Tryz.prog.cellsOf 4 = 1 := by kernel_rfl
  rw [c4] at hlen
  match cs, hlen, xs, hxl with
  | [v0, v1, v2, v3], _, [y0, y1, y2, y3], _ =>
    have g0 : DataW.trod enc Tryz.prog W 0 sp held m 9 [v0] = some y0 := by have := hf 0 _ rfl; simpa [s1] using this
    have g1 : DataW.trod enc Tryz.prog W 0 sp held m 9 [v1] = some y1 := by have := hf 1 _ rfl; simpa [s1] using this
    have g2 : DataW.trod enc Tryz.prog W 0 sp held m 9 [v2] = some y2 := by have := hf 2 _ rfl; simpa [s1] using this
    have g3 : DataW.trod enc Tryz.prog W 0 sp held m 4 [v3] = some y3 := by have := hf 3 _ rfl; simpa [s2] using this
    have hW : ∀ k, (k ∈ y0.1.weights Tryz.prog 9 ∨ k ∈ y1.1.weights Tryz.prog 9 ∨ k ∈ y2.1.weights Tryz.prog 9) → k ≤ reachBytes := by
      intro k hk
      refine hw k ?_
      simp only [DataW.weights, Tryz.underlying137, List.map_cons, List.map_nil, DataW.weightsEach, List.mem_append]
      rcases hk with hk | hk | hk
      · exact .inl hk
      · exact .inr (.inl hk)
      · exact .inr (.inr (.inl hk))
    obtain ⟨a, ea, ha⟩ := open_str1 g0 (fun k hk => hW k (.inl hk))
    obtain ⟨b, eb, hb⟩ := open_str1 g1 (fun k hk => hW k (.inr (.inl hk)))
    obtain ⟨c, ec, hc⟩ := open_str1 g2 (fun k hk => hW k (.inr (.inr hk)))
    obtain ⟨d, ed⟩ : ∃ d : Bool, [v3] = [Value.bool d] := by
      obtain ⟨d, ed, _⟩ := DataW.trod_bool Tryz.underlying4 g3
      exact ⟨d, ed⟩
    injection ea with ea; injection eb with eb; injection ec with ec; injection ed with ed
    refine ⟨⟨a, b, c, d⟩, by rw [ea, eb, ec, ed]; rfl, fun s hs => ?_⟩
    rcases List.mem_cons.1 hs with rfl | hs
    · exact ha
    rcases List.mem_cons.1 hs with rfl | hs
    · exact hb
    exact okT_mem hc _ hs
theorem open_cts {q : Nat} {v : Value} {x : DataW H × List MemPlace} (h : DataW.trod enc Tryz.prog W 0 sp held q 49 [v] = some x) (hw : ∀ k ∈ x.1.weights Tryz.prog 49, k ≤ reachBytes) :
    ∃ (s : Sl) (l : List Ct), v = s.v ∧ RdT W (fun b => b < W.heap.size) 4 s (l.flatMap ctF) ∧ (l.length = s.n ∧ s.n ≤ s.c ∧ s.c ≤ maxLen) ∧ okT (l.flatMap fun c => [c.key, c.pre, c.suf]) := by
  obtain ⟨s, l, e, h1, h2, h3⟩ := open_sliceG ctF 4 ctF_len (by omega) 49 137 Tryz.underlying49 (by kernel_rfl) (of_decide_eq_true (by kernel_rfl)) (fun c => okT [c.key, c.pre, c.suf]) (fun q _ cs x h hw => open_cite1 h hw) h hw
  exact ⟨s, l, e, h1, h2, fun s hs => by obtain ⟨p, hp, hs⟩ := List.mem_flatMap.1 hs; exact h3 p hp s hs⟩
/-- attributes -/
theorem open_attr {q : Nat} {cs : List Value} {x : DataW H × List MemPlace} (h : DataW.trod enc Tryz.prog W 0 sp held q 48 cs = some x) (hw : ∀ k ∈ x.1.weights Tryz.prog 48, k ≤ reachBytes) :
    ∃ (id : Bs) (cl pr : Sl) (ao : Ao), cs = [.string (B id), cl.v, pr.v] ∧ id.length ≤ 140737488355328 ∧ AoAt W (fun b => b < W.heap.size) ao cl pr ∧ okT (aoT ao) := by
  obtain ⟨xs, m, hm, rfl, hlen, hxl, hf⟩ := DataW.trod_struct Tryz.underlying48 h
  have c3 : Tryz.prog.cellsOf 48 = 3 := by kernel_rfl
  have s1 : Tryz.prog.cellsOf 9 = 1 := by kernel_rfl
  have s2 : Tryz.prog.cellsOf 25 = 1 := by kernel_rfl
  have s3 : Tryz.prog.cellsOf 27 = 1 := by kernel_rfl
  rw [c3] at hlen
  match cs, hlen, xs, hxl with
  | [v0, v1, v2], _, [y0, y1, y2], _ =>
    have g0 : DataW.trod enc Tryz.prog W 0 sp held m 9 [v0] = some y0 := by have := hf 0 _ rfl; simpa [s1] using this
    have g1 : DataW.trod enc Tryz.prog W 0 sp held m 25 [v1] = some y1 := by have := hf 1 _ rfl; simpa [s2] using this
    have g2 : DataW.trod enc Tryz.prog W 0 sp held m 27 [v2] = some y2 := by have := hf 2 _ rfl; simpa [s3] using this
    have hW : ∀ k, (k ∈ y0.1.weights Tryz.prog 9 ∨ k ∈ y1.1.weights Tryz.prog 25 ∨ k ∈ y2.1.weights Tryz.prog 27) → k ≤ reachBytes := by
      intro k hk
      refine hw k ?_
      simp only [DataW.weights, Tryz.underlying48, List.map_cons, List.map_nil, DataW.weightsEach, List.mem_append]
      rcases hk with hk | hk | hk
      · exact .inl hk
      · exact .inr (.inl hk)
      · exact .inr (.inr (.inl hk))
    obtain ⟨a, ea, ha⟩ := open_str1 g0 (fun k hk => hW k (.inl hk))
    obtain ⟨cl, cls, ec, hc, _, oc⟩ := open_strs g1 (fun k hk => hW k (.inr (.inl hk)))
    obtain ⟨pr, prs, ep, hp, _, op⟩ := open_prs g2 (fun k hk => hW k (.inr (.inr hk)))
    injection ea with ea
    refine ⟨a, cl, pr, ⟨cls, prs⟩, by rw [ea, ec, ep], ha, ⟨hc, hp⟩, fun s hs => ?_⟩
    rcases List.mem_append.1 hs with hs | hs
    · exact oc s hs
    · exact op s hs
theorem open_int1 {q : Nat} {cs : List Value} {x : DataW H × List MemPlace} (h : DataW.trod enc Tryz.prog W 0 sp held q 3 cs = some x) : ∃ k : Int, cs = [.int .i64 k] := by
  obtain ⟨k, ek, _⟩ := DataW.trod_int Tryz.underlying3 h
  exact ⟨k, ek⟩
set_option maxRecDepth 100000 in
theorem open_inline : ∀ (fuel : Nat) (cs : List Value) (x : DataW H × List MemPlace), DataW.trod enc Tryz.prog W 0 sp held fuel 52 cs = some x → (∀ k ∈ x.1.weights Tryz.prog 52, k ≤ reachBytes) →
    ∃ p : In × IC, cs = p.2.cells ∧ InAt W (fun b => b < W.heap.size) p.1 p.2 := by
  intro fuel
  induction fuel using Nat.strongRecOn with
  | ind fuel IH =>
    intro cs x h hw
    obtain ⟨xs, m, hm, rfl, hlen, hxl, hf⟩ := DataW.trod_struct Tryz.underlying52 h
    have cN : Tryz.prog.cellsOf 52 = 10 := by kernel_rfl
    have s0 : Tryz.prog.cellsOf 3 = 1 := by kernel_rfl
    have s1 : Tryz.prog.cellsOf 9 = 1 := by kernel_rfl
    have s4 : Tryz.prog.cellsOf 48 = 3 := by kernel_rfl
    have s5 : Tryz.prog.cellsOf 25 = 1 := by kernel_rfl
    have s6 : Tryz.prog.cellsOf 49 = 1 := by kernel_rfl
    have s7 : Tryz.prog.cellsOf 50 = 1 := by kernel_rfl
    rw [cN] at hlen
    match cs, hlen, xs, hxl with
    | [v0, v1, v2, v3, v4, v5, v6, v7, v8, v9], _, [y0, y1, y2, y3, y4, y5, y6, y7], _ =>
      have g0 : DataW.trod enc Tryz.prog W 0 sp held m 3 [v0] = some y0 := by have := hf 0 _ rfl; simpa [s0] using this
      have g1 : DataW.trod enc Tryz.prog W 0 sp held m 9 [v1] = some y1 := by have := hf 1 _ rfl; simpa [s1] using this
      have g2 : DataW.trod enc Tryz.prog W 0 sp held m 9 [v2] = some y2 := by have := hf 2 _ rfl; simpa [s1] using this
      have g3 : DataW.trod enc Tryz.prog W 0 sp held m 9 [v3] = some y3 := by have := hf 3 _ rfl; simpa [s1] using this
      have g4 : DataW.trod enc Tryz.prog W 0 sp held m 48 [v4, v5, v6] = some y4 := by have := hf 4 _ rfl; simpa [s4] using this
      have g5 : DataW.trod enc Tryz.prog W 0 sp held m 25 [v7] = some y5 := by have := hf 5 _ rfl; simpa [s5] using this
      have g6 : DataW.trod enc Tryz.prog W 0 sp held m 49 [v8] = some y6 := by have := hf 6 _ rfl; simpa [s6] using this
      have g7 : DataW.trod enc Tryz.prog W 0 sp held m 50 [v9] = some y7 := by have := hf 7 _ rfl; simpa [s7] using this
      have hW : ∀ k, (k ∈ y0.1.weights Tryz.prog 3 ∨ k ∈ y1.1.weights Tryz.prog 9 ∨ k ∈ y2.1.weights Tryz.prog 9 ∨ k ∈ y3.1.weights Tryz.prog 9 ∨ k ∈ y4.1.weights Tryz.prog 48 ∨ k ∈ y5.1.weights Tryz.prog 25 ∨ k ∈ y6.1.weights Tryz.prog 49 ∨ k ∈ y7.1.weights Tryz.prog 50) → k ≤ reachBytes := by
        intro k hk
        refine hw k ?_
        simp only [DataW.weights, Tryz.underlying52, List.map_cons, List.map_nil, DataW.weightsEach, List.mem_append]
        rcases hk with hk | hk | hk | hk | hk | hk | hk | hk
        · exact .inl hk
        · exact .inr (.inl hk)
        · exact .inr (.inr (.inl hk))
        · exact .inr (.inr (.inr (.inl hk)))
        · exact .inr (.inr (.inr (.inr (.inl hk))))
        · exact .inr (.inr (.inr (.inr (.inr (.inl hk)))))
        · exact .inr (.inr (.inr (.inr (.inr (.inr (.inl hk))))))
        · exact .inr (.inr (.inr (.inr (.inr (.inr (.inr (.inl hk)))))))
      obtain ⟨a0, e0⟩ := open_int1 g0
      obtain ⟨a1, e1, o1⟩ := open_str1 g1 (fun k hk => hW k (.inr (.inl hk)))
      obtain ⟨a2, e2, o2⟩ := open_str1 g2 (fun k hk => hW k (.inr (.inr (.inl hk))))
      obtain ⟨a3, e3, o3⟩ := open_str1 g3 (fun k hk => hW k (.inr (.inr (.inr (.inl hk)))))
      obtain ⟨id, cl, pr, ao, e4, oi, h4, o4⟩ := open_attr g4 (fun k hk => hW k (.inr (.inr (.inr (.inr (.inl hk))))))
      obtain ⟨ag, ags, e5, h5, _, o5⟩ := open_strs g5 (fun k hk => hW k (.inr (.inr (.inr (.inr (.inr (.inl hk)))))))
      obtain ⟨ct, cts, e6, h6, _, o6⟩ := open_cts g6 (fun k hk => hW k (.inr (.inr (.inr (.inr (.inr (.inr (.inl hk))))))))
      obtain ⟨kd, l, e7, h7, _, o7⟩ := open_sliceG (fun p : In × IC => p.2.cells) 10 (fun p => p.2.cells_len) (by omega) 50 52 Tryz.underlying50 (by kernel_rfl) (of_decide_eq_true (by kernel_rfl)) (fun p => InAt W (fun b => b < W.heap.size) p.1 p.2) (fun q hq cs x h hw => IH q (by omega) cs x h hw) g7 (fun k hk => hW k (.inr (.inr (.inr (.inr (.inr (.inr (.inr hk))))))))
      rw [flat_snd] at h7
      injection e0 with e0; injection e1 with e1; injection e2 with e2; injection e3 with e3; injection e4 with e4 ex; injection ex with e41 ex; injection ex with e42
      refine ⟨(.mk a0 a1 a2 a3 id ao ags cts (l.map (·.1)), ⟨a0, a1, a2, a3, id, cl, pr, ag, ct, kd⟩), by rw [e0, e1, e2, e3, e4, e41, e42, e5, e6, e7]; rfl, ?_, ⟨rfl, rfl, rfl, rfl, rfl⟩, h4, h5, h6, _, h7, IsAt.of_list l o7⟩
      intro s hs
      unfold inT at hs
      rcases List.mem_append.1 hs with hs | hs
      · rcases List.mem_append.1 hs with hs | hs
        · rcases List.mem_append.1 hs with hs | hs
          · simp only [List.mem_cons, List.not_mem_nil, or_false] at hs
            rcases hs with rfl | rfl | rfl | rfl <;> assumption
          · exact o4 s hs
        · exact o5 s hs
      · exact o6 s hs
theorem open_line {q : Nat} {v : Value} {x : DataW H × List MemPlace} (h : DataW.trod enc Tryz.prog W 0 sp held q 50 [v] = some x) (hw : ∀ k ∈ x.1.weights Tryz.prog 50, k ≤ reachBytes) :
    ∃ (s : Sl) (l : List (In × IC)), v = s.v ∧ RdT W (fun b => b < W.heap.size) 10 s ((l.map (·.2)).flatMap IC.cells) ∧ (l.length = s.n ∧ s.n ≤ s.c ∧ s.c ≤ maxLen) ∧ IsAt W (fun b => b < W.heap.size) (l.map (·.1)) (l.map (·.2)) := by
  obtain ⟨kd, l, e7, h7, h8, o7⟩ := open_sliceG (fun p : In × IC => p.2.cells) 10 (fun p => p.2.cells_len) (by omega) 50 52 Tryz.underlying50 (by kernel_rfl) (of_decide_eq_true (by kernel_rfl)) (fun p => InAt W (fun b => b < W.heap.size) p.1 p.2) (fun q hq cs x h hw => open_inline q cs x h hw) h hw
  rw [flat_snd] at h7
  exact ⟨kd, l, e7, h7, h8, IsAt.of_list l o7⟩
set_option maxRecDepth 100000 in
theorem open_block : ∀ (fuel : Nat) (cs : List Value) (x : DataW H × List MemPlace), DataW.trod enc Tryz.prog W 0 sp held fuel 54 cs = some x → (∀ k ∈ x.1.weights Tryz.prog 54, k ≤ reachBytes) →
    ∃ p : Bk × BC, cs = p.2.cells ∧ BkAt W (fun b => b < W.heap.size) p.1 p.2 := by
  intro fuel
  induction fuel using Nat.strongRecOn with
  | ind fuel IH =>
    intro cs x h hw
    obtain ⟨xs, m, hm, rfl, hlen, hxl, hf⟩ := DataW.trod_struct Tryz.underlying54 h
    have cN : Tryz.prog.cellsOf 54 = 11 := by kernel_rfl
    have s0 : Tryz.prog.cellsOf 3 = 1 := by kernel_rfl
    have s1 : Tryz.prog.cellsOf 9 = 1 := by kernel_rfl
    have s4 : Tryz.prog.cellsOf 48 = 3 := by kernel_rfl
    have s6 : Tryz.prog.cellsOf 50 = 1 := by kernel_rfl
    have s7 : Tryz.prog.cellsOf 28 = 1 := by kernel_rfl
    rw [cN] at hlen
    match cs, hlen, xs, hxl with
    | [v0, v1, v2, v3, v4, v5, v6, v7, v8, v9, v10], _, [y0, y1, y2, y3, y4, y5, y6, y7, y8], _ =>
      have g0 : DataW.trod enc Tryz.prog W 0 sp held m 3 [v0] = some y0 := by have := hf 0 _ rfl; simpa [s0] using this
      have g1 : DataW.trod enc Tryz.prog W 0 sp held m 3 [v1] = some y1 := by have := hf 1 _ rfl; simpa [s0] using this
      have g2 : DataW.trod enc Tryz.prog W 0 sp held m 9 [v2] = some y2 := by have := hf 2 _ rfl; simpa [s1] using this
      have g3 : DataW.trod enc Tryz.prog W 0 sp held m 9 [v3] = some y3 := by have := hf 3 _ rfl; simpa [s1] using this
      have g4 : DataW.trod enc Tryz.prog W 0 sp held m 9 [v4] = some y4 := by have := hf 4 _ rfl; simpa [s1] using this
      have g5 : DataW.trod enc Tryz.prog W 0 sp held m 9 [v5] = some y5 := by have := hf 5 _ rfl; simpa [s1] using this
      have g6 : DataW.trod enc Tryz.prog W 0 sp held m 48 [v6, v7, v8] = some y6 := by have := hf 6 _ rfl; simpa [s4] using this
      have g7 : DataW.trod enc Tryz.prog W 0 sp held m 50 [v9] = some y7 := by have := hf 7 _ rfl; simpa [s6] using this
      have g8 : DataW.trod enc Tryz.prog W 0 sp held m 28 [v10] = some y8 := by have := hf 8 _ rfl; simpa [s7] using this
      have hW : ∀ k, (k ∈ y0.1.weights Tryz.prog 3 ∨ k ∈ y1.1.weights Tryz.prog 3 ∨ k ∈ y2.1.weights Tryz.prog 9 ∨ k ∈ y3.1.weights Tryz.prog 9 ∨ k ∈ y4.1.weights Tryz.prog 9 ∨ k ∈ y5.1.weights Tryz.prog 9 ∨ k ∈ y6.1.weights Tryz.prog 48 ∨ k ∈ y7.1.weights Tryz.prog 50 ∨ k ∈ y8.1.weights Tryz.prog 28) → k ≤ reachBytes := by
        intro k hk
        refine hw k ?_
        simp only [DataW.weights, Tryz.underlying54, List.map_cons, List.map_nil, DataW.weightsEach, List.mem_append]
        rcases hk with hk | hk | hk | hk | hk | hk | hk | hk | hk
        · exact .inl hk
        · exact .inr (.inl hk)
        · exact .inr (.inr (.inl hk))
        · exact .inr (.inr (.inr (.inl hk)))
        · exact .inr (.inr (.inr (.inr (.inl hk))))
        · exact .inr (.inr (.inr (.inr (.inr (.inl hk)))))
        · exact .inr (.inr (.inr (.inr (.inr (.inr (.inl hk))))))
        · exact .inr (.inr (.inr (.inr (.inr (.inr (.inr (.inl hk)))))))
        · exact .inr (.inr (.inr (.inr (.inr (.inr (.inr (.inr (.inl hk))))))))
      obtain ⟨a0, e0⟩ := open_int1 g0
      obtain ⟨a1, e1⟩ := open_int1 g1
      obtain ⟨a2, e2, o2⟩ := open_str1 g2 (fun k hk => hW k (.inr (.inr (.inl hk))))
      obtain ⟨a3, e3, o3⟩ := open_str1 g3 (fun k hk => hW k (.inr (.inr (.inr (.inl hk)))))
      obtain ⟨a4, e4, o4⟩ := open_str1 g4 (fun k hk => hW k (.inr (.inr (.inr (.inr (.inl hk))))))
      obtain ⟨a5, e5, o5⟩ := open_str1 g5 (fun k hk => hW k (.inr (.inr (.inr (.inr (.inr (.inl hk)))))))
      obtain ⟨id, cl, pr, ao, e6, oi, h6, o6⟩ := open_attr g6 (fun k hk => hW k (.inr (.inr (.inr (.inr (.inr (.inr (.inl hk))))))))
      obtain ⟨ln, li, e7, h7, _, i7⟩ := open_line g7 (fun k hk => hW k (.inr (.inr (.inr (.inr (.inr (.inr (.inr (.inl hk)))))))))
      obtain ⟨kd, l, e8, h8, _, o8⟩ := open_sliceG (fun p : Bk × BC => p.2.cells) 11 (fun p => p.2.cells_len) (by omega) 28 54 Tryz.underlying28 (by kernel_rfl) (of_decide_eq_true (by kernel_rfl)) (fun p => BkAt W (fun b => b < W.heap.size) p.1 p.2) (fun q hq cs x h hw => IH q (by omega) cs x h hw) g8 (fun k hk => hW k (.inr (.inr (.inr (.inr (.inr (.inr (.inr (.inr hk)))))))))
      rw [flat_snd] at h8
      injection e0 with e0; injection e1 with e1; injection e2 with e2; injection e3 with e3; injection e4 with e4; injection e5 with e5; injection e6 with e6 ex; injection ex with e61 ex; injection ex with e62
      refine ⟨(.mk a0 a1 a2 a3 a4 a5 id ao (li.map (·.1)) (l.map (·.1)), ⟨a0, a1, a2, a3, a4, a5, id, cl, pr, ln, kd⟩), by rw [e0, e1, e2, e3, e4, e5, e6, e61, e62, e7, e8]; rfl, ?_, ⟨rfl, rfl, rfl, rfl, rfl, rfl, rfl⟩, h6, ⟨_, h7, i7⟩, _, h8, BsAt.of_list l o8⟩
      intro s hs
      unfold bkT at hs
      rcases List.mem_append.1 hs with hs | hs
      · simp only [List.mem_cons, List.not_mem_nil, or_false] at hs
        rcases hs with rfl | rfl | rfl | rfl | rfl <;> assumption
      · exact o6 s hs
theorem open_blocks {q : Nat} {v : Value} {x : DataW H × List MemPlace} (h : DataW.trod enc Tryz.prog W 0 sp held q 28 [v] = some x) (hw : ∀ k ∈ x.1.weights Tryz.prog 28, k ≤ reachBytes) :
    ∃ (s : Sl) (l : List (Bk × BC)), v = s.v ∧ RdT W (fun b => b < W.heap.size) 11 s ((l.map (·.2)).flatMap BC.cells) ∧ (l.length = s.n ∧ s.n ≤ s.c ∧ s.c ≤ maxLen) ∧ BsAt W (fun b => b < W.heap.size) (l.map (·.1)) (l.map (·.2)) := by
  obtain ⟨kd, l, e7, h7, h8, o7⟩ := open_sliceG (fun p : Bk × BC => p.2.cells) 11 (fun p => p.2.cells_len) (by omega) 28 54 Tryz.underlying28 (by kernel_rfl) (of_decide_eq_true (by kernel_rfl)) (fun p => BkAt W (fun b => b < W.heap.size) p.1 p.2) (fun q hq cs x h hw => open_block q cs x h hw) h hw
  rw [flat_snd] at h7
  exact ⟨kd, l, e7, h7, h8, BsAt.of_list l o7⟩
/-- a document: its metadata, its blocks -/
theorem open_doc {b0 : Nat} {v : Value} {d : DataW H} {ps : List MemPlace} (hv : Value.okWide Tryz.prog W .any b0 30 v) (h : DataW.Trod enc Tryz.prog W 0 sp held 30 v d ps) (hw : ∀ k ∈ d.weights Tryz.prog 30, k ≤ reachBytes) :
    ∃ (mt : Sl) (ms : List (Bs × Bs)) (s : Sl) (l : List (Bk × BC)), v = .agg #[mt.v, s.v] ∧ RdT W (fun b => b < W.heap.size) 2 mt (ms.flatMap prF) ∧ okT (ms.flatMap fun p => [p.1, p.2]) ∧ (ms.length = mt.n ∧ mt.n ≤ mt.c ∧ mt.c ≤ maxLen) ∧
      RdT W (fun b => b < W.heap.size) 11 s ((l.map (·.2)).flatMap BC.cells) ∧ (l.length = s.n ∧ s.n ≤ s.c ∧ s.c ≤ maxLen) ∧ BsAt W (fun b => b < W.heap.size) (l.map (·.1)) (l.map (·.2)) := by
  obtain ⟨cs, rfl, hsz⟩ := okWide_struct Tryz.underlying30 hv
  obtain ⟨fuel, hf⟩ := h
  obtain ⟨xs, m, hm, hx, hlen, hxl, hg⟩ := DataW.trod_struct Tryz.underlying30 hf
  clear hf
  have cN : Tryz.prog.cellsOf 30 = 2 := by kernel_rfl
  have s0 : Tryz.prog.cellsOf 27 = 1 := by kernel_rfl
  have s1 : Tryz.prog.cellsOf 28 = 1 := by kernel_rfl
  rw [cN] at hlen
  have hd : d = DataW.agg (xs.map (·.1)) := congrArg Prod.fst hx
  subst hd
  clear hx
  obtain ⟨cl⟩ := cs
  match cl, hlen, xs, hxl with
  | [v0, v1], _, [y0, y1], _ =>
    have g0 : DataW.trod enc Tryz.prog W 0 sp held m 27 [v0] = some y0 := by have := hg 0 _ rfl; simpa [s0, Value.cells] using this
    have g1 : DataW.trod enc Tryz.prog W 0 sp held m 28 [v1] = some y1 := by have := hg 1 _ rfl; simpa [s1, Value.cells] using this
    have hW : ∀ k, (k ∈ y0.1.weights Tryz.prog 27 ∨ k ∈ y1.1.weights Tryz.prog 28) → k ≤ reachBytes := by
      intro k hk
      refine hw k ?_
      simp only [DataW.weights, Tryz.underlying30, List.map_cons, List.map_nil, DataW.weightsEach, List.mem_append]
      rcases hk with hk | hk
      · exact .inl hk
      · exact .inr (.inl hk)
    obtain ⟨mt, ms, e0, h0, l0, o0⟩ := open_prs g0 (fun k hk => hW k (.inl hk))
    obtain ⟨s, l, e1, h1, l1, o1⟩ := open_blocks g1 (fun k hk => hW k (.inr hk))
    exact ⟨mt, ms, s, l, by rw [e0, e1], h0, o0, l0, h1, l1, o1⟩
theorem BsB.of_at {s : Sl} {l : List (Bk × BC)} (h1 : RdT W (fun b => b < W.heap.size) 11 s ((l.map (·.2)).flatMap BC.cells)) (h2 : l.length = s.n) (h3 : BsAt W (fun b => b < W.heap.size) (l.map (·.1)) (l.map (·.2))) : BsB W W.heap.size (l.map (·.1)) s :=
  ⟨l.map (·.2), RdS.rd h1.1 (fun _ h => h), ⟨by simp, h1.2⟩, fun i k hk => h3.get hk⟩
end
end Go.Proofs.YtejjidbodfoiiaaGreatDoor
