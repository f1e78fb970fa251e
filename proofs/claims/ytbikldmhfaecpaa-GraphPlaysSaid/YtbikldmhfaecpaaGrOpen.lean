/-
  Layer 48 (graph): arguments that are calls (publisherlaw48.Op).
-/
import Derived.Test.YtbikldmhfaecpaaGrOp
import Derived.Deep.SlicePairs
import Derived.Lib.SmallJoins
import Derived.ChangeOld
import Derived.SizedLaws
namespace Go.Proofs.Ytbikldmhfaecpaa
open Go.ChangeShapes Go.WideShapes Go.ChangeAt Go.RowKit
open Go.ChangeMaps (open_string shut_string)
set_option linter.unusedVariables false
set_option linter.unusedSimpArgs false

theorem rd_rows {α : Type} {W : World} {sz : Nat} (f : α → List Value) (hf : ∀ x, (f x).length = sz) (hsz : 0 < sz) (a : Addr) (l : List α) (hS : 0 < l.length → a.block < W.heap.size)
    (hc : ∀ i x, l[i]? = some x → ∀ r u, (f x)[r]? = some u → W.cell? (a.add (i * sz + r)) = some u) : Rd W W.heap.size sz (some a) l.length (l.flatMap f) := by
  refine ⟨row_len f sz hf l, fun hn => ⟨a, rfl, hS hn, fun j u hj => ?_⟩⟩
  have hjl := (List.getElem?_eq_some_iff.1 hj).1
  rw [row_len f sz hf] at hjl
  have hi : j / sz < l.length := Nat.div_lt_of_lt_mul (by rw [Nat.mul_comm]; exact hjl)
  have hr := Nat.mod_lt j hsz
  have e : j = j / sz * sz + j % sz := by rw [Nat.mul_comm]; exact (Nat.div_add_mod j sz).symm
  have hx : l[j / sz]? = some l[j / sz] := List.getElem?_eq_getElem hi
  rw [e, row_at f sz hf l _ _ _ hx hr] at hj
  rw [e]
  exact hc _ _ hx _ _ hj
theorem wAll_mem {H : Type} {P : Program} {e : TypeId} : ∀ {l : List (DataW H)} {d : DataW H}, d ∈ l → ∀ k ∈ d.weights P e, k ∈ DataW.weightsAll P e l := by
  intro l
  induction l with
  | nil => intro d h; cases h
  | cons a r ih =>
    intro d h k hk
    rw [DataW.weightsAll, List.mem_append]
    rcases List.mem_cons.1 h with rfl | h
    · exact .inl hk
    · exact .inr (ih h k hk)
instance : Inhabited OpR := ⟨⟨0, [], [], [], 0, none, 0, 0⟩⟩
section
variable {H : Type} {enc : TypeId × Value → H} {W : World} {sp : Nat → Bool} {held : Bool}
theorem open_rows {α : Type} [Inhabited α] {t e : TypeId} {sz : Nat} (f : α → List Value) (hf : ∀ x, (f x).length = sz) (hsz : 0 < sz) (ht : Try.prog.underlying t = some (.slice e)) (hce : Try.prog.cellsOf e = sz) (hbe : 1 ≤ Try.prog.bytesOf e) (Q : α → Prop)
    (each : ∀ (m : Nat) (cs : List Value) (y : DataW H × List MemPlace), DataW.trod enc Try.prog W 0 sp held m e cs = some y → (∀ k ∈ y.1.weights Try.prog e, k ≤ reachBytes) → ∃ a, cs = f a ∧ Q a)
    {fuel : Nat} {v : Value} {x : DataW H × List MemPlace} (h : DataW.trod enc Try.prog W 0 sp held fuel t [v] = some x) (hw : ∀ k ∈ x.1.weights Try.prog t, k ≤ reachBytes) :
    ∃ (A : Option Addr) (n c : Nat) (l : List α), v = .slice A n c ∧ l.length = n ∧ Rd W W.heap.size sz A n (l.flatMap f) ∧ l.length ≤ 140737488355328 ∧ n ≤ c ∧ ∀ a ∈ l, Q a := by
  have hR : reachBytes ≤ 140737488355328 := by decide
  rcases DataW.trod_slice ht h with ⟨h0, _⟩ | ⟨a, len, cap, elems, rest, q, hq, h0, hy, hb, hl, hmx, hel, hall, _, _⟩
  · have : v = .slice none 0 0 := by simpa using h0
    subst this
    exact ⟨none, 0, 0, [], rfl, rfl, ⟨by simp, fun h => absurd h (Nat.lt_irrefl 0)⟩, by simp, Nat.le_refl _, by simp⟩
  · have : v = .slice (some a) len cap := by simpa using h0
    subst this
    have hwl : ∀ k ∈ DataW.weights Try.prog t (DataW.slice (elems.map (·.1)) (rest.map (·.1))), k ≤ reachBytes := fun k hk => hw k (by rw [hy]; exact hk)
    simp only [DataW.weights, ht, List.mem_cons, List.mem_append] at hwl
    have hlen2 : len ≤ 140737488355328 := by
      have h1 := hwl _ (.inl rfl)
      simp only [List.length_map] at h1
      rw [hel] at h1
      have h2 : (len + rest.length) * 1 ≤ (len + rest.length) * Try.prog.bytesOf e := Nat.mul_le_mul_left _ hbe
      omega
    have each2 : ∀ i, i < len → ∃ p : α, Q p ∧ ∀ r u, (f p)[r]? = some u → W.cell? (a.add (i * sz + r)) = some u := by
      intro i hi
      have hx := hall i hi
      have hie : elems[i]? = some elems[i] := List.getElem?_eq_getElem (by omega)
      rw [hie] at hx
      obtain ⟨cs', h1, h2⟩ := Option.bind_eq_some_iff.1 hx
      obtain ⟨p, ec, hn⟩ := each q cs' _ h2 (fun k hk => hwl k (.inr (.inl (wAll_mem (List.mem_map.2 ⟨elems[i], List.getElem_mem _, rfl⟩) k hk))))
      refine ⟨p, hn, fun r u hr => ?_⟩
      rw [hce] at h1
      obtain ⟨_, hl4, hc⟩ := World.cells?_some h1
      have hr4 : r < sz := by have := (List.getElem?_eq_some_iff.1 hr).1; rw [hf] at this; exact this
      have := hc r hr4
      rw [Go.Deep.add_add, ec, hr] at this
      exact this
    obtain ⟨P, hP⟩ := Go.Deep.choose_lt each2
    have hll : ((List.range len).map P).length = len := by simp
    have hK := rd_rows (W := W) f hf hsz a ((List.range len).map P) (fun hp => by
      rw [hll] at hp
      have h0 := (hP 0 hp).2 0 ((f (P 0))[0]'(by rw [hf]; exact hsz)) (List.getElem?_eq_getElem (by rw [hf]; exact hsz))
      have := World.block_lt_of_cell? W _ h0
      rwa [addr_block] at this) (fun i p hp r u hr => by
      have hi : i < len := by have := (List.getElem?_eq_some_iff.1 hp).1; rw [hll] at this; exact this
      rw [List.getElem?_map, List.getElem?_range hi] at hp
      have hp := Option.some.inj hp
      subst hp
      exact (hP i hi).2 r u hr)
    rw [hll] at hK
    refine ⟨some a, len, cap, (List.range len).map P, rfl, hll, hK, by rw [hll]; exact hlen2, hl, fun p hp => ?_⟩
    obtain ⟨i, hi, rfl⟩ := List.mem_map.1 hp
    exact (hP i (List.mem_range.1 hi)).1
theorem each_str (m : Nat) (cs : List Value) (y : DataW H × List MemPlace) (h : DataW.trod enc Try.prog W 0 sp held m 9 cs = some y) (hw : ∀ k ∈ y.1.weights Try.prog 9, k ≤ reachBytes) :
    ∃ a : List UInt8, cs = [.string (B a)] ∧ a.length ≤ 140737488355328 := by
  obtain ⟨s, e, d, _⟩ := DataW.trod_string Try.underlying9 h
  have hR : reachBytes ≤ 140737488355328 := by decide
  subst d
  exact ⟨s.data.toList, by rw [e]; rfl, Nat.le_trans (hw s.data.toList.length (by simp [DataW.weights])) hR⟩
set_option maxRecDepth 100000 in
theorem each_op (m : Nat) (cs : List Value) (y : DataW H × List MemPlace) (h : DataW.trod enc Try.prog W 0 sp held m 31 cs = some y) (hw : ∀ k ∈ y.1.weights Try.prog 31, k ≤ reachBytes) :
    ∃ a : OpR, cs = opF a ∧ (Rd W W.heap.size 1 a.A a.na (strs a.nd) ∧ a.na ≤ a.ca) := by
  obtain ⟨xs, n, hn, rfl, hlen, hxl, hf⟩ := DataW.trod_struct Try.underlying31 h
  have c2 : Try.prog.cellsOf 31 = 5 := by kernel_rfl
  have s1 : Try.prog.cellsOf 9 = 1 := by kernel_rfl
  have s2 : Try.prog.cellsOf 3 = 1 := by kernel_rfl
  have s4 : Try.prog.cellsOf 29 = 1 := by kernel_rfl
  rw [c2] at hlen
  match cs, hlen, xs, hxl with
  | [v0, v1, v2, v3, v4], _, [y0, y1, y2, y3, y4], _ =>
    have g0 : DataW.trod enc Try.prog W 0 sp held n 3 [v0] = some y0 := by have := hf 0 _ rfl; simpa [s2] using this
    have g1 : DataW.trod enc Try.prog W 0 sp held n 9 [v1] = some y1 := by have := hf 1 _ rfl; simpa [s1, s2] using this
    have g2 : DataW.trod enc Try.prog W 0 sp held n 9 [v2] = some y2 := by have := hf 2 _ rfl; simpa [s1, s2] using this
    have g3 : DataW.trod enc Try.prog W 0 sp held n 29 [v3] = some y3 := by have := hf 3 _ rfl; simpa [s1, s2, s4] using this
    have g4 : DataW.trod enc Try.prog W 0 sp held n 3 [v4] = some y4 := by have := hf 4 _ rfl; simpa [s1, s2, s4] using this
    have hW : ∀ k, (k ∈ y1.1.weights Try.prog 9 ∨ k ∈ y2.1.weights Try.prog 9 ∨ k ∈ y3.1.weights Try.prog 29) → k ≤ reachBytes := by
      intro k hk
      refine hw k ?_
      simp only [DataW.weights, Try.underlying31, List.map_cons, List.map_nil, DataW.weightsEach, List.mem_append]
      rcases hk with hk | hk | hk
      · exact .inr (.inl hk)
      · exact .inr (.inr (.inl hk))
      · exact .inr (.inr (.inr (.inl hk)))
    obtain ⟨a0, e0, _, _⟩ := DataW.trod_int Try.underlying3 g0
    obtain ⟨a1, e1, l1⟩ := each_str _ _ _ g1 (fun k hk => hW k (.inl hk))
    obtain ⟨a2, e2, l2⟩ := each_str _ _ _ g2 (fun k hk => hW k (.inr (.inl hk)))
    obtain ⟨F, nf, cf, fs, e3, m6, r6, l6, k6, q6⟩ := open_rows (sz := 1) (fun s : List UInt8 => [Value.string (B s)]) (fun _ => rfl) (by omega) Try.underlying29 (by kernel_rfl) (of_decide_eq_true (by kernel_rfl)) (fun a => a.length ≤ 140737488355328) each_str g3 (fun k hk => hW k (.inr (.inr hk)))
    rw [← strs_flat] at r6
    obtain ⟨a4, e4, _, _⟩ := DataW.trod_int Try.underlying3 g4
    injection e0 with e0 _
    injection e1 with e1 _
    injection e2 with e2 _
    injection e4 with e4 _
    exact ⟨⟨a0, a1, a2, fs, a4, F, nf, cf⟩, by rw [e0, e1, e2, e3, e4]; rfl, r6, k6⟩
set_option maxRecDepth 100000 in
theorem open_ops {b0 : Nat} {v : Value} {d : DataW H} {ps : List MemPlace} (hv : Value.okWide Try.prog W .any b0 22 v) (h : DataW.Trod enc Try.prog W 0 sp held 22 v d ps) (hw : ∀ k ∈ d.weights Try.prog 22, k ≤ reachBytes) :
    ∃ (A : Option Addr) (n c : Nat) (l : List OpR), v = .slice A n c ∧ OpAt W W.heap.size A n l ∧ n ≤ 140737488355328 := by
  obtain ⟨a, len, cap, rfl⟩ := okWide_slice Try.underlying22 hv
  obtain ⟨fuel, h⟩ := h
  have h : DataW.trod enc Try.prog W 0 sp held fuel 22 [.slice a len cap] = some (d, ps) := h
  obtain ⟨A, n, c, l, e, hl, hr, hn, _, hq⟩ := open_rows (sz := 5) opF opF_len (by omega) Try.underlying22 (by kernel_rfl) (of_decide_eq_true (by kernel_rfl)) (fun a => Rd W W.heap.size 1 a.A a.na (strs a.nd) ∧ a.na ≤ a.ca) each_op h hw
  exact ⟨A, n, c, l, e, ⟨hr, fun b hb => (hq b hb).1, fun b hb => (hq b hb).2⟩, by rw [← hl]; exact hn⟩
end
end Go.Proofs.Ytbikldmhfaecpaa
