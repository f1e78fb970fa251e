/-
  Layer 40 (page): arguments that are boxes, and pages.
-/
import Derived.Test.YtpgpkgpiengmkaaDoorPgM
import Derived.Deep.SlicePairs
import Derived.Lib.SmallJoins
import Derived.ChangeOld
import Derived.SizedLaws
namespace Go.Proofs.YtpgpkgpiengmkaaDoor
open Go.ChangeShapes Go.WideShapes Go.ChangeAt Go.RowKit
open Go.ChangeMaps (open_string shut_string)
set_option linter.unusedVariables false
set_option linter.unusedSimpArgs false

theorem rd_rows {α : Type} {W : World} {sz : Nat} (f : α → List Value) (hf : ∀ x, (f x).length = sz) (hsz : 0 < sz) (a : Addr) (l : List α) (hS : 0 < l.length → a.block < W.heap.size)
    (hc : ∀ i x, l[i]? = some x → ∀ r u, (f x)[r]? = some u → W.cell? (a.add (i * sz + r)) = some u) : Rd W W.heap.size sz (some a) l.length (l.flatMap f) := by
  refine ⟨row_len f sz hf l, fun hn => ⟨a, rfl, hS hn, fun j u hj => ?_⟩⟩
  have hjl := (List.getElem?_eq_some_iff.1 hj).1
  rw [row_len f sz hf] at hjl
  have hi : j / sz < l.length := Nat.div_lt_of_lt_mul (by rw [Nat.mul_comm]; exact hjl)
  have hr := Nat.mod_lt j hsz
  have e : j = j / sz * sz + j % sz := by rw [Nat.mul_comm]; exact (Nat.div_add_mod j sz).symm
  have hx : l[j / sz]? = some l[j / sz] := List.getElem?_eq_getElem hi
  rw [e, row_at f sz hf l _ _ _ hx hr] at hj
  rw [e]
  exact hc _ _ hx _ _ hj
theorem wAll_mem {H : Type} {P : Program} {e : TypeId} : ∀ {l : List (DataW H)} {d : DataW H}, d ∈ l → ∀ k ∈ d.weights P e, k ∈ DataW.weightsAll P e l := by
  intro l
  induction l with
  | nil => intro d h; cases h
  | cons a r ih =>
    intro d h k hk
    rw [DataW.weightsAll, List.mem_append]
    rcases List.mem_cons.1 h with rfl | h
    · exact .inl hk
    · exact .inr (ih h k hk)
instance : Inhabited Bx := ⟨⟨[], 0, 0, false, false, [], none, 0, 0⟩⟩
instance : Inhabited Pg := ⟨⟨[], 0, none, 0, 0⟩⟩
section
variable {H : Type} {enc : TypeId × Value → H} {W : World} {sp : Nat → Bool} {held : Bool}
theorem open_rows {α : Type} [Inhabited α] {t e : TypeId} {sz : Nat} (f : α → List Value) (hf : ∀ x, (f x).length = sz) (hsz : 0 < sz) (ht : Tryd.prog.underlying t = some (.slice e)) (hce : Tryd.prog.cellsOf e = sz) (hbe : 1 ≤ Tryd.prog.bytesOf e) (Q : α → Prop)
    (each : ∀ (m : Nat) (cs : List Value) (y : DataW H × List MemPlace), DataW.trod enc Tryd.prog W 0 sp held m e cs = some y → (∀ k ∈ y.1.weights Tryd.prog e, k ≤ reachBytes) → ∃ a, cs = f a ∧ Q a)
    {fuel : Nat} {v : Value} {x : DataW H × List MemPlace} (h : DataW.trod enc Tryd.prog W 0 sp held fuel t [v] = some x) (hw : ∀ k ∈ x.1.weights Tryd.prog t, k ≤ reachBytes) :
    ∃ (A : Option Addr) (n c : Nat) (l : List α), v = .slice A n c ∧ l.length = n ∧ Rd W W.heap.size sz A n (l.flatMap f) ∧ l.length ≤ 140737488355328 ∧ ∀ a ∈ l, Q a := by
  have hR : reachBytes ≤ 140737488355328 := by decide
  rcases DataW.trod_slice ht h with ⟨h0, _⟩ | ⟨a, len, cap, elems, rest, q, hq, h0, hy, hb, hl, hmx, hel, hall, _, _⟩
  · have : v = .slice none 0 0 := by simpa using h0
    subst this
    exact ⟨none, 0, 0, [], rfl, rfl, ⟨by simp, fun h => absurd h (Nat.lt_irrefl 0)⟩, by simp, by simp⟩
  · have : v = .slice (some a) len cap := by simpa using h0
    subst this
    have hwl : ∀ k ∈ DataW.weights Tryd.prog t (DataW.slice (elems.map (·.1)) (rest.map (·.1))), k ≤ reachBytes := fun k hk => hw k (by rw [hy]; exact hk)
    simp only [DataW.weights, ht, List.mem_cons, List.mem_append] at hwl
    have hlen2 : len ≤ 140737488355328 := by
      have h1 := hwl _ (.inl rfl)
      simp only [List.length_map] at h1
      rw [hel] at h1
      have h2 : (len + rest.length) * 1 ≤ (len + rest.length) * Tryd.prog.bytesOf e := Nat.mul_le_mul_left _ hbe
      omega
    have each2 : ∀ i, i < len → ∃ p : α, Q p ∧ ∀ r u, (f p)[r]? = some u → W.cell? (a.add (i * sz + r)) = some u := by
      intro i hi
      have hx := hall i hi
      have hie : elems[i]? = some elems[i] := List.getElem?_eq_getElem (by omega)
      rw [hie] at hx
      obtain ⟨cs', h1, h2⟩ := Option.bind_eq_some_iff.1 hx
      obtain ⟨p, ec, hn⟩ := each q cs' _ h2 (fun k hk => hwl k (.inr (.inl (wAll_mem (List.mem_map.2 ⟨elems[i], List.getElem_mem _, rfl⟩) k hk))))
      refine ⟨p, hn, fun r u hr => ?_⟩
      rw [hce] at h1
      obtain ⟨_, hl4, hc⟩ := World.cells?_some h1
      have hr4 : r < sz := by have := (List.getElem?_eq_some_iff.1 hr).1; rw [hf] at this; exact this
      have := hc r hr4
      rw [Go.Deep.add_add, ec, hr] at this
      exact this
    obtain ⟨P, hP⟩ := Go.Deep.choose_lt each2
    have hll : ((List.range len).map P).length = len := by simp
    have hK := rd_rows (W := W) f hf hsz a ((List.range len).map P) (fun hp => by
      rw [hll] at hp
      have h0 := (hP 0 hp).2 0 ((f (P 0))[0]'(by rw [hf]; exact hsz)) (List.getElem?_eq_getElem (by rw [hf]; exact hsz))
      have := World.block_lt_of_cell? W _ h0
      rwa [addr_block] at this) (fun i p hp r u hr => by
      have hi : i < len := by have := (List.getElem?_eq_some_iff.1 hp).1; rw [hll] at this; exact this
      rw [List.getElem?_map, List.getElem?_range hi] at hp
      have hp := Option.some.inj hp
      subst hp
      exact (hP i hi).2 r u hr)
    rw [hll] at hK
    refine ⟨some a, len, cap, (List.range len).map P, rfl, hll, hK, by rw [hll]; exact hlen2, fun p hp => ?_⟩
    obtain ⟨i, hi, rfl⟩ := List.mem_map.1 hp
    exact (hP i (List.mem_range.1 hi)).1
theorem each_str (m : Nat) (cs : List Value) (y : DataW H × List MemPlace) (h : DataW.trod enc Tryd.prog W 0 sp held m 9 cs = some y) (hw : ∀ k ∈ y.1.weights Tryd.prog 9, k ≤ reachBytes) :
    ∃ a : List UInt8, cs = [.string (B a)] ∧ a.length ≤ 140737488355328 := by
  obtain ⟨s, e, d, _⟩ := DataW.trod_string Tryd.underlying9 h
  have hR : reachBytes ≤ 140737488355328 := by decide
  subst d
  exact ⟨s.data.toList, by rw [e]; rfl, Nat.le_trans (hw s.data.toList.length (by simp [DataW.weights])) hR⟩
theorem each_int (m : Nat) (cs : List Value) (y : DataW H × List MemPlace) (h : DataW.trod enc Tryd.prog W 0 sp held m 3 cs = some y) (hw : ∀ k ∈ y.1.weights Tryd.prog 3, k ≤ reachBytes) :
    ∃ a : Int, cs = [.int .i64 a] ∧ True := by
  obtain ⟨i, e, _, _⟩ := DataW.trod_int Tryd.underlying3 h
  exact ⟨i, e, trivial⟩
set_option maxRecDepth 100000 in
theorem each_box (m : Nat) (cs : List Value) (y : DataW H × List MemPlace) (h : DataW.trod enc Tryd.prog W 0 sp held m 45 cs = some y) (hw : ∀ k ∈ y.1.weights Tryd.prog 45, k ≤ reachBytes) :
    ∃ a : Bx, cs = bxF a ∧ Rd W W.heap.size 1 a.A a.na (strs a.an) := by
  obtain ⟨xs, n, hn, rfl, hlen, hxl, hf⟩ := DataW.trod_struct Tryd.underlying45 h
  have c2 : Tryd.prog.cellsOf 45 = 6 := by kernel_rfl
  have s1 : Tryd.prog.cellsOf 9 = 1 := by kernel_rfl
  have s2 : Tryd.prog.cellsOf 3 = 1 := by kernel_rfl
  have s3 : Tryd.prog.cellsOf 4 = 1 := by kernel_rfl
  have s4 : Tryd.prog.cellsOf 43 = 1 := by kernel_rfl
  rw [c2] at hlen
  match cs, hlen, xs, hxl with
  | [v0, v1, v2, v3, v4, v5], _, [y0, y1, y2, y3, y4, y5], _ =>
    have g0 : DataW.trod enc Tryd.prog W 0 sp held n 9 [v0] = some y0 := by have := hf 0 _ rfl; simpa [s1] using this
    have g1 : DataW.trod enc Tryd.prog W 0 sp held n 3 [v1] = some y1 := by have := hf 1 _ rfl; simpa [s2] using this
    have g2 : DataW.trod enc Tryd.prog W 0 sp held n 3 [v2] = some y2 := by have := hf 2 _ rfl; simpa [s2] using this
    have g3 : DataW.trod enc Tryd.prog W 0 sp held n 4 [v3] = some y3 := by have := hf 3 _ rfl; simpa [s3] using this
    have g4 : DataW.trod enc Tryd.prog W 0 sp held n 4 [v4] = some y4 := by have := hf 4 _ rfl; simpa [s3] using this
    have g5 : DataW.trod enc Tryd.prog W 0 sp held n 43 [v5] = some y5 := by have := hf 5 _ rfl; simpa [s4] using this
    have hW : ∀ k, (k ∈ y0.1.weights Tryd.prog 9 ∨ k ∈ y5.1.weights Tryd.prog 43) → k ≤ reachBytes := by
      intro k hk
      refine hw k ?_
      simp only [DataW.weights, Tryd.underlying45, List.map_cons, List.map_nil, DataW.weightsEach, List.mem_append]
      rcases hk with hk | hk
      · exact .inl hk
      · exact .inr (.inr (.inr (.inr (.inr (.inl hk)))))
    obtain ⟨a0, e0, l0⟩ := each_str _ _ _ g0 (fun k hk => hW k (.inl hk))
    obtain ⟨a1, e1, _, _⟩ := DataW.trod_int Tryd.underlying3 g1
    obtain ⟨a2, e2, _, _⟩ := DataW.trod_int Tryd.underlying3 g2
    obtain ⟨a3, e3, _⟩ := DataW.trod_bool Tryd.underlying4 g3
    obtain ⟨a4, e4, _⟩ := DataW.trod_bool Tryd.underlying4 g4
    obtain ⟨F, nf, cf, fs, e5, m6, r6, l6, q6⟩ := open_rows (sz := 1) (fun s : List UInt8 => [Value.string (B s)]) (fun _ => rfl) (by omega) Tryd.underlying43 (by kernel_rfl) (of_decide_eq_true (by kernel_rfl)) (fun a => a.length ≤ 140737488355328) each_str g5 (fun k hk => hW k (.inr hk))
    rw [← strs_flat] at r6
    injection e0 with e0 _
    injection e1 with e1 _
    injection e2 with e2 _
    injection e3 with e3 _
    injection e4 with e4 _
    exact ⟨⟨a0, a1, a2, a3, a4, fs, F, nf, cf⟩, by rw [e0, e1, e2, e3, e4, e5]; rfl, r6⟩
set_option maxRecDepth 100000 in
theorem each_page (m : Nat) (cs : List Value) (y : DataW H × List MemPlace) (h : DataW.trod enc Tryd.prog W 0 sp held m 42 cs = some y) (hw : ∀ k ∈ y.1.weights Tryd.prog 42, k ≤ reachBytes) :
    ∃ a : Pg, cs = pgF a ∧ Rd W W.heap.size 1 a.A a.nb (ints a.bs) ∧ a.nb ≤ 140737488355328 := by
  obtain ⟨xs, n, hn, rfl, hlen, hxl, hf⟩ := DataW.trod_struct Tryd.underlying42 h
  have c2 : Tryd.prog.cellsOf 42 = 2 := by kernel_rfl
  have s2 : Tryd.prog.cellsOf 3 = 1 := by kernel_rfl
  have s4 : Tryd.prog.cellsOf 40 = 1 := by kernel_rfl
  rw [c2] at hlen
  match cs, hlen, xs, hxl with
  | [v0, v1], _, [y0, y1], _ =>
    have g0 : DataW.trod enc Tryd.prog W 0 sp held n 40 [v0] = some y0 := by have := hf 0 _ rfl; simpa [s4] using this
    have g1 : DataW.trod enc Tryd.prog W 0 sp held n 3 [v1] = some y1 := by have := hf 1 _ rfl; simpa [s2] using this
    have hW : ∀ k, (k ∈ y0.1.weights Tryd.prog 40) → k ≤ reachBytes := by
      intro k hk
      refine hw k ?_
      simp only [DataW.weights, Tryd.underlying42, List.map_cons, List.map_nil, DataW.weightsEach, List.mem_append]
      exact .inl hk
    obtain ⟨a1, e1, _, _⟩ := DataW.trod_int Tryd.underlying3 g1
    obtain ⟨F, nf, cf, fs, e5, m6, r6, l6, q6⟩ := open_rows (sz := 1) (fun x : Int => [Value.int .i64 x]) (fun _ => rfl) (by omega) Tryd.underlying40 (by kernel_rfl) (of_decide_eq_true (by kernel_rfl)) (fun _ => True) each_int g0 (fun k hk => hW k hk)
    rw [← ints_flat] at r6
    injection e1 with e1 _
    exact ⟨⟨fs, a1, F, nf, cf⟩, by rw [e1, e5]; rfl, r6, by rw [← m6]; exact l6⟩
set_option maxRecDepth 100000 in
theorem open_boxes {b0 : Nat} {v : Value} {d : DataW H} {ps : List MemPlace} (hv : Value.okWide Tryd.prog W .any b0 22 v) (h : DataW.Trod enc Tryd.prog W 0 sp held 22 v d ps) (hw : ∀ k ∈ d.weights Tryd.prog 22, k ≤ reachBytes) :
    ∃ (A : Option Addr) (n c : Nat) (l : List Bx), v = .slice A n c ∧ BxAt W W.heap.size A n l ∧ n ≤ 140737488355328 := by
  obtain ⟨a, len, cap, rfl⟩ := okWide_slice Tryd.underlying22 hv
  obtain ⟨fuel, h⟩ := h
  have h : DataW.trod enc Tryd.prog W 0 sp held fuel 22 [.slice a len cap] = some (d, ps) := h
  obtain ⟨A, n, c, l, e, hl, hr, hn, hq⟩ := open_rows (sz := 6) bxF bxF_len (by omega) Tryd.underlying22 (by kernel_rfl) (of_decide_eq_true (by kernel_rfl)) (fun a => Rd W W.heap.size 1 a.A a.na (strs a.an)) each_box h hw
  exact ⟨A, n, c, l, e, ⟨hr, hq⟩, by rw [← hl]; exact hn⟩
set_option maxRecDepth 100000 in
theorem open_pages {b0 : Nat} {v : Value} {d : DataW H} {ps : List MemPlace} (hv : Value.okWide Tryd.prog W .any b0 25 v) (h : DataW.Trod enc Tryd.prog W 0 sp held 25 v d ps) (hw : ∀ k ∈ d.weights Tryd.prog 25, k ≤ reachBytes) :
    ∃ (A : Option Addr) (n c : Nat) (l : List Pg), v = .slice A n c ∧ PgAt W W.heap.size A n l ∧ n ≤ 140737488355328 ∧ ∀ p ∈ l, p.nb ≤ 140737488355328 := by
  obtain ⟨a, len, cap, rfl⟩ := okWide_slice Tryd.underlying25 hv
  obtain ⟨fuel, h⟩ := h
  have h : DataW.trod enc Tryd.prog W 0 sp held fuel 25 [.slice a len cap] = some (d, ps) := h
  obtain ⟨A, n, c, l, e, hl, hr, hn, hq⟩ := open_rows (sz := 2) pgF pgF_len (by omega) Tryd.underlying25 (by kernel_rfl) (of_decide_eq_true (by kernel_rfl)) (fun a => Rd W W.heap.size 1 a.A a.nb (ints a.bs) ∧ a.nb ≤ 140737488355328) each_page h hw
  exact ⟨A, n, c, l, e, ⟨hr, fun p hp => (hq p hp).1⟩, by rw [← hl]; exact hn, fun p hp => (hq p hp).2⟩
end
end Go.Proofs.YtpgpkgpiengmkaaDoor
