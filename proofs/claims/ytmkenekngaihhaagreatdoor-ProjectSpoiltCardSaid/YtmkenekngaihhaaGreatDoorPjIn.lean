/-
  Layer 49 (project): arguments of the type api.Project.
  Layer 49 (project): a world that lays the listed tables, for the witness; what a shaped world with the listed tables gives.
-/
import Derived.Test.YtmkenekngaihhaaGreatDoorPjTop
import Derived.Deep.SlicePairs
import Derived.Lib.SmallJoins
import Derived.ChangeOld
import Derived.SizedLaws
import Derived.Test.YtmkenekngaihhaaGreatDoorCards
import Derived.Test.YtmkenekngaihhaaGreatDoorTie
import Derived.Test.YtmkenekngaihhaaGreatDoorLocB
import Derived.WalkKit
import Derived.ProofKit
import Derived.OpenShut
import Derived.SliceStrings
import Derived.Deep.DeepHandedRow
import Derived.Deep.DeepLaidRun
import Derived.Lib.LaidTab
namespace Go.Proofs.YtmkenekngaihhaaGreatDoor
open Go.ChangeShapes Go.WideShapes Go.ChangeAt Go.RowKit
open Go.ChangeMaps (open_string shut_string)
set_option linter.unusedVariables false
set_option linter.unusedSimpArgs false

theorem rd_rows {α : Type} {W : World} {sz : Nat} (f : α → List Value) (hf : ∀ x, (f x).length = sz) (hsz : 0 < sz) (a : Addr) (l : List α) (hS : 0 < l.length → a.block < W.heap.size)
    (hc : ∀ i x, l[i]? = some x → ∀ r u, (f x)[r]? = some u → W.cell? (a.add (i * sz + r)) = some u) : Rd W W.heap.size sz (some a) l.length (l.flatMap f) := by
  refine ⟨row_len f sz hf l, fun hn => ⟨a, rfl, hS hn, fun j u hj => ?_⟩⟩
  have hjl := (List.getElem?_eq_some_iff.1 hj).1
  rw [row_len f sz hf] at hjl
  have hi : j / sz < l.length := Nat.div_lt_of_lt_mul (by rw [Nat.mul_comm]; exact hjl)
  have hr := Nat.mod_lt j hsz
  have e : j = j / sz * sz + j % sz := by rw [Nat.mul_comm]; exact (Nat.div_add_mod j sz).symm
  have hx : l[j / sz]? = some l[j / sz] := List.getElem?_eq_getElem hi
  rw [e, row_at f sz hf l _ _ _ hx hr] at hj
  rw [e]
  exact hc _ _ hx _ _ hj
theorem wAll_mem {H : Type} {P : Program} {e : TypeId} : ∀ {l : List (DataW H)} {d : DataW H}, d ∈ l → ∀ k ∈ d.weights P e, k ∈ DataW.weightsAll P e l := by
  intro l
  induction l with
  | nil => intro d h; cases h
  | cons a r ih =>
    intro d h k hk
    rw [DataW.weightsAll, List.mem_append]
    rcases List.mem_cons.1 h with rfl | h
    · exact .inl hk
    · exact .inr (ih h k hk)
instance : Inhabited Tg := ⟨⟨[], [], 0, 0⟩⟩
theorem strs_flat (l : List (List UInt8)) : l.flatMap (fun s => [Value.string (B s)]) = strs l := by
  induction l with
  | nil => rfl
  | cons a r ih => rw [List.flatMap_cons, ih]; rfl

section
variable {H : Type} {enc : TypeId × Value → H} {W : World} {sp : Nat → Bool} {held : Bool}
theorem open_rows {α : Type} [Inhabited α] {t e : TypeId} {sz : Nat} (f : α → List Value) (hf : ∀ x, (f x).length = sz) (hsz : 0 < sz) (ht : Tryz.prog.underlying t = some (.slice e)) (hce : Tryz.prog.cellsOf e = sz) (hbe : 1 ≤ Tryz.prog.bytesOf e) (Q : α → Prop)
    (each : ∀ (m : Nat) (cs : List Value) (y : DataW H × List MemPlace), DataW.trod enc Tryz.prog W 0 sp held m e cs = some y → (∀ k ∈ y.1.weights Tryz.prog e, k ≤ reachBytes) → ∃ a, cs = f a ∧ Q a)
    {fuel : Nat} {v : Value} {x : DataW H × List MemPlace} (h : DataW.trod enc Tryz.prog W 0 sp held fuel t [v] = some x) (hw : ∀ k ∈ x.1.weights Tryz.prog t, k ≤ reachBytes) :
    ∃ (A : Option Addr) (n c : Nat) (l : List α), v = .slice A n c ∧ l.length = n ∧ Rd W W.heap.size sz A n (l.flatMap f) ∧ l.length ≤ 140737488355328 ∧ ∀ a ∈ l, Q a := by
  have hR : reachBytes ≤ 140737488355328 := by decide
  rcases DataW.trod_slice ht h with ⟨h0, _⟩ | ⟨a, len, cap, elems, rest, q, hq, h0, hy, hb, hl, hmx, hel, hall, _, _⟩
  · have : v = .slice none 0 0 := by simpa using h0
    subst this
    exact ⟨none, 0, 0, [], rfl, rfl, ⟨by simp, fun h => absurd h (Nat.lt_irrefl 0)⟩, by simp, by simp⟩
  · have : v = .slice (some a) len cap := by simpa using h0
    subst this
    have hwl : ∀ k ∈ DataW.weights Tryz.prog t (DataW.slice (elems.map (·.1)) (rest.map (·.1))), k ≤ reachBytes := fun k hk => hw k (by rw [hy]; exact hk)
    simp only [DataW.weights, ht, List.mem_cons, List.mem_append] at hwl
    have hlen2 : len ≤ 140737488355328 := by
      have h1 := hwl _ (.inl rfl)
      simp only [List.length_map] at h1
      rw [hel] at h1
      have h2 : (len + rest.length) * 1 ≤ (len + rest.length) * Tryz.prog.bytesOf e := Nat.mul_le_mul_left _ hbe
      omega
    have each2 : ∀ i, i < len → ∃ p : α, Q p ∧ ∀ r u, (f p)[r]? = some u → W.cell? (a.add (i * sz + r)) = some u := by
      intro i hi
      have hx := hall i hi
      have hie : elems[i]? = some elems[i] := List.getElem?_eq_getElem (by omega)
      rw [hie] at hx
      obtain ⟨cs', h1, h2⟩ := Option.bind_eq_some_iff.1 hx
      obtain ⟨p, ec, hn⟩ := each q cs' _ h2 (fun k hk => hwl k (.inr (.inl (wAll_mem (List.mem_map.2 ⟨elems[i], List.getElem_mem _, rfl⟩) k hk))))
      refine ⟨p, hn, fun r u hr => ?_⟩
      rw [hce] at h1
      obtain ⟨_, hl4, hc⟩ := World.cells?_some h1
      have hr4 : r < sz := by have := (List.getElem?_eq_some_iff.1 hr).1; rw [hf] at this; exact this
      have := hc r hr4
      rw [Go.Deep.add_add, ec, hr] at this
      exact this
    obtain ⟨P, hP⟩ := Go.Deep.choose_lt each2
    have hll : ((List.range len).map P).length = len := by simp
    have hK := rd_rows (W := W) f hf hsz a ((List.range len).map P) (fun hp => by
      rw [hll] at hp
      have h0 := (hP 0 hp).2 0 ((f (P 0))[0]'(by rw [hf]; exact hsz)) (List.getElem?_eq_getElem (by rw [hf]; exact hsz))
      have := World.block_lt_of_cell? W _ h0
      rwa [addr_block] at this) (fun i p hp r u hr => by
      have hi : i < len := by have := (List.getElem?_eq_some_iff.1 hp).1; rw [hll] at this; exact this
      rw [List.getElem?_map, List.getElem?_range hi] at hp
      have hp := Option.some.inj hp
      subst hp
      exact (hP i hi).2 r u hr)
    rw [hll] at hK
    refine ⟨some a, len, cap, (List.range len).map P, rfl, hll, hK, by rw [hll]; exact hlen2, fun p hp => ?_⟩
    obtain ⟨i, hi, rfl⟩ := List.mem_map.1 hp
    exact (hP i (List.mem_range.1 hi)).1
theorem each_str (m : Nat) (cs : List Value) (y : DataW H × List MemPlace) (h : DataW.trod enc Tryz.prog W 0 sp held m 9 cs = some y) (hw : ∀ k ∈ y.1.weights Tryz.prog 9, k ≤ reachBytes) :
    ∃ a : List UInt8, cs = [.string (B a)] ∧ a.length ≤ 140737488355328 := by
  obtain ⟨s, e, d, _⟩ := DataW.trod_string Tryz.underlying9 h
  have hR : reachBytes ≤ 140737488355328 := by decide
  subst d
  exact ⟨s.data.toList, by rw [e]; rfl, Nat.le_trans (hw s.data.toList.length (by simp [DataW.weights])) hR⟩
set_option maxRecDepth 100000 in
theorem each_pair (m : Nat) (cs : List Value) (y : DataW H × List MemPlace) (h : DataW.trod enc Tryz.prog W 0 sp held m 40 cs = some y) (hw : ∀ k ∈ y.1.weights Tryz.prog 40, k ≤ reachBytes) :
    ∃ a : List UInt8 × List UInt8, cs = prF a ∧ (a.1.length ≤ 140737488355328 ∧ a.2.length ≤ 140737488355328) := by
  obtain ⟨xs, n, hn, rfl, hlen, hxl, hf⟩ := DataW.trod_struct Tryz.underlying40 h
  have c2 : Tryz.prog.cellsOf 40 = 2 := by kernel_rfl
  have s1 : Tryz.prog.cellsOf 9 = 1 := by kernel_rfl
  rw [c2] at hlen
  match cs, hlen, xs, hxl with
  | [v0, v1], _, [y0, y1], _ =>
    have g0 : DataW.trod enc Tryz.prog W 0 sp held n 9 [v0] = some y0 := by have := hf 0 _ rfl; simpa [s1] using this
    have g1 : DataW.trod enc Tryz.prog W 0 sp held n 9 [v1] = some y1 := by have := hf 1 _ rfl; simpa [s1] using this
    have hW : ∀ k, (k ∈ y0.1.weights Tryz.prog 9 ∨ k ∈ y1.1.weights Tryz.prog 9) → k ≤ reachBytes := by
      intro k hk
      refine hw k ?_
      simp only [DataW.weights, Tryz.underlying40, List.map_cons, List.map_nil, DataW.weightsEach, List.mem_append]
      rcases hk with hk | hk
      · exact .inl hk
      · exact .inr (.inl hk)
    obtain ⟨a, e0, l0⟩ := each_str _ _ _ g0 (fun k hk => hW k (.inl hk))
    obtain ⟨b, e1, l1⟩ := each_str _ _ _ g1 (fun k hk => hW k (.inr hk))
    injection e0 with e0 _
    injection e1 with e1 _
    exact ⟨(a, b), by rw [e0, e1]; rfl, l0, l1⟩
set_option maxRecDepth 100000 in
theorem each_tg (m : Nat) (cs : List Value) (y : DataW H × List MemPlace) (h : DataW.trod enc Tryz.prog W 0 sp held m 38 cs = some y) (hw : ∀ k ∈ y.1.weights Tryz.prog 38, k ≤ reachBytes) :
    ∃ a : Tg, cs = tgF a ∧ (a.nm.length ≤ 140737488355328 ∧ a.kd.length ≤ 140737488355328) := by
  obtain ⟨xs, n, hn, rfl, hlen, hxl, hf⟩ := DataW.trod_struct Tryz.underlying38 h
  have c2 : Tryz.prog.cellsOf 38 = 4 := by kernel_rfl
  have s1 : Tryz.prog.cellsOf 9 = 1 := by kernel_rfl
  have s2 : Tryz.prog.cellsOf 3 = 1 := by kernel_rfl
  rw [c2] at hlen
  match cs, hlen, xs, hxl with
  | [v0, v1, v2, v3], _, [y0, y1, y2, y3], _ =>
    have g0 : DataW.trod enc Tryz.prog W 0 sp held n 9 [v0] = some y0 := by have := hf 0 _ rfl; simpa [s1] using this
    have g1 : DataW.trod enc Tryz.prog W 0 sp held n 9 [v1] = some y1 := by have := hf 1 _ rfl; simpa [s1] using this
    have g2 : DataW.trod enc Tryz.prog W 0 sp held n 3 [v2] = some y2 := by have := hf 2 _ rfl; simpa [s2] using this
    have g3 : DataW.trod enc Tryz.prog W 0 sp held n 3 [v3] = some y3 := by have := hf 3 _ rfl; simpa [s2] using this
    have hW : ∀ k, (k ∈ y0.1.weights Tryz.prog 9 ∨ k ∈ y1.1.weights Tryz.prog 9) → k ≤ reachBytes := by
      intro k hk
      refine hw k ?_
      simp only [DataW.weights, Tryz.underlying38, List.map_cons, List.map_nil, DataW.weightsEach, List.mem_append]
      rcases hk with hk | hk
      · exact .inl hk
      · exact .inr (.inl hk)
    obtain ⟨a, e0, l0⟩ := each_str _ _ _ g0 (fun k hk => hW k (.inl hk))
    obtain ⟨b, e1, l1⟩ := each_str _ _ _ g1 (fun k hk => hW k (.inr hk))
    obtain ⟨i, e2, _, _⟩ := DataW.trod_int Tryz.underlying3 g2
    obtain ⟨j, e3, _, _⟩ := DataW.trod_int Tryz.underlying3 g3
    injection e0 with e0 _
    injection e1 with e1 _
    injection e2 with e2 _
    injection e3 with e3 _
    exact ⟨⟨a, b, i, j⟩, by rw [e0, e1, e2, e3]; rfl, l0, l1⟩
set_option maxRecDepth 100000 in
theorem open_project {b0 : Nat} {v : Value} {d : DataW H} {ps : List MemPlace} (hv : Value.okWide Tryz.prog W .any b0 26 v) (h : DataW.Trod enc Tryz.prog W 0 sp held 26 v d ps) (hw : ∀ k ∈ d.weights Tryz.prog 26, k ≤ reachBytes) :
    ∃ (p : Pj) (c : PC), v = .agg #[.string (B p.ti), .string (B p.la), .string (B p.ma), .string (B p.so), .string (B p.st), .slice c.A c.na c.ca, .slice c.F c.nf c.cf, .slice c.T c.nt c.ct] ∧ PjAt W W.heap.size p c ∧ PjMx p := by
  obtain ⟨cs, rfl, hsz⟩ := okWide_struct Tryz.underlying26 hv
  obtain ⟨fuel, h⟩ := h
  obtain ⟨l⟩ := cs
  have h : DataW.trod enc Tryz.prog W 0 sp held fuel 26 l = some (d, ps) := h
  obtain ⟨xs, n, hn, hx, hlen, hxl, hf⟩ := DataW.trod_struct Tryz.underlying26 h
  have c8 : Tryz.prog.cellsOf 26 = 8 := by kernel_rfl
  have s1 : Tryz.prog.cellsOf 9 = 1 := by kernel_rfl
  have s2 : Tryz.prog.cellsOf 22 = 1 := by kernel_rfl
  have s3 : Tryz.prog.cellsOf 23 = 1 := by kernel_rfl
  have s4 : Tryz.prog.cellsOf 24 = 1 := by kernel_rfl
  have hd : d = .agg (xs.map (·.1)) := congrArg Prod.fst hx
  subst hd
  rw [c8] at hlen
  match l, hlen, xs, hxl with
  | [v0, v1, v2, v3, v4, v5, v6, v7], _, [y0, y1, y2, y3, y4, y5, y6, y7], _ =>
    have g0 : DataW.trod enc Tryz.prog W 0 sp held n 9 [v0] = some y0 := by have := hf 0 _ rfl; simpa [s1] using this
    have g1 : DataW.trod enc Tryz.prog W 0 sp held n 9 [v1] = some y1 := by have := hf 1 _ rfl; simpa [s1] using this
    have g2 : DataW.trod enc Tryz.prog W 0 sp held n 9 [v2] = some y2 := by have := hf 2 _ rfl; simpa [s1] using this
    have g3 : DataW.trod enc Tryz.prog W 0 sp held n 9 [v3] = some y3 := by have := hf 3 _ rfl; simpa [s1] using this
    have g4 : DataW.trod enc Tryz.prog W 0 sp held n 9 [v4] = some y4 := by have := hf 4 _ rfl; simpa [s1] using this
    have g5 : DataW.trod enc Tryz.prog W 0 sp held n 22 [v5] = some y5 := by have := hf 5 _ rfl; simpa [s2] using this
    have g6 : DataW.trod enc Tryz.prog W 0 sp held n 23 [v6] = some y6 := by have := hf 6 _ rfl; simpa [s3] using this
    have g7 : DataW.trod enc Tryz.prog W 0 sp held n 24 [v7] = some y7 := by have := hf 7 _ rfl; simpa [s4] using this
    have hW : ∀ k, (k ∈ y0.1.weights Tryz.prog 9 ∨ k ∈ y1.1.weights Tryz.prog 9 ∨ k ∈ y2.1.weights Tryz.prog 9 ∨ k ∈ y3.1.weights Tryz.prog 9 ∨ k ∈ y4.1.weights Tryz.prog 9 ∨ k ∈ y5.1.weights Tryz.prog 22 ∨ k ∈ y6.1.weights Tryz.prog 23 ∨ k ∈ y7.1.weights Tryz.prog 24) → k ≤ reachBytes := by
      intro k hk
      refine hw k ?_
      simp only [DataW.weights, Tryz.underlying26, List.map_cons, List.map_nil, DataW.weightsEach, List.mem_append]
      rcases hk with hk | hk | hk | hk | hk | hk | hk | hk
      · exact .inl hk
      · exact .inr (.inl hk)
      · exact .inr (.inr (.inl hk))
      · exact .inr (.inr (.inr (.inl hk)))
      · exact .inr (.inr (.inr (.inr (.inl hk))))
      · exact .inr (.inr (.inr (.inr (.inr (.inl hk)))))
      · exact .inr (.inr (.inr (.inr (.inr (.inr (.inl hk))))))
      · exact .inr (.inr (.inr (.inr (.inr (.inr (.inr (.inl hk)))))))
    obtain ⟨a0, e0, l0⟩ := each_str _ _ _ g0 (fun k hk => hW k (.inl hk))
    obtain ⟨a1, e1, l1⟩ := each_str _ _ _ g1 (fun k hk => hW k (.inr (.inl hk)))
    obtain ⟨a2, e2, l2⟩ := each_str _ _ _ g2 (fun k hk => hW k (.inr (.inr (.inl hk))))
    obtain ⟨a3, e3, l3⟩ := each_str _ _ _ g3 (fun k hk => hW k (.inr (.inr (.inr (.inl hk)))))
    obtain ⟨a4, e4, l4⟩ := each_str _ _ _ g4 (fun k hk => hW k (.inr (.inr (.inr (.inr (.inl hk))))))
    injection e0 with e0 _
    injection e1 with e1 _
    injection e2 with e2 _
    injection e3 with e3 _
    injection e4 with e4 _
    obtain ⟨A, na, ca, vs, e5, m5, r5, l5, q5⟩ := open_rows (sz := 2) prF prF_len (by omega) Tryz.underlying22 (by kernel_rfl) (of_decide_eq_true (by kernel_rfl)) (fun a => a.1.length ≤ 140737488355328 ∧ a.2.length ≤ 140737488355328) each_pair g5 (fun k hk => hW k (.inr (.inr (.inr (.inr (.inr (.inl hk)))))))
    obtain ⟨F, nf, cf, fs, e6, m6, r6, l6, q6⟩ := open_rows (sz := 1) (fun s : List UInt8 => [Value.string (B s)]) (fun _ => rfl) (by omega) Tryz.underlying23 (by kernel_rfl) (of_decide_eq_true (by kernel_rfl)) (fun a => a.length ≤ 140737488355328) each_str g6 (fun k hk => hW k (.inr (.inr (.inr (.inr (.inr (.inr (.inl hk))))))))
    obtain ⟨T, nt, ct, ts, e7, m7, r7, l7, q7⟩ := open_rows (sz := 4) tgF tgF_len (by omega) Tryz.underlying24 (by kernel_rfl) (of_decide_eq_true (by kernel_rfl)) (fun a => a.nm.length ≤ 140737488355328 ∧ a.kd.length ≤ 140737488355328) each_tg g7 (fun k hk => hW k (.inr (.inr (.inr (.inr (.inr (.inr (.inr hk))))))))
    rw [strs_flat] at r6
    subst e0 e1 e2 e3 e4 e5 e6 e7
    exact ⟨⟨a0, a1, a2, a3, a4, vs, fs, ts⟩, ⟨A, na, ca, F, nf, cf, T, nt, ct⟩, rfl, ⟨r5, r6, r7⟩, ⟨l0, l1, l2, l3, l4, q5, q6, q7, l5, l6, l7⟩⟩
end
end Go.Proofs.YtmkenekngaihhaaGreatDoor
namespace Go.Proofs.YtmkenekngaihhaaGreatDoor
open Go.ChangeShapes Go.WideShapes Go.ChangeAt Go.RowKit

theorem tab_third {a b c d : DataW Unit} {na nb nc nd : String} {W : World}
    (h : laidMet Tryz.prog [(na, a), (nb, b), ("internal/strconv.uint64pow10", Lib.tabData .u64 Lib.pow10Tab), (nc, c), (nd, d)] W) : Lib.TabIs Tryz.prog W "internal/strconv.uint64pow10" .u64 Lib.pow10Tab := by
  obtain ⟨ps, ⟨g1, t1, cs1, f1, p1, q1, _, _, _, _, ⟨g2, t2, cs2, f2, p2, q2, _, _, _, _, ⟨g', t', cs, fuel, p, q, hg', ht', hvar, hd, _, _⟩, _⟩, _⟩, _⟩ := h
  obtain rfl := Option.some.inj ((show Tryz.prog.globalNamed "internal/strconv.uint64pow10" = some 1 from by kernel_rfl).symm.trans hg')
  obtain rfl := Option.some.inj ((show (Tryz.prog.globals[1]?).map (·.type) = some 125 from by kernel_rfl).symm.trans ht')
  unfold Lib.TabIs
  rw [hvar, ← Lib.cells_of_tab (show Tryz.prog.underlying 125 = some (.array 20 112) from by kernel_rfl) (show Tryz.prog.underlying 112 = some (.int .u64) from by kernel_rfl) (by kernel_rfl) (by kernel_rfl) hd]
theorem glob_card {w : World} (h : w.ShapedOpen Tryz.prog) (hL : laidMet Tryz.prog Rows.projectParsesRow.laid w) : GlobL w :=
  ⟨Go.Proofs.cell_of_shapedOpen_int (zero := #[.int .i64 0]) (t := 3) h (of_decide_eq_true (by kernel_rfl)) (by kernel_rfl) rfl (by kernel_rfl) (by kernel_rfl) Tryz.underlying3,
   tab_third (a := Rows.laid_math_bits_deBruijn32tab) (b := Rows.laid_math_bits_deBruijn64tab) (c := Rows.laid_unicode_utf8_acceptRanges) (d := Rows.laid_unicode_utf8_first) hL⟩

def bruijn32 : Array Value := #[.int .u8 0, .int .u8 1, .int .u8 28, .int .u8 2, .int .u8 29, .int .u8 14, .int .u8 24, .int .u8 3, .int .u8 30, .int .u8 22, .int .u8 20, .int .u8 15, .int .u8 25, .int .u8 17, .int .u8 4, .int .u8 8, .int .u8 31, .int .u8 27, .int .u8 13, .int .u8 23, .int .u8 21, .int .u8 19, .int .u8 16, .int .u8 7, .int .u8 26, .int .u8 12, .int .u8 18, .int .u8 6, .int .u8 11, .int .u8 5, .int .u8 10, .int .u8 9]
set_option maxRecDepth 100000 in
def bruijn64 : Array Value := #[.int .u8 0, .int .u8 1, .int .u8 56, .int .u8 2, .int .u8 57, .int .u8 49, .int .u8 28, .int .u8 3, .int .u8 61, .int .u8 58, .int .u8 42, .int .u8 50, .int .u8 38, .int .u8 29, .int .u8 17, .int .u8 4, .int .u8 62, .int .u8 47, .int .u8 59, .int .u8 36, .int .u8 45, .int .u8 43, .int .u8 51, .int .u8 22, .int .u8 53, .int .u8 39, .int .u8 33, .int .u8 30, .int .u8 24, .int .u8 18, .int .u8 12, .int .u8 5, .int .u8 63, .int .u8 55, .int .u8 48, .int .u8 27, .int .u8 60, .int .u8 41, .int .u8 37, .int .u8 16, .int .u8 46, .int .u8 35, .int .u8 44, .int .u8 21, .int .u8 52, .int .u8 32, .int .u8 23, .int .u8 11, .int .u8 54, .int .u8 26, .int .u8 40, .int .u8 15, .int .u8 34, .int .u8 20, .int .u8 31, .int .u8 10, .int .u8 25, .int .u8 14, .int .u8 19, .int .u8 9, .int .u8 13, .int .u8 8, .int .u8 7, .int .u8 6]
set_option maxRecDepth 100000 in
def pow10C : Array Value := #[.int .u64 1, .int .u64 10, .int .u64 100, .int .u64 1000, .int .u64 10000, .int .u64 100000, .int .u64 1000000, .int .u64 10000000, .int .u64 100000000, .int .u64 1000000000, .int .u64 10000000000, .int .u64 100000000000, .int .u64 1000000000000, .int .u64 10000000000000, .int .u64 100000000000000, .int .u64 1000000000000000, .int .u64 10000000000000000, .int .u64 100000000000000000, .int .u64 1000000000000000000, .int .u64 10000000000000000000]
/-- the cells of the table utf8.first -/
def firstCells : Array Value := (Go.Pinned.utf8FirstZ.map fun (z : Nat) => Value.int .u8 z).toArray
/-- the cells of the table utf8.acceptRanges -/
def rangeCells : Array Value := #[.int .u8 128, .int .u8 191, .int .u8 160, .int .u8 191, .int .u8 128, .int .u8 159, .int .u8 144, .int .u8 191, .int .u8 128, .int .u8 143, .int .u8 0, .int .u8 0, .int .u8 0, .int .u8 0, .int .u8 0, .int .u8 0, .int .u8 0, .int .u8 0, .int .u8 0, .int .u8 0, .int .u8 0, .int .u8 0, .int .u8 0, .int .u8 0, .int .u8 0, .int .u8 0, .int .u8 0, .int .u8 0, .int .u8 0, .int .u8 0, .int .u8 0, .int .u8 0]
def layIn (cs : Array Value) : Obj → Obj
  | .cells _ t frozen => .cells cs t frozen
  | o => o
noncomputable def laidWorld (os : Os) : World :=
  { World.holding Tryz.prog os ⟨#[], #[], []⟩ with heap := (((((World.holding Tryz.prog os ⟨#[], #[], []⟩).heap.modify 4 (layIn firstCells)).modify 5 (layIn rangeCells)).modify 2 (layIn bruijn32)).modify 3 (layIn bruijn64)).modify 1 (layIn pow10C) }
end Go.Proofs.YtmkenekngaihhaaGreatDoor
