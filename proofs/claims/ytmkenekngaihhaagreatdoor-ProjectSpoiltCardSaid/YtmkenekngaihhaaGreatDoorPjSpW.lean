/-
  Layer 49 (project): the walk of the law ProjectSpoilt.
-/
import Derived.Test.YtmkenekngaihhaaGreatDoorPjSpP
import Derived.Deep.CutRange
import Derived.Deep.RegionLaw
import Derived.Deep.AppendLies
namespace Go.Proofs.YtmkenekngaihhaaGreatDoor
open Go.RowKit
set_option linter.unusedVariables false
set_option linter.unusedSimpArgs false
attribute [local go_sem] B_data B_size

/-- the three copies while they are spoilt -/
structure SP (w : World) (p : Pj) (c : PC) (b3 b4 b5 : Nat) (a b e : Pj) (va vb : Value) (W : World) : Prop where
  l : LW w p c w.heap.size W
  pa : PB b3 a (.slice c.A c.na c.ca) (.slice c.F c.nf c.cf) va W
  pb : PB b4 b (.slice c.A c.na c.ca) (.slice c.F c.nf c.cf) vb W
  pc : PB b5 e (.slice c.A c.na c.ca) (.slice c.F c.nf c.cf) (.slice c.T c.nt c.ct) W
  n3 : w.heap.size < b3
  n4 : w.heap.size < b4
  n5 : w.heap.size < b5
  d34 : b3 ≠ b4
  d35 : b3 ≠ b5
  d45 : b4 ≠ b5
theorem LW.of {w W : World} {q : Nat} {p : Pj} {c : PC} (hp : PjAt w w.heap.size p c) (hG : GlobL w) (hb : Below w.heap.size w W) (h : PB q p (.slice c.A c.na c.ca) (.slice c.F c.nf c.cf) (.slice c.T c.nt c.ct) W) : LW w p c q W := ⟨hb, h, hp.step hb, hG.below hb⟩
theorem below_set {w W : World} {M q i : Nat} {u : Value} (h : Below M w W) (hq : M ≤ q) : Below M w (W.setCell ⟨q, i, none⟩ u) :=
  ⟨h.os, h.tape, h.output, by have := h.size; simpa [World.setCell] using this, fun k hk => by rw [← h.block k hk]; simp [World.setCell, Array.getElem?_modify, show q ≠ k by omega]⟩
theorem PB.far {q r i : Nat} {p : Pj} {vA vF vT u : Value} {W : World} (h : PB q p vA vF vT W) (hr : r ≠ q) : PB q p vA vF vT (W.setCell ⟨r, i, none⟩ u) := by
  unfold PB at *; rw [← h]; simp [World.setCell, Array.getElem?_modify, hr]
theorem PB.set2 {q : Nat} {p : Pj} {vA vF vT : Value} {W : World} (h : PB q p vA vF vT W) : PB q { p with ma := [] } vA vF vT (W.setCell ⟨q, 2, none⟩ (.string (B []))) := by
  unfold PB at *; simp [World.setCell, Array.getElem?_modify, h]
section
variable {w W W' : World} {p : Pj} {c : PC} {b3 b4 b5 : Nat} {a b e : Pj} {va vb u : Value}
theorem SP.step (h : SP w p c b3 b4 b5 a b e va vb W) (hb : Below W.heap.size W W') : SP w p c b3 b4 b5 a b e va vb W' :=
  ⟨h.l.step hb, h.pa.step hb, h.pb.step hb, h.pc.step hb, h.n3, h.n4, h.n5, h.d34, h.d35, h.d45⟩
theorem SP.set3 (h : SP w p c b3 b4 b5 a b e va vb W) (hp : PjAt w w.heap.size p c) (hG : GlobL w) (l : List Tg) : SP w p c b3 b4 b5 { a with ts := l } b e u vb (W.setCell ⟨b3, 7, none⟩ u) := by
  have n3 := h.n3
  exact ⟨LW.of hp hG (below_set h.l.b (by omega)) (h.l.pb.far (by omega)), h.pa.set7 l, h.pb.far h.d34, h.pc.far h.d35, h.n3, h.n4, h.n5, h.d34, h.d35, h.d45⟩
theorem SP.set4 (h : SP w p c b3 b4 b5 a b e va vb W) (hp : PjAt w w.heap.size p c) (hG : GlobL w) (l : List Tg) : SP w p c b3 b4 b5 a { b with ts := l } e va u (W.setCell ⟨b4, 7, none⟩ u) := by
  have n4 := h.n4
  exact ⟨LW.of hp hG (below_set h.l.b (by omega)) (h.l.pb.far (by omega)), h.pa.far (Ne.symm h.d34), h.pb.set7 l, h.pc.far h.d45, h.n3, h.n4, h.n5, h.d34, h.d35, h.d45⟩
theorem SP.set5 (h : SP w p c b3 b4 b5 a b e va vb W) (hp : PjAt w w.heap.size p c) (hG : GlobL w) : SP w p c b3 b4 b5 a b { e with ma := [] } va vb (W.setCell ⟨b5, 2, none⟩ (.string (B []))) := by
  have n5 := h.n5
  exact ⟨LW.of hp hG (below_set h.l.b (by omega)) (h.l.pb.far (by omega)), h.pa.far (Ne.symm h.d35), h.pb.far (Ne.symm h.d45), h.pc.set2, h.n3, h.n4, h.n5, h.d34, h.d35, h.d45⟩
theorem own_set {base g cap n r i : Nat} {xs : List Value} (h : W.ownsRow base 38 4 (.slice (some ⟨g, 0, none⟩) n cap) n xs) (hr : r < base) : (W.setCell ⟨r, i, none⟩ u).ownsRow base 38 4 (.slice (some ⟨g, 0, none⟩) n cap) n xs := by
  have hg := (h.lt g rfl).1
  refine h.kept (row := some r) ⟨rfl, rfl, rfl, by simp [World.setCell], fun k hk hne => ?_⟩ (.inr ?_)
  · have : r ≠ k := fun e => hne (by rw [e])
    simp [World.setCell, Array.getElem?_modify, this]
  · simp only [Value.ownBlock, ne_eq, Option.some.injEq]; omega
theorem SP.atB {base g cap n : Nat} {l : List Tg} (h : SP w p c b3 b4 b5 a b e va vb W) (ho : W.ownsRow base 38 4 (.slice (some ⟨g, 0, none⟩) n cap) n (l.flatMap tgF)) : PjAt W W.heap.size { p with ts := l } { c with T := some ⟨g, 0, none⟩, nt := n, ct := cap } :=
  ⟨h.l.at1.vs, h.l.at1.fs, Rd.of_own ho⟩
end
theorem c8_alloc {W : World} {q : Nat} {p : Pj} {c : PC} (o : Obj) (h : W.cell? ⟨q, 0, none⟩ = some (.string (B p.ti)) ∧ W.cell? ⟨q, 1, none⟩ = some (.string (B p.la)) ∧ W.cell? ⟨q, 2, none⟩ = some (.string (B p.ma)) ∧ W.cell? ⟨q, 3, none⟩ = some (.string (B p.so)) ∧ W.cell? ⟨q, 4, none⟩ = some (.string (B p.st)) ∧ W.cell? ⟨q, 5, none⟩ = some (.slice c.A c.na c.ca) ∧ W.cell? ⟨q, 6, none⟩ = some (.slice c.F c.nf c.cf) ∧ W.cell? ⟨q, 7, none⟩ = some (.slice c.T c.nt c.ct)) : (W.alloc o).cell? ⟨q, 0, none⟩ = some (.string (B p.ti)) ∧ (W.alloc o).cell? ⟨q, 1, none⟩ = some (.string (B p.la)) ∧ (W.alloc o).cell? ⟨q, 2, none⟩ = some (.string (B p.ma)) ∧ (W.alloc o).cell? ⟨q, 3, none⟩ = some (.string (B p.so)) ∧ (W.alloc o).cell? ⟨q, 4, none⟩ = some (.string (B p.st)) ∧ (W.alloc o).cell? ⟨q, 5, none⟩ = some (.slice c.A c.na c.ca) ∧ (W.alloc o).cell? ⟨q, 6, none⟩ = some (.slice c.F c.nf c.cf) ∧ (W.alloc o).cell? ⟨q, 7, none⟩ = some (.slice c.T c.nt c.ct) := by
  obtain ⟨h0, h1, h2, h3, h4, h5, h6, h7⟩ := h
  have hl := World.block_lt_of_cell? W _ h0
  have hl : q < W.heap.size := hl
  have k : ∀ (i : Nat) (v : Value), W.cell? ⟨q, i, none⟩ = some v → (W.alloc o).cell? ⟨q, i, none⟩ = some v := fun i v hv => by
    rw [(below_alloc W o).cell (show (⟨q, i, none⟩ : Addr).block < W.heap.size from hl)]; exact hv
  exact ⟨k _ _ h0, k _ _ h1, k _ _ h2, k _ _ h3, k _ _ h4, k _ _ h5, k _ _ h6, k _ _ h7⟩
theorem c8_drew {W : World} {q : Nat} {p : Pj} {c : PC} (h : W.cell? ⟨q, 0, none⟩ = some (.string (B p.ti)) ∧ W.cell? ⟨q, 1, none⟩ = some (.string (B p.la)) ∧ W.cell? ⟨q, 2, none⟩ = some (.string (B p.ma)) ∧ W.cell? ⟨q, 3, none⟩ = some (.string (B p.so)) ∧ W.cell? ⟨q, 4, none⟩ = some (.string (B p.st)) ∧ W.cell? ⟨q, 5, none⟩ = some (.slice c.A c.na c.ca) ∧ W.cell? ⟨q, 6, none⟩ = some (.slice c.F c.nf c.cf) ∧ W.cell? ⟨q, 7, none⟩ = some (.slice c.T c.nt c.ct)) : W.drew.cell? ⟨q, 0, none⟩ = some (.string (B p.ti)) ∧ W.drew.cell? ⟨q, 1, none⟩ = some (.string (B p.la)) ∧ W.drew.cell? ⟨q, 2, none⟩ = some (.string (B p.ma)) ∧ W.drew.cell? ⟨q, 3, none⟩ = some (.string (B p.so)) ∧ W.drew.cell? ⟨q, 4, none⟩ = some (.string (B p.st)) ∧ W.drew.cell? ⟨q, 5, none⟩ = some (.slice c.A c.na c.ca) ∧ W.drew.cell? ⟨q, 6, none⟩ = some (.slice c.F c.nf c.cf) ∧ W.drew.cell? ⟨q, 7, none⟩ = some (.slice c.T c.nt c.ct) := h
theorem PB.drew {q : Nat} {p : Pj} {vA vF vT : Value} {W : World} (h : PB q p vA vF vT W) : PB q p vA vF vT W.drew := h
/-- a row appended whole to a row of the call's own, as one step of a region that draws -/
theorem step_app_all {P : Program} {ops : Array Oper} {o : Oper} {a : Act} {K : Act → World → Prop} {Q : Exit → Act → World → Prop} {E : Prop} (hgd : o.guard = none) (s x : Operand) (t : TypeId)
    (ho : o.op = .call { callee := .builtin .append, args := #[s, x], argTypes := #[t, t] })
    (e : TypeId) (z : Value) (sz bytes : Nat) (ht : P.underlying t = some (.slice e)) (hinf : (P.info? e).map (fun i => (i.zero, i.size, i.bytes)) = some (some z, sz, bytes))
    (hzs : z.cells.size = sz) (hsz : 0 < sz) (W : World)
    (base : Nat) (v : Value) (n : Nat) (xs : List Value) (hown : W.ownsRow base e sz v n xs) (hs : a.eval s = v)
    (ad : Addr) (m c : Nat) (news : List Value) (hx : a.eval x = .slice (some ad) m c) (hl : news.length = m * sz) (hnews : ∀ j u, news[j]? = some u → W.cell? (ad.add j) = some u) (h1 : ∀ u ∈ news, u.oneCell' = true)
    (hm : 0 < m) (hn : n + m ≤ 1099511627776) (hbytes : bytes ≤ 128) (hbase : base ≤ W.heap.size) (nm : Nat) (hnm : n + m = nm) (ys : List Value) (hys : xs ++ news = ys)
    (h : ∀ g cap w', w'.ownsRow base e sz (.slice (some ⟨g, 0, none⟩) nm cap) nm ys → W.grownBy w' v.ownBlock → Below base W w' → K (a.put o.dst (.slice (some ⟨g, 0, none⟩) nm cap)) w') :
    if Region.wanted o (yielded ops a.tmps) = true then Oper.wp P o a W K Q else E := by
  subst hnm hys
  obtain ⟨i0, hi, hz0, hz1, hz2⟩ := info_parts hinf
  refine step_append_lies _ hgd s x t ho base e i0 z sz bytes ht hi hz0 hz1 hz2 hzs hsz v n xs hs hown ad m c news hx hl hnews h1 hm (by simp only [maxLen]; omega) ?_ hbase _ rfl ?_
  · have : (n + m) * bytes ≤ 1099511627776 * 128 := Nat.mul_le_mul hn hbytes
    omega
  · intro g cap w' h1 h2 _ _
    exact h g cap w' h1 h2 (below_of_grown h2 hbase fun k hk => (hown.lt k hk).1)
/-- what region 5 loads -/
def S5 (M bt ot : Nat) (c : PC) (t0 : Tg) (W : World) : Prop :=
  W.cell? ⟨M, 7, none⟩ = some (.slice (some ⟨bt, ot, none⟩) c.nt c.ct) ∧ W.cell? ⟨bt, ot, none⟩ = some (.string (B t0.nm)) ∧ W.cell? ⟨bt, ot + 1, none⟩ = some (.string (B t0.kd)) ∧ W.cell? ⟨bt, ot + 2, none⟩ = some (.int .i64 t0.pg) ∧ W.cell? ⟨bt, ot + 3, none⟩ = some (.int .i64 t0.wd)
theorem s5_keep {w : World} {M bt ot : Nat} {c : PC} {t0 : Tg} {W : World} (h : S5 M bt ot c t0 w) (h1 : bt < w.heap.size) (h2 : M < w.heap.size) (hb : Below w.heap.size w W) : S5 M bt ot c t0 W := by
  obtain ⟨a0, a1, a2, a3, a4⟩ := h
  exact ⟨(hb.cell (p := ⟨M, 7, none⟩) h2).trans a0, (hb.cell (p := ⟨bt, ot, none⟩) h1).trans a1, (hb.cell (p := ⟨bt, ot + 1, none⟩) h1).trans a2, (hb.cell (p := ⟨bt, ot + 2, none⟩) h1).trans a3, (hb.cell (p := ⟨bt, ot + 3, none⟩) h1).trans a4⟩
theorem s5_set {w W : World} {M bt ot q i : Nat} {c : PC} {t0 : Tg} {u : Value} (h : S5 M bt ot c t0 w) (h1 : bt < w.heap.size) (h2 : M < w.heap.size) (hb : Below w.heap.size w W) (n1 : M < q) (n2 : bt < q) : S5 M bt ot c t0 (W.setCell ⟨q, i, none⟩ u) := by
  have h := s5_keep h h1 h2 hb
  have k : ∀ (r j : Nat), r < q → (W.setCell ⟨q, i, none⟩ u).cell? ⟨r, j, none⟩ = W.cell? ⟨r, j, none⟩ := fun r j hr =>
    World.cell?_of_block (w := W) (Below.heap_setCell W ⟨q, i, none⟩ u r (by show r ≠ q; omega))
  obtain ⟨a0, a1, a2, a3, a4⟩ := h
  exact ⟨(k _ _ n1).trans a0, (k _ _ n2).trans a1, (k _ _ n2).trans a2, (k _ _ n2).trans a3, (k _ _ n2).trans a4⟩
theorem bel_alloc {w W : World} (h : Below w.heap.size w W) (o : Obj) : Below w.heap.size w (W.alloc o) := h.alloc h.size o
theorem tg_one (l : List Tg) : ∀ u ∈ l.flatMap tgF, u.oneCell' = true := by
  intro u hu
  obtain ⟨t, _, hu⟩ := List.mem_flatMap.1 hu
  simp only [tgF, List.mem_cons, List.not_mem_nil, or_false] at hu
  rcases hu with rfl | rfl | rfl | rfl <;> rfl
theorem tg_one1 (t : Tg) : ∀ u ∈ tgF t, u.oneCell' = true := by
  have h := tg_one [t]
  simpa using h
theorem s5_news {w W : World} {bt ot : Nat} {l : List Value} (h : ∀ j u, l[j]? = some u → w.cell? ((⟨bt, ot, none⟩ : Addr).add j) = some u) (h1 : bt < w.heap.size) (hb : Below w.heap.size w W) : ∀ j u, l[j]? = some u → W.cell? ((⟨bt, ot, none⟩ : Addr).add j) = some u :=
  fun j u hu => (hb.cell (by rw [addr_block]; exact h1)).trans (h j u hu)
theorem own_a (w : World) : (w.drew.alloc (.cells #[] 38)).ownsRow w.heap.size 38 4 (.slice (some ⟨w.heap.size, 0, none⟩) 0 0) 0 [] := World.ownsRow_lit w.drew #[] 0 (Nat.le_refl _) (by decide) rfl
theorem below_a (w : World) : Below w.heap.size w (w.drew.alloc (.cells #[] 38)) := bel_alloc (Below.refl _ _).drew _
theorem own_b (w : World) (T0 : Obj) : ((w.drew.alloc (.cells #[] 38)).alloc T0).ownsRow w.heap.size 38 4 (.slice (some ⟨w.heap.size, 0, none⟩) 0 0) 0 [] := (own_a w).alloc _
theorem below_b (w : World) (T0 : Obj) : Below w.heap.size w ((w.drew.alloc (.cells #[] 38)).alloc T0) := bel_alloc (below_a w) _
theorem at_b (w : World) (T0 : Obj) : ((w.drew.alloc (.cells #[] 38)).alloc T0).heap[w.heap.size + 1]? = some T0 := by
  have h := heap_alloc_new (w.drew.alloc (.cells #[] 38)) T0
  have e : (w.drew.alloc (.cells #[] 38)).heap.size = w.heap.size + 1 := by simp
  rwa [e] at h
theorem own_c (w : World) (T0 : Obj) : ((w.drew.alloc T0).alloc (.cells #[] 38)).ownsRow w.heap.size 38 4 (.slice (some ⟨w.heap.size + 1, 0, none⟩) 0 0) 0 [] := by
  have e : (w.drew.alloc T0).heap.size = w.heap.size + 1 := by simp
  have h := World.ownsRow_lit (base := w.heap.size) (e := 38) (size := 4) (w.drew.alloc T0) #[] 0 (by rw [e]; omega) (by decide) rfl
  rw [e] at h
  exact h
theorem below_c (w : World) (T0 : Obj) : Below w.heap.size w ((w.drew.alloc T0).alloc (.cells #[] 38)) := bel_alloc (bel_alloc (Below.refl _ _).drew _) _
theorem at_c (w : World) (T0 : Obj) : ((w.drew.alloc T0).alloc (.cells #[] 38)).heap[w.heap.size]? = some T0 := by
  rw [Below.heap_alloc _ _ _ (by simp)]; exact heap_alloc_new w.drew T0
set_option maxHeartbeats 8000000 in
set_option maxRecDepth 100000 in
theorem projectSpoilt_walk (w : World) (p : Pj) (c : PC) (hp : PjAt w w.heap.size p c) (hm : PjMx p) (hG : GlobL w) :
    Calls Tryz.prog 6 #[.agg #[.string (B p.ti), .string (B p.la), .string (B p.ma), .string (B p.so), .string (B p.st), .slice c.A c.na c.ca, .slice c.F c.nf c.cf, .slice c.T c.nt c.ct]] w fun e w' => e = .returned (.bool true) ∧ Below w.heap.size w w' := by
  have hL := LW.new hp hG
  go_enter Tryz.func6, Tryz.ntmps6
  go_wp2_with fail
  refine (light_any p c _ hm hL.at1).mono ?_
  rintro e w1 ⟨b, rfl, hb1, hli⟩
  replace hL := hL.step hb1
  clear hb1 hm
  cases b with
  | false =>
    go_wp2_with fail
    refine (awake_any _ hL.g).mono ?_
    rintro e w9 ⟨rfl, hb9⟩
    have hb10 := hL.b.trans (hb9.mono hL.b.size)
    clear hL hb9
    go_wp2
    go_ret
    exact ⟨rfl, hb10⟩
  | true =>
    have hs := (hli rfl).sm
    have HLI := Lib.hid (hli rfl)
    clear hli
    have p0 := hL.pb.d0
    have p1 := hL.pb.d1
    have p2 := hL.pb.d2
    have p3 := hL.pb.d3
    have p4 := hL.pb.d4
    have p5 := hL.pb.c5
    have p6 := hL.pb.c6
    have p7 := hL.pb.c7
    go_wp2_with fail
    refine (rcheck_any p c _ hs hL.at1).mono ?_
    rintro e w2 ⟨rfl, hb2⟩
    replace hL := hL.step hb2
    clear hb2 p0 p1 p2 p3 p4 p5 p6 p7
    by_cases h0 : checkE pkG p = 0
    rotate_left
    · have z1 : (checkE pkG p != 0) = true := by simpa using h0
      generalize checkE pkG p = ce at *
      clear h0
      go_wp2_with fail
      refine (awake_any _ hL.g).mono ?_
      rintro e w9 ⟨rfl, hb9⟩
      have hb10 := hL.b.trans (hb9.mono hL.b.size)
      clear hL hb9
      go_wp2
      go_ret
      exact ⟨rfl, hb10⟩
    rw [h0]
    have H0 := Lib.hid h0
    clear h0
    have hql := hL.pb.lt
    have hqz := hL.b.size
    have hc8 := hL.c8
    have e1 : (w2.alloc (.cells #[.string (B p.ti), .string (B p.la), .string (B p.ma), .string (B p.so), .string (B p.st), .slice c.A c.na c.ca, .slice c.F c.nf c.cf, .slice c.T c.nt c.ct] 26)).heap.size = w2.heap.size + 1 := by simp
    have e2 : ((w2.alloc (.cells #[.string (B p.ti), .string (B p.la), .string (B p.ma), .string (B p.so), .string (B p.st), .slice c.A c.na c.ca, .slice c.F c.nf c.cf, .slice c.T c.nt c.ct] 26)).alloc (.cells #[.string (B p.ti), .string (B p.la), .string (B p.ma), .string (B p.so), .string (B p.st), .slice c.A c.na c.ca, .slice c.F c.nf c.cf, .slice c.T c.nt c.ct] 26)).heap.size = w2.heap.size + 2 := by simp
    have g0 : PB w2.heap.size p (.slice c.A c.na c.ca) (.slice c.F c.nf c.cf) (.slice c.T c.nt c.ct) (((w2.alloc (.cells #[.string (B p.ti), .string (B p.la), .string (B p.ma), .string (B p.so), .string (B p.st), .slice c.A c.na c.ca, .slice c.F c.nf c.cf, .slice c.T c.nt c.ct] 26)).alloc (.cells #[.string (B p.ti), .string (B p.la), .string (B p.ma), .string (B p.so), .string (B p.st), .slice c.A c.na c.ca, .slice c.F c.nf c.cf, .slice c.T c.nt c.ct] 26)).alloc (.cells #[.string (B p.ti), .string (B p.la), .string (B p.ma), .string (B p.so), .string (B p.st), .slice c.A c.na c.ca, .slice c.F c.nf c.cf, .slice c.T c.nt c.ct] 26)) := (PB.step (heap_alloc_new w2 _) (below_alloc _ _)).step (below_alloc _ _)
    have g1 : PB (w2.heap.size + 1) p (.slice c.A c.na c.ca) (.slice c.F c.nf c.cf) (.slice c.T c.nt c.ct) (((w2.alloc (.cells #[.string (B p.ti), .string (B p.la), .string (B p.ma), .string (B p.so), .string (B p.st), .slice c.A c.na c.ca, .slice c.F c.nf c.cf, .slice c.T c.nt c.ct] 26)).alloc (.cells #[.string (B p.ti), .string (B p.la), .string (B p.ma), .string (B p.so), .string (B p.st), .slice c.A c.na c.ca, .slice c.F c.nf c.cf, .slice c.T c.nt c.ct] 26)).alloc (.cells #[.string (B p.ti), .string (B p.la), .string (B p.ma), .string (B p.so), .string (B p.st), .slice c.A c.na c.ca, .slice c.F c.nf c.cf, .slice c.T c.nt c.ct] 26)) := by
      have h : PB (w2.alloc (.cells #[.string (B p.ti), .string (B p.la), .string (B p.ma), .string (B p.so), .string (B p.st), .slice c.A c.na c.ca, .slice c.F c.nf c.cf, .slice c.T c.nt c.ct] 26)).heap.size p (.slice c.A c.na c.ca) (.slice c.F c.nf c.cf) (.slice c.T c.nt c.ct) (((w2.alloc (.cells #[.string (B p.ti), .string (B p.la), .string (B p.ma), .string (B p.so), .string (B p.st), .slice c.A c.na c.ca, .slice c.F c.nf c.cf, .slice c.T c.nt c.ct] 26)).alloc (.cells #[.string (B p.ti), .string (B p.la), .string (B p.ma), .string (B p.so), .string (B p.st), .slice c.A c.na c.ca, .slice c.F c.nf c.cf, .slice c.T c.nt c.ct] 26)).alloc (.cells #[.string (B p.ti), .string (B p.la), .string (B p.ma), .string (B p.so), .string (B p.st), .slice c.A c.na c.ca, .slice c.F c.nf c.cf, .slice c.T c.nt c.ct] 26)) := PB.step (heap_alloc_new _ _) (below_alloc _ _)
      rwa [e1] at h
    have g2 : PB (w2.heap.size + 2) p (.slice c.A c.na c.ca) (.slice c.F c.nf c.cf) (.slice c.T c.nt c.ct) (((w2.alloc (.cells #[.string (B p.ti), .string (B p.la), .string (B p.ma), .string (B p.so), .string (B p.st), .slice c.A c.na c.ca, .slice c.F c.nf c.cf, .slice c.T c.nt c.ct] 26)).alloc (.cells #[.string (B p.ti), .string (B p.la), .string (B p.ma), .string (B p.so), .string (B p.st), .slice c.A c.na c.ca, .slice c.F c.nf c.cf, .slice c.T c.nt c.ct] 26)).alloc (.cells #[.string (B p.ti), .string (B p.la), .string (B p.ma), .string (B p.so), .string (B p.st), .slice c.A c.na c.ca, .slice c.F c.nf c.cf, .slice c.T c.nt c.ct] 26)) := by
      have h : PB ((w2.alloc (.cells #[.string (B p.ti), .string (B p.la), .string (B p.ma), .string (B p.so), .string (B p.st), .slice c.A c.na c.ca, .slice c.F c.nf c.cf, .slice c.T c.nt c.ct] 26)).alloc (.cells #[.string (B p.ti), .string (B p.la), .string (B p.ma), .string (B p.so), .string (B p.st), .slice c.A c.na c.ca, .slice c.F c.nf c.cf, .slice c.T c.nt c.ct] 26)).heap.size p (.slice c.A c.na c.ca) (.slice c.F c.nf c.cf) (.slice c.T c.nt c.ct) (((w2.alloc (.cells #[.string (B p.ti), .string (B p.la), .string (B p.ma), .string (B p.so), .string (B p.st), .slice c.A c.na c.ca, .slice c.F c.nf c.cf, .slice c.T c.nt c.ct] 26)).alloc (.cells #[.string (B p.ti), .string (B p.la), .string (B p.ma), .string (B p.so), .string (B p.st), .slice c.A c.na c.ca, .slice c.F c.nf c.cf, .slice c.T c.nt c.ct] 26)).alloc (.cells #[.string (B p.ti), .string (B p.la), .string (B p.ma), .string (B p.so), .string (B p.st), .slice c.A c.na c.ca, .slice c.F c.nf c.cf, .slice c.T c.nt c.ct] 26)) := heap_alloc_new _ _
      rwa [e2] at h
    have gl := ((hL.alloc (.cells #[.string (B p.ti), .string (B p.la), .string (B p.ma), .string (B p.so), .string (B p.st), .slice c.A c.na c.ca, .slice c.F c.nf c.cf, .slice c.T c.nt c.ct] 26)).alloc (.cells #[.string (B p.ti), .string (B p.la), .string (B p.ma), .string (B p.so), .string (B p.st), .slice c.A c.na c.ca, .slice c.F c.nf c.cf, .slice c.T c.nt c.ct] 26)).alloc (.cells #[.string (B p.ti), .string (B p.la), .string (B p.ma), .string (B p.so), .string (B p.st), .slice c.A c.na c.ca, .slice c.F c.nf c.cf, .slice c.T c.nt c.ct] 26)
    have HGG := Lib.hid (And.intro g0 (And.intro g1 (And.intro g2 gl)))
    clear g0 g1 g2 gl e1 e2 hL
    go_upto_region 3 with fail
    go_cut [3, 4, 5] from 16 (fun a b d wx => ∃ b3 b4 b5 : Nat, a = .pointer (some ⟨b3, 0, none⟩) ∧ b = .pointer (some ⟨b4, 0, none⟩) ∧ d = .pointer (some ⟨b5, 0, none⟩) ∧ Hid (SP w p c b3 b4 b5 p p p (.slice c.T c.nt c.ct) (.slice c.T c.nt c.ct) wx))
    case first =>
      go_region_held3 (fun w' => w'.cell? ⟨w.heap.size, 0, none⟩ = some (.string (B p.ti)) ∧ w'.cell? ⟨w.heap.size, 1, none⟩ = some (.string (B p.la)) ∧ w'.cell? ⟨w.heap.size, 2, none⟩ = some (.string (B p.ma)) ∧ w'.cell? ⟨w.heap.size, 3, none⟩ = some (.string (B p.so)) ∧ w'.cell? ⟨w.heap.size, 4, none⟩ = some (.string (B p.st)) ∧ w'.cell? ⟨w.heap.size, 5, none⟩ = some (.slice c.A c.na c.ca) ∧ w'.cell? ⟨w.heap.size, 6, none⟩ = some (.slice c.F c.nf c.cf) ∧ w'.cell? ⟨w.heap.size, 7, none⟩ = some (.slice c.T c.nt c.ct))
        (first | (with_reducible exact c8_drew hc8) | (with_reducible exact c8_drew (c8_alloc _ hc8)) | (with_reducible exact c8_drew (c8_alloc _ (c8_alloc _ hc8))) | (with_reducible exact c8_drew (c8_alloc _ (c8_alloc _ (c8_alloc _ hc8)))))
        (fail)
      all_goals go_wp2
      all_goals go_meet
      all_goals obtain ⟨g0, g1, g2, gl⟩ := HGG.out
      all_goals first
        | exact ⟨_, _, _, rfl, rfl, rfl, Lib.hid ⟨gl.drew, g0.drew, g1.drew, g2.drew, by omega, by omega, by omega, by omega, by omega, by omega⟩⟩
        | exact ⟨_, _, _, rfl, rfl, rfl, Lib.hid ⟨gl.drew, g0.drew, g2.drew, g1.drew, by omega, by omega, by omega, by omega, by omega, by omega⟩⟩
        | exact ⟨_, _, _, rfl, rfl, rfl, Lib.hid ⟨gl.drew, g1.drew, g0.drew, g2.drew, by omega, by omega, by omega, by omega, by omega, by omega⟩⟩
        | exact ⟨_, _, _, rfl, rfl, rfl, Lib.hid ⟨gl.drew, g1.drew, g2.drew, g0.drew, by omega, by omega, by omega, by omega, by omega, by omega⟩⟩
        | exact ⟨_, _, _, rfl, rfl, rfl, Lib.hid ⟨gl.drew, g2.drew, g0.drew, g1.drew, by omega, by omega, by omega, by omega, by omega, by omega⟩⟩
        | exact ⟨_, _, _, rfl, rfl, rfl, Lib.hid ⟨gl.drew, g2.drew, g1.drew, g0.drew, by omega, by omega, by omega, by omega, by omega, by omega⟩⟩
    case rest =>
      clear hc8 hql hqz HGG
      obtain ⟨b3, b4, b5, rfl, rfl, rfl, hS⟩ := hcut
      replace hS := hS.out
      obtain ⟨-, -, -, h4, n1, n2, n3, h5⟩ := check_parts H0.out
      have hnt : p.ts.length = c.nt := hp.ts.count tgF 4 tgF_len (by omega)
      clear h4 n1 n2
      have z7 := hS.pa.c7
      have zf := hS.pa.ff (i := 7)
      go_upto_region 4 with fail
      go_cut [] from 16 (fun wx => Hid (SP w p c b3 b4 b5 { p with ts := [] } p p (.slice none 0 0) (.slice c.T c.nt c.ct) wx))
      case first =>
        go_wp2
        go_meet
        exact Lib.hid (hS.set3 hp hG [])
      case rest =>
        clear z7 zf hS
        have hS := hcut.out
        clear hcut
        obtain ⟨t0, tr, ht⟩ := List.exists_cons_of_ne_nil h5
        clear h5
        have hn0 : 0 < c.nt := by rw [← hnt, ht]; simp
        obtain ⟨bt, ot, hT, hbt, hce⟩ := hp.ts.elem tgF 4 tgF_len (by omega) (show p.ts[0]? = some t0 by rw [ht]; rfl)
        obtain ⟨ad, hT2, _, hrow⟩ := hp.ts.2 hn0
        obtain rfl : ad = ⟨bt, ot, none⟩ := by rw [hT] at hT2; injection hT2 with h; exact h.symm
        clear hT2
        have hbB := hS.l.b
        have hbs := hbB.size
        have hM1 : w.heap.size < wc.heap.size := hS.l.pb.lt
        have hbtw : bt < wc.heap.size := by omega
        have HROW : Hid (∀ j u, (p.ts.flatMap tgF)[j]? = some u → wc.cell? ((⟨bt, ot, none⟩ : Addr).add j) = some u) := fun j u hu => by
          rw [hbB.cell (by rw [addr_block]; exact hbt)]; exact hrow j u hu
        have hHL : (p.ts.flatMap tgF).length = c.nt * 4 := hp.ts.1
        have hs5 : S5 w.heap.size bt ot c t0 wc := by
          refine ⟨by rw [← hT]; exact hS.l.pb.c7, ?_, ?_, ?_, ?_⟩
          · rw [hbB.cell (p := ⟨bt, ot, none⟩) hbt]; simpa using hce 0 _ rfl
          · rw [hbB.cell (p := ⟨bt, ot + 1, none⟩) hbt]; simpa using hce 1 _ rfl
          · rw [hbB.cell (p := ⟨bt, ot + 2, none⟩) hbt]; simpa using hce 2 _ rfl
          · rw [hbB.cell (p := ⟨bt, ot + 3, none⟩) hbt]; simpa using hce 3 _ rfl
        clear hrow hce hbB hT
        have hbel := Below.refl wc.heap.size wc
        have i0 : (0 : Int) < (c.nt : Int) := by omega
        have hn4 := hS.n4
        have hl4 := hS.pb.lt
        have hbt4 : bt < b4 := by omega
        have hl5 := hS.pc.lt
        have HS := Lib.hid hS
        clear hS
        go_upto_region 5 with fail
        go_cut [] from 16 (fun wx => ∃ g cap bs : Nat, Hid (SP w p c b3 b4 b5 { p with ts := [] } { p with ts := p.ts ++ [t0] } p (.slice none 0 0) (.slice (some ⟨g, 0, none⟩) (c.nt + 1) cap) wx ∧ wx.ownsRow bs 38 4 (.slice (some ⟨g, 0, none⟩) (c.nt + 1) cap) (c.nt + 1) ((p.ts ++ [t0]).flatMap tgF) ∧ b5 < bs))
        case first =>
          go_region_held3 (fun w' => w'.cell? ⟨w.heap.size, 7, none⟩ = some (.slice (some ⟨bt, ot, none⟩) c.nt c.ct) ∧ w'.cell? ⟨bt, ot, none⟩ = some (.string (B t0.nm)) ∧ w'.cell? ⟨bt, ot + 1, none⟩ = some (.string (B t0.kd)) ∧ w'.cell? ⟨bt, ot + 2, none⟩ = some (.int .i64 t0.pg) ∧ w'.cell? ⟨bt, ot + 3, none⟩ = some (.int .i64 t0.wd))
            (first | (refine s5_keep hs5 hbtw hM1 ?_; with_reducible (repeat (first | assumption | refine Below.drew ?_ | refine bel_alloc ?_ _)); done) | (have hq := s5_set hs5 hbtw hM1 hB2 hn4 hbt4 (i := 7) (u := .slice (some ⟨g2, 0, none⟩) (c.nt + 1) cap2); exact ⟨hq.1, hq.2.1, hq.2.2.1, hq.2.2.2.1, hq.2.2.2.2⟩))
            (first
              | (refine step_app_all (by rfl) (.tmp 20) (.tmp 22) 24 (by rfl) 38 (.agg #[.string ⟨#[]⟩, .string ⟨#[]⟩, .int .i64 0, .int .i64 0]) 4 48 Tryz.underlying24 Tryz.infoTg rfl (by decide) _ wc.heap.size (.slice (some ⟨wc.heap.size, 0, none⟩) 0 0) 0 [] (own_a wc) (by rfl) ⟨bt, ot, none⟩ c.nt c.ct (p.ts.flatMap tgF) (by rfl) hHL (s5_news HROW.out hbtw (by repeat (first | assumption | refine Below.drew ?_ | refine bel_alloc ?_ _))) (tg_one _) hn0 (by omega) (by decide) (by simp; try omega) c.nt (Nat.zero_add _) _ (List.nil_append _) ?_; intro g cap w1 ho hg hb; have hb1 := (below_a wc).trans hb)
              | (refine step_app_all (by rfl) (.tmp 20) (.tmp 22) 24 (by rfl) 38 (.agg #[.string ⟨#[]⟩, .string ⟨#[]⟩, .int .i64 0, .int .i64 0]) 4 48 Tryz.underlying24 Tryz.infoTg rfl (by decide) _ wc.heap.size (.slice (some ⟨wc.heap.size, 0, none⟩) 0 0) 0 [] (own_b wc (.cells #[.string (B t0.nm), .string (B t0.kd), .int .i64 t0.pg, .int .i64 t0.wd] 38)) (by rfl) ⟨bt, ot, none⟩ c.nt c.ct (p.ts.flatMap tgF) (by rfl) hHL (s5_news HROW.out hbtw (by repeat (first | assumption | refine Below.drew ?_ | refine bel_alloc ?_ _))) (tg_one _) hn0 (by omega) (by decide) (by simp; try omega) c.nt (Nat.zero_add _) _ (List.nil_append _) ?_; intro g cap w1 ho hg hb; have hb1 := (below_b wc (.cells #[.string (B t0.nm), .string (B t0.kd), .int .i64 t0.pg, .int .i64 t0.wd] 38)).trans hb; have hT0 := (hg.block (wc.heap.size + 1) (by simp <;> omega) (by simp [Value.ownBlock])).trans (at_b wc (.cells #[.string (B t0.nm), .string (B t0.kd), .int .i64 t0.pg, .int .i64 t0.wd] 38)))
              | (refine step_app_all (by rfl) (.tmp 20) (.tmp 22) 24 (by rfl) 38 (.agg #[.string ⟨#[]⟩, .string ⟨#[]⟩, .int .i64 0, .int .i64 0]) 4 48 Tryz.underlying24 Tryz.infoTg rfl (by decide) _ wc.heap.size (.slice (some ⟨wc.heap.size + 1, 0, none⟩) 0 0) 0 [] (own_c wc (.cells #[.string (B t0.nm), .string (B t0.kd), .int .i64 t0.pg, .int .i64 t0.wd] 38)) (by rfl) ⟨bt, ot, none⟩ c.nt c.ct (p.ts.flatMap tgF) (by rfl) hHL (s5_news HROW.out hbtw (by repeat (first | assumption | refine Below.drew ?_ | refine bel_alloc ?_ _))) (tg_one _) hn0 (by omega) (by decide) (by simp; try omega) c.nt (Nat.zero_add _) _ (List.nil_append _) ?_; intro g cap w1 ho hg hb; have hb1 := (below_c wc (.cells #[.string (B t0.nm), .string (B t0.kd), .int .i64 t0.pg, .int .i64 t0.wd] 38)).trans hb; have hT0 := (hg.block wc.heap.size (by simp <;> omega) (by simp [Value.ownBlock])).trans (at_c wc (.cells #[.string (B t0.nm), .string (B t0.kd), .int .i64 t0.pg, .int .i64 t0.wd] 38)))
              | (refine step_app_all (by rfl) (.tmp 23) (.tmp 28) 24 (by rfl) 38 (.agg #[.string ⟨#[]⟩, .string ⟨#[]⟩, .int .i64 0, .int .i64 0]) 4 48 Tryz.underlying24 Tryz.infoTg rfl (by decide) (w1.alloc (.cells #[.string (B t0.nm), .string (B t0.kd), .int .i64 t0.pg, .int .i64 t0.wd] 38)) wc.heap.size _ _ _ (ho.alloc _) (by rfl) ⟨w1.heap.size, 0, none⟩ 1 1 (tgF t0) (by rfl) rfl (World.news_of_block (heap_alloc_new w1 _)) (tg_one1 _) (by decide) (by omega) (by decide) (by first | exact hb1.size | exact (bel_alloc hb1 _).size) (c.nt + 1) rfl ((p.ts ++ [t0]).flatMap tgF) (by rw [List.flatMap_append]; simp) ?_; intro g2 cap2 w2 ho2 hg2 hb2; have hB2 : Below wc.heap.size wc w2 := (bel_alloc hb1 _).trans hb2; have z7 := (HS.out.step hB2).pb.c7; have zf := (HS.out.step hB2).pb.ff (i := 7))
              | (refine step_app_all (by rfl) (.tmp 23) (.tmp 28) 24 (by rfl) 38 (.agg #[.string ⟨#[]⟩, .string ⟨#[]⟩, .int .i64 0, .int .i64 0]) 4 48 Tryz.underlying24 Tryz.infoTg rfl (by decide) w1 wc.heap.size _ _ _ ho (by rfl) ⟨_, 0, none⟩ 1 1 (tgF t0) (by rfl) rfl (World.news_of_block hT0) (tg_one1 _) (by decide) (by omega) (by decide) (by first | exact hb1.size | exact (hb1).size) (c.nt + 1) rfl ((p.ts ++ [t0]).flatMap tgF) (by rw [List.flatMap_append]; simp) ?_; intro g2 cap2 w2 ho2 hg2 hb2; have hB2 : Below wc.heap.size wc w2 := (hb1).trans hb2; have z7 := (HS.out.step hB2).pb.c7; have zf := (HS.out.step hB2).pb.ff (i := 7)))
          all_goals go_wp2
          all_goals go_meet
          all_goals exact ⟨g2, cap2, wc.heap.size, Lib.hid ⟨(HS.out.step hB2).set4 hp hG (p.ts ++ [t0]), own_set ho2 hl4, hl5⟩⟩
        case rest =>
          clear HS HROW hs5 hbel i0 hl4 hl5 hHL hbt4 hn4 hM1 hbtw hbs hbt
          obtain ⟨g, cap, bs, hcut⟩ := hcut
          obtain ⟨hS, ho, hb5⟩ := hcut.out
          clear hcut
          have z2 := hS.pc.d2
          have zf := hS.pc.ff (i := 2)
          go_upto_region 6 with fail
          go_cut [] from 16 (fun wx => Hid (SP w p c b3 b4 b5 { p with ts := [] } { p with ts := p.ts ++ [t0] } { p with ma := [] } (.slice none 0 0) (.slice (some ⟨g, 0, none⟩) (c.nt + 1) cap) wx ∧ wx.ownsRow bs 38 4 (.slice (some ⟨g, 0, none⟩) (c.nt + 1) cap) (c.nt + 1) ((p.ts ++ [t0]).flatMap tgF)))
          case first =>
            go_wp2
            go_meet
            exact Lib.hid ⟨hS.set5 hp hG, own_set ho hb5⟩
          case rest =>
            clear z2 zf hS ho
            obtain ⟨hS, ho⟩ := hcut.out
            clear hcut
            have hB := hS.atB ho
            have HSB : Hid (PjSm { p with ts := p.ts ++ [t0] }) := ⟨hs.ti, hs.la, hs.ma, hs.so, hs.st, hs.vs, hs.fs, (by
              intro v h
              rcases List.mem_append.1 h with h | h
              · exact hs.ts v h
              · rw [List.mem_singleton] at h; subst h; exact hs.ts _ (by rw [ht]; simp)), hs.nv, hs.nf, (by show (p.ts ++ [t0]).length ≤ 1000000; rw [List.length_append, List.length_singleton]; omega)⟩
            have HA := Lib.hid (sp_a H0.out)
            have HC := Lib.hid (sp_c H0.out)
            have HBW := Lib.hid (sp_b H0.out ht)
            have z7 := hS.pb.c7
            clear ho hb5 ht n3
            by_cases h8 : 8 < c.nt + 1
            · have HBV : Hid (checkE pkG { p with ts := p.ts ++ [t0] } = 3) := by rw [HBW.out, hnt, if_pos h8]; rfl
              clear HBW hnt
              have x0 : wc.cell? ⟨w.heap.size, 0, none⟩ = some (.string (B p.ti)) := hS.l.pb.d0
              have x1 : wc.cell? ⟨w.heap.size, 1, none⟩ = some (.string (B p.la)) := hS.l.pb.d1
              have x2 : wc.cell? ⟨w.heap.size, 2, none⟩ = some (.string (B p.ma)) := hS.l.pb.d2
              have x3 : wc.cell? ⟨w.heap.size, 3, none⟩ = some (.string (B p.so)) := hS.l.pb.d3
              have x4 : wc.cell? ⟨w.heap.size, 4, none⟩ = some (.string (B p.st)) := hS.l.pb.d4
              have x5 : wc.cell? ⟨w.heap.size, 5, none⟩ = some (.slice c.A c.na c.ca) := hS.l.pb.c5
              have x6 : wc.cell? ⟨w.heap.size, 6, none⟩ = some (.slice c.F c.nf c.cf) := hS.l.pb.c6
              have x7 : wc.cell? ⟨w.heap.size, 7, none⟩ = some (.slice c.T c.nt c.ct) := hS.l.pb.c7
              go_wp2_with fail
              refine (check_any p c _ hs hS.l.at1 hS.l.g.1).mono ?_
              rintro e w3 ⟨rfl, hb⟩
              replace hS := hS.step hb
              replace hB := hB.step hb
              clear hb x0 x1 x2 x3 x4 x5 x6 x7
              rw [H0.out]
              have x0 : w3.cell? ⟨b3, 0, none⟩ = some (.string (B p.ti)) := hS.pa.d0
              have x1 : w3.cell? ⟨b3, 1, none⟩ = some (.string (B p.la)) := hS.pa.d1
              have x2 : w3.cell? ⟨b3, 2, none⟩ = some (.string (B p.ma)) := hS.pa.d2
              have x3 : w3.cell? ⟨b3, 3, none⟩ = some (.string (B p.so)) := hS.pa.d3
              have x4 : w3.cell? ⟨b3, 4, none⟩ = some (.string (B p.st)) := hS.pa.d4
              have x5 : w3.cell? ⟨b3, 5, none⟩ = some (.slice c.A c.na c.ca) := hS.pa.c5
              have x6 : w3.cell? ⟨b3, 6, none⟩ = some (.slice c.F c.nf c.cf) := hS.pa.c6
              have x7 : w3.cell? ⟨b3, 7, none⟩ = some (.slice none 0 0) := hS.pa.c7
              go_wp2_with fail
              refine (check_any { p with ts := [] } { c with T := none, nt := 0, ct := 0 } _ ⟨hs.ti, hs.la, hs.ma, hs.so, hs.st, hs.vs, hs.fs, (by intro v h; cases h), hs.nv, hs.nf, (by show 0 ≤ 1000000; omega)⟩ ⟨hS.l.at1.vs, hS.l.at1.fs, Rd.nil⟩ hS.l.g.1).mono ?_
              rintro e w4 ⟨rfl, hb⟩
              replace hS := hS.step hb
              replace hB := hB.step hb
              clear hb x0 x1 x2 x3 x4 x5 x6 x7
              rw [HA.out]
              have x0 : w4.cell? ⟨b4, 0, none⟩ = some (.string (B p.ti)) := hS.pb.d0
              have x1 : w4.cell? ⟨b4, 1, none⟩ = some (.string (B p.la)) := hS.pb.d1
              have x2 : w4.cell? ⟨b4, 2, none⟩ = some (.string (B p.ma)) := hS.pb.d2
              have x3 : w4.cell? ⟨b4, 3, none⟩ = some (.string (B p.so)) := hS.pb.d3
              have x4 : w4.cell? ⟨b4, 4, none⟩ = some (.string (B p.st)) := hS.pb.d4
              have x5 : w4.cell? ⟨b4, 5, none⟩ = some (.slice c.A c.na c.ca) := hS.pb.c5
              have x6 : w4.cell? ⟨b4, 6, none⟩ = some (.slice c.F c.nf c.cf) := hS.pb.c6
              have x7 : w4.cell? ⟨b4, 7, none⟩ = some (.slice (some ⟨g, 0, none⟩) (c.nt + 1) cap) := hS.pb.c7
              go_wp2_with fail
              refine (check_any { p with ts := p.ts ++ [t0] } { c with T := some ⟨g, 0, none⟩, nt := c.nt + 1, ct := cap } _ HSB.out hB hS.l.g.1).mono ?_
              rintro e w5 ⟨rfl, hb⟩
              replace hS := hS.step hb
              replace hB := hB.step hb
              clear hb x0 x1 x2 x3 x4 x5 x6 x7
              rw [HBV.out]
              have x0 : w5.cell? ⟨b5, 0, none⟩ = some (.string (B p.ti)) := hS.pc.d0
              have x1 : w5.cell? ⟨b5, 1, none⟩ = some (.string (B p.la)) := hS.pc.d1
              have x2 : w5.cell? ⟨b5, 2, none⟩ = some (.string (B [])) := hS.pc.d2
              have x3 : w5.cell? ⟨b5, 3, none⟩ = some (.string (B p.so)) := hS.pc.d3
              have x4 : w5.cell? ⟨b5, 4, none⟩ = some (.string (B p.st)) := hS.pc.d4
              have x5 : w5.cell? ⟨b5, 5, none⟩ = some (.slice c.A c.na c.ca) := hS.pc.c5
              have x6 : w5.cell? ⟨b5, 6, none⟩ = some (.slice c.F c.nf c.cf) := hS.pc.c6
              have x7 : w5.cell? ⟨b5, 7, none⟩ = some (.slice c.T c.nt c.ct) := hS.pc.c7
              go_wp2_with fail
              refine (check_any { p with ma := [] } c _ ⟨hs.ti, hs.la, (by show 0 ≤ 1000000; omega), hs.so, hs.st, hs.vs, hs.fs, hs.ts, hs.nv, hs.nf, hs.nt⟩ ⟨hS.l.at1.vs, hS.l.at1.fs, hS.l.at1.ts⟩ hS.l.g.1).mono ?_
              rintro e w6 ⟨rfl, hb⟩
              replace hS := hS.step hb
              replace hB := hB.step hb
              clear hb x0 x1 x2 x3 x4 x5 x6 x7
              rw [HC.out]
              go_wp2_with fail
              refine (awake_any _ hS.l.g).mono ?_
              rintro e w9 ⟨rfl, hb9⟩
              have hb10 := hS.l.b.trans (hb9.mono hS.l.b.size)
              clear hS hB hb9
              go_wp2
              go_ret
              exact ⟨rfl, hb10⟩
            · have HBV : Hid (checkE pkG { p with ts := p.ts ++ [t0] } = 7) := by rw [HBW.out, hnt, if_neg h8]; rfl
              clear HBW hnt
              have x0 : wc.cell? ⟨w.heap.size, 0, none⟩ = some (.string (B p.ti)) := hS.l.pb.d0
              have x1 : wc.cell? ⟨w.heap.size, 1, none⟩ = some (.string (B p.la)) := hS.l.pb.d1
              have x2 : wc.cell? ⟨w.heap.size, 2, none⟩ = some (.string (B p.ma)) := hS.l.pb.d2
              have x3 : wc.cell? ⟨w.heap.size, 3, none⟩ = some (.string (B p.so)) := hS.l.pb.d3
              have x4 : wc.cell? ⟨w.heap.size, 4, none⟩ = some (.string (B p.st)) := hS.l.pb.d4
              have x5 : wc.cell? ⟨w.heap.size, 5, none⟩ = some (.slice c.A c.na c.ca) := hS.l.pb.c5
              have x6 : wc.cell? ⟨w.heap.size, 6, none⟩ = some (.slice c.F c.nf c.cf) := hS.l.pb.c6
              have x7 : wc.cell? ⟨w.heap.size, 7, none⟩ = some (.slice c.T c.nt c.ct) := hS.l.pb.c7
              go_wp2_with fail
              refine (check_any p c _ hs hS.l.at1 hS.l.g.1).mono ?_
              rintro e w3 ⟨rfl, hb⟩
              replace hS := hS.step hb
              replace hB := hB.step hb
              clear hb x0 x1 x2 x3 x4 x5 x6 x7
              rw [H0.out]
              have x0 : w3.cell? ⟨b3, 0, none⟩ = some (.string (B p.ti)) := hS.pa.d0
              have x1 : w3.cell? ⟨b3, 1, none⟩ = some (.string (B p.la)) := hS.pa.d1
              have x2 : w3.cell? ⟨b3, 2, none⟩ = some (.string (B p.ma)) := hS.pa.d2
              have x3 : w3.cell? ⟨b3, 3, none⟩ = some (.string (B p.so)) := hS.pa.d3
              have x4 : w3.cell? ⟨b3, 4, none⟩ = some (.string (B p.st)) := hS.pa.d4
              have x5 : w3.cell? ⟨b3, 5, none⟩ = some (.slice c.A c.na c.ca) := hS.pa.c5
              have x6 : w3.cell? ⟨b3, 6, none⟩ = some (.slice c.F c.nf c.cf) := hS.pa.c6
              have x7 : w3.cell? ⟨b3, 7, none⟩ = some (.slice none 0 0) := hS.pa.c7
              go_wp2_with fail
              refine (check_any { p with ts := [] } { c with T := none, nt := 0, ct := 0 } _ ⟨hs.ti, hs.la, hs.ma, hs.so, hs.st, hs.vs, hs.fs, (by intro v h; cases h), hs.nv, hs.nf, (by show 0 ≤ 1000000; omega)⟩ ⟨hS.l.at1.vs, hS.l.at1.fs, Rd.nil⟩ hS.l.g.1).mono ?_
              rintro e w4 ⟨rfl, hb⟩
              replace hS := hS.step hb
              replace hB := hB.step hb
              clear hb x0 x1 x2 x3 x4 x5 x6 x7
              rw [HA.out]
              have x0 : w4.cell? ⟨b4, 0, none⟩ = some (.string (B p.ti)) := hS.pb.d0
              have x1 : w4.cell? ⟨b4, 1, none⟩ = some (.string (B p.la)) := hS.pb.d1
              have x2 : w4.cell? ⟨b4, 2, none⟩ = some (.string (B p.ma)) := hS.pb.d2
              have x3 : w4.cell? ⟨b4, 3, none⟩ = some (.string (B p.so)) := hS.pb.d3
              have x4 : w4.cell? ⟨b4, 4, none⟩ = some (.string (B p.st)) := hS.pb.d4
              have x5 : w4.cell? ⟨b4, 5, none⟩ = some (.slice c.A c.na c.ca) := hS.pb.c5
              have x6 : w4.cell? ⟨b4, 6, none⟩ = some (.slice c.F c.nf c.cf) := hS.pb.c6
              have x7 : w4.cell? ⟨b4, 7, none⟩ = some (.slice (some ⟨g, 0, none⟩) (c.nt + 1) cap) := hS.pb.c7
              go_wp2_with fail
              refine (check_any { p with ts := p.ts ++ [t0] } { c with T := some ⟨g, 0, none⟩, nt := c.nt + 1, ct := cap } _ HSB.out hB hS.l.g.1).mono ?_
              rintro e w5 ⟨rfl, hb⟩
              replace hS := hS.step hb
              replace hB := hB.step hb
              clear hb x0 x1 x2 x3 x4 x5 x6 x7
              rw [HBV.out]
              have x0 : w5.cell? ⟨b5, 0, none⟩ = some (.string (B p.ti)) := hS.pc.d0
              have x1 : w5.cell? ⟨b5, 1, none⟩ = some (.string (B p.la)) := hS.pc.d1
              have x2 : w5.cell? ⟨b5, 2, none⟩ = some (.string (B [])) := hS.pc.d2
              have x3 : w5.cell? ⟨b5, 3, none⟩ = some (.string (B p.so)) := hS.pc.d3
              have x4 : w5.cell? ⟨b5, 4, none⟩ = some (.string (B p.st)) := hS.pc.d4
              have x5 : w5.cell? ⟨b5, 5, none⟩ = some (.slice c.A c.na c.ca) := hS.pc.c5
              have x6 : w5.cell? ⟨b5, 6, none⟩ = some (.slice c.F c.nf c.cf) := hS.pc.c6
              have x7 : w5.cell? ⟨b5, 7, none⟩ = some (.slice c.T c.nt c.ct) := hS.pc.c7
              go_wp2_with fail
              refine (check_any { p with ma := [] } c _ ⟨hs.ti, hs.la, (by show 0 ≤ 1000000; omega), hs.so, hs.st, hs.vs, hs.fs, hs.ts, hs.nv, hs.nf, hs.nt⟩ ⟨hS.l.at1.vs, hS.l.at1.fs, hS.l.at1.ts⟩ hS.l.g.1).mono ?_
              rintro e w6 ⟨rfl, hb⟩
              replace hS := hS.step hb
              replace hB := hB.step hb
              clear hb x0 x1 x2 x3 x4 x5 x6 x7
              rw [HC.out]
              go_wp2_with fail
              refine (awake_any _ hS.l.g).mono ?_
              rintro e w9 ⟨rfl, hb9⟩
              have hb10 := hS.l.b.trans (hb9.mono hS.l.b.size)
              clear hS hB hb9
              go_wp2
              go_ret
              exact ⟨rfl, hb10⟩
end Go.Proofs.YtmkenekngaihhaaGreatDoor
