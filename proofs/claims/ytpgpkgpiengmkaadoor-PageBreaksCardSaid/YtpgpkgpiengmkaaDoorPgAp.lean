/-
  Layer 40 (page): the statements' small helpers: a box, pages of rows; pages' data alone decide.
-/
import Derived.Test.YtpgpkgpiengmkaaDoorPgZ
import Derived.Laws.StructEq
import Derived.Deep.RegionLaw
namespace Go.Proofs.YtpgpkgpiengmkaaDoor
open Go.RowKit
set_option linter.unusedVariables false
set_option linter.unusedSimpArgs false
attribute [local go_sem] B_data B_size

def prE (a b : KV) : Bool := a.1 == b.1 && a.2 == b.2
theorem pair_eqlP (f g : KV) (W : World) : (binOp .eql 37 (.agg #[.string (B f.1), .string (B f.2)]) (.agg #[.string (B g.1), .string (B g.2)])).run Tryd.prog W = .ok (.bool (prE f g)) W := by
  rw [run_eql_struct]
  unfold prE
  have u3 := Tryd.underlying9
  rw [run_equalIn_agg _ 9999 _ _ _ (by simp only [Program.fieldsOf, Tryd.underlying37]) (by kernel_rfl)]
  simp only [Program.fieldsOf, Tryd.underlying37]
  go_simp
  by_cases h1 : f.1 = g.1 <;> by_cases h2 : f.2 = g.2 <;> simp [h1, h2]
theorem pair_neqP (f g : KV) (W : World) : (binOp .neq 37 (.agg #[.string (B f.1), .string (B f.2)]) (.agg #[.string (B g.1), .string (B g.2)])).run Tryd.prog W = .ok (.bool (!(prE f g))) W := by
  rw [run_neq_struct]
  unfold prE
  have u3 := Tryd.underlying9
  rw [run_equalIn_agg _ 9999 _ _ _ (by simp only [Program.fieldsOf, Tryd.underlying37]) (by kernel_rfl)]
  simp only [Program.fieldsOf, Tryd.underlying37]
  go_simp
  by_cases h1 : f.1 = g.1 <;> by_cases h2 : f.2 = g.2 <;> simp [h1, h2]
def bx0 (k f : Bool) : Bx := ⟨[120], 2, 0, k, f, [], none, 0, 0⟩
theorem box_any (k f : Bool) (w : World) : Calls Tryd.prog 20 #[.bool k, .bool f] w fun e w' => e = .returned (.agg #[.string (B [120]), .int .i64 2, .int .i64 0, .bool k, .bool f, .slice none 0 0]) ∧ Below w.heap.size w w' := by
  go_enter Tryd.func20, Tryd.ntmps20
  go_wp2
  (try simp only [Exit.inBlock, Exit.then])
  refine bodyPost_ret (results_cell_row rfl _ _ w.heap.size _ _ _ _ rfl (heap_alloc_new w _) Tryd.underlying45 rfl (by kernel_rfl)) rfl ?_
  exact ⟨rfl, below_alloc w _⟩
/-- pages without where their boxes lie -/
def strip (d : List Int × Int) : Pg := ⟨d.1, d.2, none, 0, 0⟩
theorem fl_strip (ps : List Pg) : fl (ps.map fun p => strip (pgD p)) = fl ps := by
  unfold fl; rw [List.flatMap_map]; rfl
theorem any_strip (ps : List Pg) : (ps.map fun p => strip (pgD p)).any (fun p => p.bs.isEmpty) = ps.any (fun p => p.bs.isEmpty) := by
  rw [List.any_map]; rfl
theorem hts_strip (l : List Bx) (H : Int) (ps : List Pg) : htsF l H (ps.map fun p => strip (pgD p)) = htsF l H ps := by
  induction ps with
  | nil => rfl
  | cons p r ih => rw [List.map_cons, htsF, htsF, ih]; rfl
theorem on_strip (ps : List Pg) : ∀ (k : Nat) (f : Nat → Int), onAll (ps.map fun p => strip (pgD p)) k f = onAll ps k f := by
  induction ps with
  | nil => intro k f; rfl
  | cons p r ih => intro k f; rw [List.map_cons, onAll, onAll, ih]; rfl
theorem sep_strip (l : List Bx) (fin : Int) (ps : List Pg) : sepF l fin (ps.map fun p => strip (pgD p)) = sepF l fin ps := by
  induction ps with
  | nil => rfl
  | cons p r ih => rw [List.map_cons, sepF, sepF, ih]; rfl
theorem cmp_strip (n : Nat) (ps : List Pg) : cmpS n (ps.map fun p => strip (pgD p)) = cmpS n ps := by
  have e1 : inR n (ps.map fun p => strip (pgD p)) ↔ inR n ps := by unfold inR; rw [fl_strip]
  have e2 : allIn n (ps.map fun p => strip (pgD p)) ↔ allIn n ps := by unfold allIn; rw [fl_strip]
  unfold cmpS
  simp only [e1, e2, fl_strip]
theorem chk_strip (n : Nat) (l : List Bx) (H : Int) (ps : List Pg) : chkS n l H ps = chkS n l H (ps.map fun p => strip (pgD p)) := by
  unfold chkS chk4 chk5 chk6 chk7 chk8
  rw [fl_strip, any_strip, hts_strip, on_strip, sep_strip, cmp_strip]
theorem chk_data (n : Nat) (l : List Bx) (H : Int) (ps : List Pg) {d : List (List Int × Int)} (h : ps.map pgD = d) : chkS n l H ps = chkS n l H (d.map strip) := by
  rw [chk_strip, ← h, List.map_map]; rfl
theorem plP_data (l : List Bx) (ps : List Pg) {d : List (List Int × Int)} (h : ps.map pgD = d) : ∀ (k : Nat) (L : List KV), plP l k L ps = plP l k L (d.map strip) := by
  subst h
  induction ps with
  | nil => intro k L; rfl
  | cons p r ih => intro k L; rw [List.map_cons, List.map_cons, plP, plP, ih]; rfl
/-- boxes in a block of their own -/
theorem BxAt.of_block {W : World} {g : Nat} {cs : Array Value} {fr : Nat × Nat} {l : List Bx} {n : Nat} (h : W.heap[g]? = some (.cells cs 45 fr)) (hc : cs.toList = l.flatMap bxF) (hl : l.length = n) (ha : ∀ b ∈ l, Rd W W.heap.size 1 b.A b.na (strs b.an)) : BxAt W W.heap.size (some ⟨g, 0, none⟩) n l := by
  refine ⟨⟨by rw [row_len bxF 6 bxF_len, hl], fun _ => ⟨_, rfl, (Array.getElem?_eq_some_iff.1 h).1, fun j u hu => ?_⟩⟩, ha⟩
  rw [← hc] at hu
  exact World.news_of_block h j u hu
theorem BxAt.take {W : World} {M n k : Nat} {A : Option Addr} {l : List Bx} (h : BxAt W M A n l) (hk : k ≤ n) : BxAt W M A k (l.take k) := by
  have hl := h.len
  refine ⟨⟨?_, fun h0 => ?_⟩, fun b hb => h.an b (List.mem_of_mem_take hb)⟩
  · rw [row_len bxF 6 bxF_len, List.length_take]; omega
  · obtain ⟨ad, e, hb, hc⟩ := h.row.2 (by omega)
    refine ⟨ad, e, hb, fun j u hu => hc j u ?_⟩
    have e2 : l.flatMap bxF = (l.take k).flatMap bxF ++ (l.drop k).flatMap bxF := by rw [← List.flatMap_append, List.take_append_drop]
    rw [e2, List.getElem?_append_left (List.getElem?_eq_some_iff.1 hu).1]; exact hu
/-- One element, of the cells us, appended to a row of the call's own, as one step of a region that draws. -/
theorem step_app {P : Program} {ops : Array Oper} {o : Oper} {a : Act} {K : Act → World → Prop} {Q : Exit → Act → World → Prop} {E : Prop} (hgd : o.guard = none) (s x : Operand) (t : TypeId)
    (ho : o.op = .call { callee := .builtin .append, args := #[s, x], argTypes := #[t, t] })
    (e : TypeId) (z : Value) (sz bytes : Nat) (ht : P.underlying t = some (.slice e)) (hinf : (P.info? e).map (fun i => (i.zero, i.size, i.bytes)) = some (some z, sz, bytes))
    (hzs : z.cells.size = sz) (hsz : 0 < sz) (wr : World) (us : List Value) (hl : us.length = sz) (hu : ∀ u ∈ us, u.oneCell' = true)
    (base : Nat) (v : Value) (n : Nat) (xs : List Value) (hown : wr.ownsRow base e sz v n xs) (hs : a.eval s = v) (hx : a.eval x = .slice (some ⟨wr.heap.size, 0, none⟩) 1 1)
    (hn : n + 1 ≤ 1099511627776) (hbytes : bytes ≤ 128) (hbase : base ≤ wr.heap.size)
    (h : ∀ g cap w', w'.ownsRow base e sz (.slice (some ⟨g, 0, none⟩) (n + 1) cap) (n + 1) (xs ++ us) → wr.grownBy w' v.ownBlock → Below base wr w' → K (a.put o.dst (.slice (some ⟨g, 0, none⟩) (n + 1) cap)) w') :
    if Region.wanted o (yielded ops a.tmps) = true then Oper.wp P o a (wr.alloc (.cells us.toArray e)) K Q else E := by
  obtain ⟨i0, hi, hz0, hz1, hz2⟩ := info_parts hinf
  refine step_append_lies _ hgd s x t ho base e i0 z sz bytes ht hi hz0 hz1 hz2 hzs hsz v n xs hs (hown.alloc _) ⟨wr.heap.size, 0, none⟩ 1 1 us hx (by rw [hl, Nat.one_mul]) ?_ hu (by omega) (by simp only [maxLen]; omega) ?_ (by simp; omega) _ rfl ?_
  · intro j u hj
    have hlt : j < us.length := (List.getElem?_eq_some_iff.1 hj).1
    rw [addr_lit, cell_of_row (wr.alloc (.cells us.toArray e)) wr.heap.size _ us.toArray e (0, 0) (heap_alloc_new wr _)]
    simpa using hj
  · have : (n + 1) * bytes ≤ 1099511627776 * 128 := Nat.mul_le_mul hn hbytes
    omega
  · intro g cap w' h1 h2 _ _
    have hg : wr.grownBy w' v.ownBlock := grown_trans (World.grownBy_alloc wr _ _) h2
    exact h g cap w' h1 hg (below_of_grown hg hbase fun k hk => (hown.lt k hk).1)
/-- rows of ints, and where they lie -/
structure Rw where
  xs : List Int
  A : Option Addr
  n : Nat
  c : Nat
def rwF (r : Rw) : List Value := [.slice r.A r.n r.c]
theorem rwF_len (r : Rw) : (rwF r).length = 1 := rfl
def rwD (r : Rw) : List Int × Int := (r.xs, 2 * (r.xs.length : Int))
def PgsPost (rs : List Rw) (w : World) (e : Ending) (w' : World) : Prop := ∃ A m c ps, e = .returned (.slice A m c) ∧ PgAt w' w'.heap.size A m ps ∧ ps.map pgD = rs.map rwD ∧ (∀ p ∈ ps, p.nb ≤ 1000) ∧ Below w.heap.size w w'
set_option maxHeartbeats 8000000 in
set_option maxRecDepth 100000 in
theorem pages_any (A : Option Addr) (n c : Nat) (rs : List Rw) (w : World) (hr : Rd w w.heap.size 1 A n (rs.flatMap rwF)) (hrs : ∀ r ∈ rs, Rd w w.heap.size 1 r.A r.n (ints r.xs)) (hn : n ≤ 1000) (hb : ∀ r ∈ rs, r.n ≤ 1000) :
    Calls Tryd.prog 21 #[.slice A n c] w (PgsPost rs w) := by
  have HL := Lib.hid (hr.count rwF 1 rwF_len (by omega))
  have HB := Lib.hid hb
  clear hb
  go_enter Tryd.func21, Tryd.ntmps21
  go_wp2
  go_loopw [3, 4] (fun v i wr => ∃ (j : Nat) (A3 : Option Addr) (c3 : Nat) (ps : List Pg), j ≤ n ∧ i = .int .i64 j ∧ v = .slice A3 j c3 ∧ Below w.heap.size w wr ∧ Hid (wr.ownsRow w.heap.size 42 2 (.slice A3 j c3) j (ps.flatMap pgF)) ∧ Hid (ps.map pgD = (rs.take j).map rwD) ∧ Hid (∀ p ∈ ps, p.nb ≤ 1000 ∧ Rd w w.heap.size 1 p.A p.nb (ints p.bs))) (fun _ i _ => n - (intOf i).toNat)
  case atStart => exact ⟨0, none, 0, [], Nat.zero_le _, rfl, rfl, Below.refl _ _, World.ownsRow_nil .., rfl, fun p hp => by cases hp⟩
  case round =>
    obtain ⟨j, A3, c3, ps, hj, rfl, rfl, hbw, HO, HD, HP⟩ := hrel
    have hsz := hbw.size
    by_cases hlt : j < n
    · obtain ⟨r, hrj⟩ := get_of (l := rs) (k := j) (by rw [HL.out]; exact hlt)
      obtain ⟨g, o, rfl, hg, hc⟩ := (hr.below hbw).elem rwF 1 rwF_len (by omega) hrj
      have c0 : wr.cell? ⟨g, o + j, none⟩ = some (.slice r.A r.n r.c) := by have := hc 0 _ rfl; simpa using this
      have hrd := hrs r (List.mem_of_getElem? hrj)
      have hrl := hrd.ints_len
      have hrb := HB.out r (List.mem_of_getElem? hrj)
      have i1 : (0 : Int) ≤ (j : Int) := by omega
      have i2 : (j : Int) < (n : Int) := by omega
      have HOD := Lib.hid HO.out.drew
      have c0d : wr.drew.cell? ⟨g, o + j, none⟩ = some (.slice r.A r.n r.c) := c0
      have hszd : w.heap.size ≤ wr.drew.heap.size := hsz
      have hw2 : IntKind.i64.wrap (2 * (r.n : Int)) = 2 * (r.n : Int) := wrap_in (by omega) (by omega)
      clear hc
      go_wp2
      go_region_held3 (fun w' => w'.cell? ⟨g, o + j, none⟩ = some (.slice r.A r.n r.c)) (first | assumption | go_keep)
        (first
          | (refine step_app (by rfl) (.tmp 11) (.tmp 23) 25 (by rfl) 42 (.agg #[.slice none 0 0, .int .i64 0]) 2 32 Tryd.underlying25 Tryd.infoPg rfl (by decide) wr.drew [.slice r.A r.n r.c, .int .i64 (2 * (r.n : Int))] rfl (by intro u hu; simp only [List.mem_cons, List.not_mem_nil, or_false] at hu; rcases hu with rfl | rfl <;> rfl) w.heap.size _ _ _ HOD.out (by rfl) (by rfl) (by omega) (by omega) hszd ?_; intro g4 cap w4 ho4 hg4 hb4; have hcl : w4.cell? ⟨g, o + j, none⟩ = some (.slice r.A r.n r.c) := (hb4.cell (p := ⟨g, o + j, none⟩) hg).trans c0d))
      have HO4 : Hid (w4.ownsRow w.heap.size 42 2 (.slice (some ⟨g4, 0, none⟩) (j + 1) cap) (j + 1) ((ps ++ [(⟨r.xs, 2 * (r.n : Int), r.A, r.n, r.c⟩ : Pg)]).flatMap pgF)) := by rw [List.flatMap_append]; exact ho4
      have HD4 : Hid ((ps ++ [(⟨r.xs, 2 * (r.n : Int), r.A, r.n, r.c⟩ : Pg)]).map pgD = (rs.take (j + 1)).map rwD) := by
        show _ = _
        rw [take_one hrj, List.map_append, List.map_append, HD.out]
        simp only [List.map_cons, List.map_nil, pgD, rwD, hrl]
      have HP4 : Hid (∀ p ∈ ps ++ [(⟨r.xs, 2 * (r.n : Int), r.A, r.n, r.c⟩ : Pg)], p.nb ≤ 1000 ∧ Rd w w.heap.size 1 p.A p.nb (ints p.bs)) := fun p hp => by
        rcases List.mem_append.1 hp with hp | hp
        · exact HP.out p hp
        · rw [List.mem_singleton] at hp; subst hp; exact ⟨hrb, hrd⟩
      have hb5 : Below w.heap.size w w4 := hbw.trans ⟨hb4.os, hb4.tape, hb4.output, hb4.size, hb4.block⟩
      clear ho4 hg4 hb4 HO HD HP HOD
      go_wp2
      go_roundw
      case rel => exact ⟨j + 1, some ⟨g4, 0, none⟩, cap, _, by omega, by go_num, rfl, hb5, HO4, HD4, HP4⟩
      case measure => simp [intOf] <;> omega
    · have e : j = n := by omega
      subst e
      have HPP : Hid (PgsPost rs w (.returned (.slice A3 j c3)) wr) := by
        refine ⟨A3, j, c3, ps, rfl, ⟨Rd.of_own HO.out, fun p hp => ((HP.out p hp).2.below hbw).more hsz⟩, ?_, fun p hp => (HP.out p hp).1, hbw⟩
        have h := HD.out
        rwa [List.take_of_length_le (by rw [HL.out]; omega)] at h
      clear HO HD HP
      go_wp2
      go_ret
      exact HPP.out
end Go.Proofs.YtpgpkgpiengmkaaDoor
