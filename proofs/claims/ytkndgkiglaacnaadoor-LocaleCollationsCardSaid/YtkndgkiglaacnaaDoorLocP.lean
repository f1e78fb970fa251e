/-
  Layer 25 (collate), the chapter's: in, with.
-/
import Derived.Test.YtkndgkiglaacnaaDoorLocO
import Derived.Deep.RegionLaw
import Derived.Deep.AppendLies
import Derived.Maps.AppendAt
import Derived.Deep.Upon
import Derived.Deep.Onto
import Derived.Laws.OwnMore
namespace Go.Proofs.YtkndgkiglaacnaaDoor
open Go.RowKit
set_option linter.unusedVariables false
set_option linter.unusedSimpArgs false
attribute [local go_sem] B_data B_size

set_option maxHeartbeats 1000000 in
set_option maxRecDepth 100000 in
theorem in_not (A : Option Addr) (n c : Nat) (l : List Nat) (x : Nat) (w : World) (hr : Rd w w.heap.size 1 A n (nums l)) (hx : l.contains x = false) (hn : n ≤ 10000) :
    Calls Tryd.prog 56 #[.slice A n c, .int .i64 (x : Int)] w fun e w' => e = .returned (.bool false) ∧ w = w' := by
  have HL := Lib.hid hr.nums_length
  have HX := Lib.hid hx
  clear hx
  go_enter Tryd.func56, Tryd.ntmps56
  go_wp2
  go_loop [5] (fun i => ∃ k : Nat, k ≤ n ∧ i = .int .i64 k) (fun i => n - (intOf i).toNat)
  case atStart => exact ⟨0, Nat.zero_le _, rfl⟩
  case round =>
    obtain ⟨k, hk, rfl⟩ := hrel
    by_cases hlt : k < n
    · obtain ⟨d, hd⟩ := get_of (l := l) (k := k) (by rw [HL.out]; exact hlt)
      obtain ⟨b, o, rfl, hm, hc⟩ := rd_num hr hd
      have hne : d ≠ x := by
        rintro rfl
        have := List.mem_of_getElem? hd
        have h2 := HX.out
        simp at h2
        exact h2 this
      have e1 : ((d : Int) == (x : Int)) = false := beq_eq_false_iff_ne.2 (by omega)
      clear hd hne
      go_wp2
      go_round
      case rel => exact ⟨k + 1, by omega, by go_num⟩
      case measure => simp [intOf]; omega
    · go_wp2
      go_ret
      exact ⟨rfl, rfl⟩
/-- any numbers appended to a row of the call's own -/
theorem run_appN (ty : TypeId) (W : World) (base M : Nat) (v : Value) (n : Nat) (xs : List Nat) (hE : W.ownsRow base 3 1 v n (nums xs))
    (A : Option Addr) (m c : Nat) (ys : List Nat) (hr : Rd W M 1 A m (nums ys)) (hn : n ≤ 1000000) (hm : m ≤ 1000000) (hbase : base ≤ W.heap.size) :
    ∃ A' c' w', (Builtin.append_ #[62, 62] ty #[v, .slice A m c]).run Tryd.prog W = .ok (.slice A' (n + m) c') w' ∧ w'.ownsRow base 3 1 (.slice A' (n + m) c') (n + m) (nums (xs ++ ys)) ∧ Below base W w' ∧ W.grownBy w' v.ownBlock := by
  obtain ⟨i0, hi, hz0, hz1, hz2⟩ := info_parts Tryd.infoInt
  have hl := hr.1
  have hgl := hr.nums_length
  obtain ⟨A0, c0, rfl, hle⟩ := own_form hE
  by_cases h0 : m = 0
  · subst h0
    have hx : ys = [] := List.eq_nil_of_length_eq_zero hgl
    subst hx
    rw [List.append_nil]
    cases A with
    | none =>
      have h := run_append_nothing (P := Tryd.prog) W 62 62 ty 3 i0 Tryd.underlying62 hi A0 n c0 hle (.slice none 0 c) (Src.ofNil W Tryd.underlying62 c)
      exact ⟨_, _, W, h, hE, Below.refl _ _, ⟨rfl, rfl, rfl, Nat.le_refl _, fun _ _ _ => rfl⟩⟩
    | some ad =>
      have h := run_append_nothing (P := Tryd.prog) W 62 62 ty 3 i0 Tryd.underlying62 hi A0 n c0 hle (.slice (some ad) 0 c) (Src.ofSlice W Tryd.underlying62 ad 0 c [] (by simp) (fun j u h => by simp at h) (fun u h => by cases h))
      exact ⟨_, _, W, h, hE, Below.refl _ _, ⟨rfl, rfl, rfl, Nat.le_refl _, fun _ _ _ => rfl⟩⟩
  · obtain ⟨ad, rfl, hlt, hc⟩ := hr.2 (by omega)
    obtain ⟨v', w', h1, h2, h3, _, _⟩ := run_append_own_at (P := Tryd.prog) W base 62 ty 3 i0 (.int .i64 0) 1 8 Tryd.underlying62 hi hz0 hz1 hz2 rfl (by decide) _ n (nums xs) hE ad m c (nums ys) hl hc (nums_one ys) (by simp only [maxLen]; omega) (by omega) hbase
    rw [show nums xs ++ nums ys = nums (xs ++ ys) from by simp [nums]] at h2
    obtain ⟨g', cap, rfl, _, _⟩ := h2.form (by omega)
    exact ⟨_, _, w', h1, h2, below_of_grown h3 hbase fun k hk => (hE.lt k hk).1, h3⟩
/-- the same, as one step of a region that draws -/
theorem step_appN {ops : Array Oper} {o : Oper} {a : Act} {K : Act → World → Prop} {Q : Exit → Act → World → Prop} {E : Prop} (hgd : o.guard = none) (s y : Operand)
    (ho : o.op = .call { callee := .builtin .append, args := #[s, y], argTypes := #[62, 62] })
    (W : World) (base M : Nat) (v : Value) (n : Nat) (xs : List Nat) (hE : W.ownsRow base 3 1 v n (nums xs))
    (A : Option Addr) (m c : Nat) (ys : List Nat) (hr : Rd W M 1 A m (nums ys)) (hn : n ≤ 1000000) (hm : m ≤ 1000000) (hbase : base ≤ W.heap.size)
    (hs : a.eval s = v) (hy : a.eval y = .slice A m c)
    (h : ∀ A' c' w', w'.ownsRow base 3 1 (.slice A' (n + m) c') (n + m) (nums (xs ++ ys)) → Below base W w' → W.grownBy w' v.ownBlock → K (a.put o.dst (.slice A' (n + m) c')) w') :
    if Region.wanted o (yielded ops a.tmps) = true then Oper.wp Tryd.prog o a W K Q else E := by
  have hw : Region.wanted o (yielded ops a.tmps) = true := by simp [Region.wanted, hgd]
  rw [if_pos hw]
  obtain ⟨A', c', w', hr, h1, h2, h3⟩ := run_appN o.type W base M v n xs hE A m c ys hr hn hm hbase
  unfold Oper.wp execOp
  simp only [ho, resolve, invoke, builtin, Sem.run_bind, Sem.run_pure, Result.andThen_ok, List.map_toArray, List.map_cons, List.map_nil, hs, hy, hr]
  exact h A' c' w' h1 h2 h3
theorem lit_own (w : World) (base : Nat) (hb : base ≤ w.heap.size) : (w.alloc (.cells #[] 3)).ownsRow base 3 1 (.slice (some ⟨w.heap.size, 0, none⟩) 0 0) 0 (nums []) := World.ownsRow_lit w #[] 0 hb (by decide) rfl
theorem ownA (w : World) : (w.drew.alloc (.cells #[] 3)).ownsRow w.heap.size 3 1 (.slice (some ⟨w.heap.size, 0, none⟩) 0 0) 0 (nums []) := lit_own w.drew w.heap.size (Nat.le_refl _)
theorem ownB (w : World) (T0 : Obj) : ((w.drew.alloc (.cells #[] 3)).alloc T0).ownsRow w.heap.size 3 1 (.slice (some ⟨w.heap.size, 0, none⟩) 0 0) 0 (nums []) := (ownA w).alloc _
theorem atB (w : World) (T0 : Obj) : ((w.drew.alloc (.cells #[] 3)).alloc T0).heap[w.heap.size + 1]? = some T0 := by
  have h := heap_alloc_new (w.drew.alloc (.cells #[] 3)) T0
  have e : (w.drew.alloc (.cells #[] 3)).heap.size = w.heap.size + 1 := by simp
  rwa [e] at h
theorem ownC (w : World) (T0 : Obj) : ((w.drew.alloc T0).alloc (.cells #[] 3)).ownsRow w.heap.size 3 1 (.slice (some ⟨w.heap.size + 1, 0, none⟩) 0 0) 0 (nums []) := by
  have e : (w.drew.alloc T0).heap.size = w.heap.size + 1 := by simp
  have h := lit_own (w.drew.alloc T0) w.heap.size (by rw [e]; omega)
  rw [e] at h
  exact h
theorem atC (w : World) (T0 : Obj) : ((w.drew.alloc T0).alloc (.cells #[] 3)).heap[w.heap.size]? = some T0 := by
  rw [Below.heap_alloc _ _ _ (by simp)]; exact heap_alloc_new w.drew T0
theorem bl_al {w W : World} (h : Below w.heap.size w W) (o : Obj) : Below w.heap.size w (W.alloc o) := h.alloc h.size o
theorem rdOneN {w : World} {M g : Nat} {x : Nat} (h : w.heap[g]? = some (.cells #[.int .i64 (x : Int)] 3 (0, 0))) (hg : g < M) : Rd w M 1 (some ⟨g, 0, none⟩) 1 (nums [x]) := by
  refine ⟨rfl, fun _ => ⟨_, rfl, hg, fun j u hj => ?_⟩⟩
  rw [addr_lit, cell_of_row _ g _ _ _ (0, 0) h]
  simpa [nums] using hj

set_option maxHeartbeats 8000000 in
set_option maxRecDepth 100000 in
theorem with_ok (A : Option Addr) (n c : Nat) (l ps : List Nat) (s : List UInt8) (w : World) (hr : Rd w w.heap.size 1 A n (nums l)) (hs : s.length ≤ 1000) (hd : dec2 s = some ps) (hf : freshB l ps = true) (hn : n ≤ 1000) :
    Calls Tryd.prog 45 #[.slice A n c, .string (B s)] w fun e w' => ∃ A' c', e = .returned (.tuple #[.slice A' (n + ps.length : Nat) c', .bool false]) ∧ Rd w' w'.heap.size 1 A' (n + ps.length) (nums (l ++ ps)) ∧ Below w.heap.size w w' := by
  have hpl : ps.length ≤ s.length := fresh_len hd
  have C := Lib.hid (letters_ok (B s) ps w (by rw [B_size]; exact hs) (by rw [B_data]; exact hd))
  have HF := Lib.hid (fun m c hm => freshB_at hf m c hm)
  clear hd hf
  go_enter Tryd.func45, Tryd.ntmps45
  go_wp2_with fail
  refine C.out.mono ?_
  rintro e w1 ⟨A1, c1, rfl, hr1, hb1⟩
  have hs1 := hb1.size
  have hr0 := (hr.below hb1).more hs1
  clear C hr
  go_wp2
  go_loopw [0, 7] (fun v i wr => ∃ (m : Nat) (A' : Option Addr) (c' : Nat), m ≤ ps.length ∧ i = .int .i64 m ∧ v = .slice A' (n + m : Nat) c' ∧ Rd wr wr.heap.size 1 A' (n + m) (nums (l ++ ps.take m)) ∧ Below w1.heap.size w1 wr) (fun _ i _ => ps.length - (intOf i).toNat)
  case atStart => exact ⟨0, A, c, Nat.zero_le _, rfl, rfl, by simpa using hr0, Below.refl _ _⟩
  case round =>
    obtain ⟨m, A', c', hm, rfl, rfl, hrr, hbw⟩ := hrel
    have hbs := hbw.size
    by_cases hlt : m < ps.length
    · obtain ⟨x, hx⟩ := get_of (l := ps) (k := m) hlt
      obtain ⟨b, o, rfl, hm1, hcx⟩ := rd_num (hr1.below hbw) hx
      have CI := Lib.hid (in_not A' (n + m) c' _ x wr hrr (HF.out m x hx) (by omega))
      have HT := Lib.hid (take_snoc hx)
      clear hx
      have i1 : (0 : Int) ≤ (m : Int) := by omega
      have i2 : (m : Int) < (ps.length : Int) := by omega
      go_wp2_with fail
      refine CI.out.mono ?_
      rintro e w2 ⟨rfl, rfl⟩
      clear CI
      have HR := Lib.hid (fun (W : World) (hb : Below wr.heap.size wr W) => (hrr.below hb : Rd W wr.heap.size 1 A' (n + m) (nums (l ++ ps.take m))))
      have hbm : b < wr.heap.size := by omega
      have HX := Lib.hid (fun (W : World) (hb : Below wr.heap.size wr W) => ((hb.cell (p := ⟨b, o + m, none⟩) hbm).trans hcx : W.cell? ⟨b, o + m, none⟩ = some (.int .i64 (x : Int))))
      go_upto_region 7 with fail
      go_region_law
        (first
          | (refine step_appN (by rfl) (.tmp 23) (.tmp 24) (by rfl) (wr.drew.alloc (.cells #[] 3)) wr.heap.size wr.heap.size _ 0 [] (ownA wr) A' (n + m) c' (l ++ ps.take m) (HR.out _ (bl_al (Below.refl _ wr).drew _)) (by omega) (by omega) (by first | (simp; done) | (simp; omega)) (by rfl) (by rfl) ?_; intro A5 c5 w5 ho5 hb5 hg5; simp only [Nat.zero_add, List.nil_append] at ho5; have hB5 := Lib.hid ((bl_al (Below.refl _ wr).drew _).trans (hb5.mono (Nat.le_refl _))); have hs5 := hB5.out.size; have k5 := HX.out w5 hB5.out)
          | (refine step_appN (by rfl) (.tmp 23) (.tmp 24) (by rfl) ((wr.drew.alloc (.cells #[] 3)).alloc (.cells #[.int .i64 (x : Int)] 3)) wr.heap.size wr.heap.size _ 0 [] (ownB wr (.cells #[.int .i64 (x : Int)] 3)) A' (n + m) c' (l ++ ps.take m) (HR.out _ (bl_al (bl_al (Below.refl _ wr).drew _) _)) (by omega) (by omega) (by first | (simp; done) | (simp; omega)) (by rfl) (by rfl) ?_; intro A5 c5 w5 ho5 hb5 hg5; simp only [Nat.zero_add, List.nil_append] at ho5; have hB5 := Lib.hid ((bl_al (bl_al (Below.refl _ wr).drew _) _).trans (hb5.mono (Nat.le_refl _))); have hs5 := hB5.out.size; have k5 := HX.out w5 hB5.out; have hT0 := Lib.hid ((hg5.block (wr.heap.size + 1) (by simp) (by simp [Value.ownBlock])).trans (atB wr (.cells #[.int .i64 (x : Int)] 3))))
          | (refine step_appN (by rfl) (.tmp 23) (.tmp 24) (by rfl) ((wr.drew.alloc (.cells #[.int .i64 (x : Int)] 3)).alloc (.cells #[] 3)) wr.heap.size wr.heap.size _ 0 [] (ownC wr (.cells #[.int .i64 (x : Int)] 3)) A' (n + m) c' (l ++ ps.take m) (HR.out _ (bl_al (bl_al (Below.refl _ wr).drew _) _)) (by omega) (by omega) (by first | (simp; done) | (simp; omega)) (by rfl) (by rfl) ?_; intro A5 c5 w5 ho5 hb5 hg5; simp only [Nat.zero_add, List.nil_append] at ho5; have hB5 := Lib.hid ((bl_al (bl_al (Below.refl _ wr).drew _) _).trans (hb5.mono (Nat.le_refl _))); have hs5 := hB5.out.size; have k5 := HX.out w5 hB5.out; have hT0 := Lib.hid ((hg5.block wr.heap.size (by simp; omega) (by simp [Value.ownBlock])).trans (atC wr (.cells #[.int .i64 (x : Int)] 3))))
          | (refine step_appN (by rfl) (.tmp 25) (.tmp 30) (by rfl) (w5.alloc (.cells #[.int .i64 (x : Int)] 3)) wr.heap.size (w5.alloc (.cells #[.int .i64 (x : Int)] 3)).heap.size (.slice A5 (n + m) c5) (n + m) (l ++ ps.take m) (ho5.alloc _) (some ⟨w5.heap.size, 0, none⟩) 1 1 [x] (rdOneN (heap_alloc_new w5 _) (by simp)) (by omega) (by omega) (by simp; omega) (by rfl) (by rfl) ?_; intro A6 c6 w6 ho6 hb6 _; have hB6 := Lib.hid ((bl_al hB5.out (.cells #[.int .i64 (x : Int)] 3)).trans hb6))
          | (refine step_appN (by rfl) (.tmp 25) (.tmp 30) (by rfl) w5 wr.heap.size w5.heap.size (.slice A5 (n + m) c5) (n + m) (l ++ ps.take m) ho5 _ 1 1 [x] (rdOneN hT0.out (Array.getElem?_eq_some_iff.1 hT0.out).1) (by omega) (by omega) (by omega) (by rfl) (by rfl) ?_; intro A6 c6 w6 ho6 hb6 _; have hB6 := Lib.hid (hB5.out.trans hb6)))
      all_goals
        have hB7 := hbw.trans (hB6.out.mono hbs)
        rw [List.append_assoc, HT.out] at ho6
        have hR7 := Rd.of_own ho6
        clear ho6 hB6 HR HX
        go_wp2
        go_roundw
        case rel => exact ⟨m + 1, _, _, by omega, by go_num, rfl, hR7, hB7⟩
        case measure => simp [intOf]; omega
    · have hmp : m = ps.length := by omega
      subst hmp
      rw [List.take_length] at hrr
      go_wp2
      go_ret2
      exact ⟨_, _, rfl, hrr, hb1.trans (hbw.mono hs1)⟩
end Go.Proofs.YtkndgkiglaacnaaDoor
