/-
  Layer 33 (markup): the walk of the law MarkupTells.
-/
import Derived.Test.YtlhkpkjcecjomaaMkChW
import Derived.Test.YtlhkpkjcecjomaaMkW
import Derived.Test.YtlhkpkjcecjomaaMkT
import Derived.Test.YtlhkpkjcecjomaaMkL
namespace Go.Proofs.Ytlhkpkjcecjomaa
open Go.RowKit
set_option linter.unusedVariables false
set_option linter.unusedSimpArgs false
attribute [local go_sem] B_data B_size
attribute [local go_sem ↓] Go.wp_at_zero Go.wp_at_succ

/-- two slices that read as the same strings -/
def TlR (A1 A2 : Option Addr) (vs : List (List UInt8)) (W : World) : Prop := Rd W W.heap.size 1 A1 vs.length (strs vs) ∧ Rd W W.heap.size 1 A2 vs.length (strs vs)
theorem str_cell {W : World} {A : Option Addr} {ls : List (List UInt8)} {M : Nat} (h : Rd W M 1 A ls.length (strs ls)) {k : Nat} {x : List UInt8} (hk : ls[k]? = some x) : ∃ b o, A = some ⟨b, o, none⟩ ∧ b < M ∧ W.cell? ⟨b, o + k, none⟩ = some (.string (B x)) := by
  have hv0 : Rd W M 1 A ls.length (ls.flatMap fun l => [Value.string (B l)]) := by
    have e : strs ls = ls.flatMap fun l => [Value.string (B l)] := by unfold strs; rw [List.map_eq_flatMap]
    rw [← e]; exact h
  obtain ⟨b, o, e, hb, hc⟩ := hv0.elem (fun l => [Value.string (B l)]) 1 (fun _ => rfl) (by omega) hk
  refine ⟨b, o, e, hb, ?_⟩
  have := hc 0 _ rfl
  simpa using this
set_option maxHeartbeats 8000000 in
set_option maxRecDepth 100000 in
theorem markupTells_walk (w : World) (n : Nd) (c : NC) (hn : NdB w w.heap.size n c) (hok : okN 140737488355328 n) (n2 : Nd) (c2 : NC) (hn2 : NdB w w.heap.size n2 c2) (hok2 : okN 140737488355328 n2) (a : ByteArray) (w0 : a.size ≤ maxLen) :
    Calls Try.prog 5 #[.agg #[.string (B c.nm), .string (B c.tx), .slice c.A c.na c.ca, .slice c.K c.nk c.ck], .agg #[.string (B c2.nm), .string (B c2.tx), .slice c2.A c2.na c2.ca, .slice c2.K c2.nk c2.ck], .string a] w fun e w' => e = .returned (.bool true) ∧ Below w.heap.size w w' := by
  unfold maxLen at w0
  obtain ⟨key, rfl⟩ : ∃ l, a = B l := ⟨a.toList, (B_self a).symm⟩
  rw [B_size] at w0
  have hS := (SI.new hn).alloc (.cells #[.string (B c2.nm), .string (B c2.tx), .slice c2.A c2.na c2.ca, .slice c2.K c2.nk c2.ck] 25)
  have hT : SI w (w.heap.size + 1) n2 c2 ((w.alloc (.cells #[.string (B c.nm), .string (B c.tx), .slice c.A c.na c.ca, .slice c.K c.nk c.ck] 25)).alloc (.cells #[.string (B c2.nm), .string (B c2.tx), .slice c2.A c2.na c2.ca, .slice c2.K c2.nk c2.ck] 25)) := by
    refine ⟨hS.b, ?_, ((hn2.step (below_alloc w _)).step (below_alloc _ _))⟩
    have := Bx.new (w.alloc (.cells #[.string (B c.nm), .string (B c.tx), .slice c.A c.na c.ca, .slice c.K c.nk c.ck] 25)) c2
    rw [show (w.alloc (.cells #[.string (B c.nm), .string (B c.tx), .slice c.A c.na c.ca, .slice c.K c.nk c.ck] 25)).heap.size = w.heap.size + 1 from by simp] at this
    exact this
  have C := Lib.hid (small_any n c _ hS.n hok)
  have x0 := hS.x.c0
  have x1 := hS.x.c1
  have x2 := hS.x.c2
  have x3 := hS.x.c3
  clear hn hok hn2
  go_enter Try.func5, Try.ntmps5
  go_wp2_with fail
  refine C.out.mono ?_
  rintro e w1 ⟨rfl, hb1⟩
  have hS1 := hS.step hb1
  have hT1 := hT.step hb1
  clear C hS hT x0 x1 x2 x3 hb1
  cases hsm : smallB n
  · go_wp2_with fail
    refine (awake_any _).mono ?_
    rintro e w2 ⟨rfl, hb2⟩
    have hb3 := hS1.b.trans (hb2.mono hS1.b.size)
    clear hb2
    go_wp2
    go_ret
    exact ⟨rfl, hb3⟩
  have hsz0 := small_sz hsm
  have hsz : szN n ≤ 1000000000 := by omega
  have hok := ok_of_sz 1000000000 n hsz
  clear hsm hsz0
  have C := Lib.hid (small_any n2 c2 _ hT1.n hok2)
  have x0 := hT1.x.c0
  have x1 := hT1.x.c1
  have x2 := hT1.x.c2
  have x3 := hT1.x.c3
  clear hok2
  go_wp2_with fail
  refine C.out.mono ?_
  rintro e w2 ⟨rfl, hb2⟩
  have hS2 := hS1.step hb2
  have hT2 := hT1.step hb2
  clear C hS1 hT1 x0 x1 x2 x3 hb2
  cases hsm : smallB n2
  · go_wp2_with fail
    refine (awake_any _).mono ?_
    rintro e w3 ⟨rfl, hb3⟩
    have hb4 := hS2.b.trans (hb3.mono hS2.b.size)
    clear hb3
    go_wp2
    go_ret
    exact ⟨rfl, hb4⟩
  have hsz0 := small_sz hsm
  have hsz2 : szN n2 ≤ 1000000000 := by omega
  have hok2 := ok_of_sz 1000000000 n2 hsz2
  clear hsm hsz0
  by_cases hl : 500 < key.length
  · go_wp2_with fail
    refine (awake_any _).mono ?_
    rintro e w3 ⟨rfl, hb3⟩
    have hb4 := hS2.b.trans (hb3.mono hS2.b.size)
    clear hb3
    go_wp2
    go_ret
    exact ⟨rfl, hb4⟩
  have hl : key.length ≤ 500 := by omega
  have hvl := vals_sz key n
  have C1 := Lib.hid (fun V h => values_any n c key V h hok hsz)
  have C2 := Lib.hid (fun V h => rvalues_any key n c V h hok hsz)
  have hS3 := hS2.step (below_of_drewN w2.heap.size w2 1)
  have hT3 := hT2.step (below_of_drewN w2.heap.size w2 1)
  have hS2 := hS3
  have hT2 := hT3
  clear hS3 hT3
  have hr1 : True := trivial
  have hr2 : True := trivial
  generalize vals key n = vs at *
  go_wp2
  go_region_held3 (fun w' => w'.cell? ⟨w.heap.size, 0, none⟩ = some (.string (B c.nm)) ∧ w'.cell? ⟨w.heap.size, 1, none⟩ = some (.string (B c.tx)) ∧ w'.cell? ⟨w.heap.size, 2, none⟩ = some (.slice c.A c.na c.ca) ∧ w'.cell? ⟨w.heap.size, 3, none⟩ = some (.slice c.K c.nk c.ck))
    (first | exact hS2.s0)
    (first
      | (go_at_call 18; refine (C1.out _ hS2.n).mono ?_; rintro e w' ⟨A1, k1, rfl, hr1', hb⟩; (try have hr2' := Rd.more (Rd.below hr2 hb) hb.size; clear hr2; have hr2 := hr2'; clear hr2'); clear hr1; have hr1 := hr1'; clear hr1'; have hS2' := hS2.step hb; have hT2' := hT2.step hb; clear hS2 hT2 hb; have hS2 := hS2'; have hT2 := hT2'; clear hS2' hT2')
      | (go_at_call 19; refine (C2.out _ hS2.n).mono ?_; rintro e w' ⟨A2, k2, rfl, hr2', hb⟩; (try have hr1' := Rd.more (Rd.below hr1 hb) hb.size; clear hr1; have hr1 := hr1'; clear hr1'); clear hr2; have hr2 := hr2'; clear hr2'; have hS2' := hS2.step hb; have hT2' := hT2.step hb; clear hS2 hT2 hb; have hS2 := hS2'; have hT2 := hT2'; clear hS2' hT2'))
  rename_i w'
  have HR1 := Lib.hid hr1
  have HR2 := Lib.hid hr2
  clear hr1 hr2 C1 C2
  have hq : ((vs.length : Int) != (vs.length : Int)) = false := by simp
  go_wp2
  clear hq
  go_loopw [9] (fun i wr => ∃ j : Nat, j ≤ vs.length ∧ i = .int .i64 (j : Int) ∧ SI w w.heap.size n c wr ∧ SI w (w.heap.size + 1) n2 c2 wr ∧ TlR A1 A2 vs wr) (fun i _ => vs.length - (intOf i).toNat)
  case atStart => exact ⟨0, Nat.zero_le _, rfl, hS2, hT2, HR1.out, HR2.out⟩
  case round =>
    obtain ⟨j, hj, rfl, hS, hT, hR1, hR2⟩ := hrel
    by_cases hlt : j < vs.length
    · have hget : vs[j]? = some vs[j] := List.getElem?_eq_getElem hlt
      obtain ⟨b1, o1, e1, hb1, q1⟩ := str_cell hR1 hget
      obtain ⟨b2, o2, e2, hb2, q2⟩ := str_cell hR2 hget
      have hS3 := fun m => hS.step (below_of_drewN wr.heap.size wr m)
      have hT3 := fun m => hT.step (below_of_drewN wr.heap.size wr m)
      have hQ := fun m => (⟨Rd.below hR1 (below_of_drewN wr.heap.size wr m), Rd.below hR2 (below_of_drewN wr.heap.size wr m)⟩ : TlR A1 A2 vs (wr.drewN m))
      have HS3 := Lib.hid hS3
      have HT3 := Lib.hid hT3
      have HQ := Lib.hid hQ
      have i1 : (0 : Int) ≤ (j : Int) := by omega
      have i2 : (j : Int) < (vs.length : Int) := by omega
      have d0 : decide (j < vs.length) = true := by simpa using hlt
      generalize vs[j] = x at *
      subst e1 e2
      clear hS3 hT3 hQ hget hR1 hR2 HR1 HR2 hS hT hS2 hT2
      go_wp2
      go_quiet (fail)
      go_wp2
      go_roundw
      case rel => exact ⟨j + 1, by omega, by go_num, HS3.out _, HT3.out _, HQ.out _⟩
      case measure => simp [intOf]; omega
    · have d0 : decide (j < vs.length) = false := by simpa using hlt
      have hS3 := hS.step (below_of_drewN wr.heap.size wr 1)
      have hT3 := hT.step (below_of_drewN wr.heap.size wr 1)
      have hS : SI w w.heap.size n c wr.drew := hS3
      have hT : SI w (w.heap.size + 1) n2 c2 wr.drew := hT3
      have CAB := Lib.hid (fun V h1 h2 => same_any n n2 c c2 V h1 h2 hok hok2)
      have CAA := Lib.hid (fun V h1 => same_any n n c c V h1 h1 hok hok)
      rw [smN_refl] at CAA
      have CR := Lib.hid (fun V h1 h2 => rsame_any n n2 c c2 V h1 h2 hok hok2)
      have CP := Lib.hid (fun V h => plain_any n c V h hok hsz)
      have CQ := Lib.hid (fun V h => rplain_any n c V h hok hsz)
      have CE := Lib.hid (fun V => escape_any (B key) V (by rw [B_size]; omega))
      have CF := Lib.hid (fun V => rescape_any (B key) V (by rw [B_size]; omega))
      rw [B_data] at CE CF
      generalize smN n n2 = bb at *
      generalize pln n = pp at *
      generalize esc key = ee at *
      clear hS3 hT3 hR1 hR2 HR1 HR2 hS2 hT2
      go_wp2
      go_region_held3 (fun w' => (w'.cell? ⟨w.heap.size, 0, none⟩ = some (.string (B c.nm)) ∧ w'.cell? ⟨w.heap.size, 1, none⟩ = some (.string (B c.tx)) ∧ w'.cell? ⟨w.heap.size, 2, none⟩ = some (.slice c.A c.na c.ca) ∧ w'.cell? ⟨w.heap.size, 3, none⟩ = some (.slice c.K c.nk c.ck)) ∧ (w'.cell? ⟨w.heap.size + 1, 0, none⟩ = some (.string (B c2.nm)) ∧ w'.cell? ⟨w.heap.size + 1, 1, none⟩ = some (.string (B c2.tx)) ∧ w'.cell? ⟨w.heap.size + 1, 2, none⟩ = some (.slice c2.A c2.na c2.ca) ∧ w'.cell? ⟨w.heap.size + 1, 3, none⟩ = some (.slice c2.K c2.nk c2.ck)))
        (first | exact ⟨hS.s0, hT.s0⟩)
        (first
          | (go_at_call 20; (first | (with_reducible refine (CAB.out _ hS.n hT.n).mono ?_) | (with_reducible refine (CAA.out _ hS.n).mono ?_)); rintro e w' ⟨rfl, hb⟩; have hS2' := hS.step hb; have hT2' := hT.step hb; clear hS hT hb; have hS := hS2'; have hT := hT2'; clear hS2' hT2')
          | (go_at_call 17; (with_reducible refine (CR.out _ hS.n hT.n).mono ?_); rintro e w' ⟨rfl, hb⟩; have hS2' := hS.step hb; have hT2' := hT.step hb; clear hS hT hb; have hS := hS2'; have hT := hT2'; clear hS2' hT2')
          | (go_at_call 21; (with_reducible refine (CP.out _ hS.n).mono ?_); rintro e w' ⟨rfl, hb⟩; have hS2' := hS.step hb; have hT2' := hT.step hb; clear hS hT hb; have hS := hS2'; have hT := hT2'; clear hS2' hT2')
          | (go_at_call 22; (with_reducible refine (CQ.out _ hS.n).mono ?_); rintro e w' ⟨rfl, hb⟩; have hS2' := hS.step hb; have hT2' := hT.step hb; clear hS hT hb; have hS := hS2'; have hT := hT2'; clear hS2' hT2')
          | (go_at_call 23; refine (CE.out _).mono ?_; rintro e w' ⟨rfl, hb⟩; have hS2' := hS.step hb; have hT2' := hT.step hb; clear hS hT hb; have hS := hS2'; have hT := hT2'; clear hS2' hT2')
          | (go_at_call 24; refine (CF.out _).mono ?_; rintro e w' ⟨rfl, hb⟩; have hS2' := hS.step hb; have hT2' := hT.step hb; clear hS hT hb; have hS := hS2'; have hT := hT2'; clear hS2' hT2')
          | (go_at_call 10; refine (awake_any _).mono ?_; rintro e w' ⟨rfl, hb⟩; have hS2' := hS.step hb; have hT2' := hT.step hb; clear hS hT hb; have hS := hS2'; have hT := hT2'; clear hS2' hT2'))
      all_goals
        go_wp2
        go_ret
        exact ⟨rfl, hS.b⟩
end Go.Proofs.Ytlhkpkjcecjomaa
