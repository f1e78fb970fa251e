/-
  Layer 40 (page): the pages of anchors: the program's Places.
-/
import Derived.Test.YtpgpkgpiengmkaaDoorPgY
import Derived.Test.YtpgpkgpiengmkaaDoorShelf40
import Derived.Lib.LaidTab
namespace Go.Proofs.YtpgpkgpiengmkaaDoor
open Go.RowKit
set_option linter.unusedVariables false
set_option linter.unusedSimpArgs false
attribute [local go_sem] B_data B_size

/-- the library's table of powers of ten is as it was laid -/
def GlobP (w : World) : Prop := Lib.TabIs Tryd.prog w "internal/strconv.uint64pow10" .u64 Lib.pow10Tab
theorem tab_block {w : World} (h : Lib.TabIs Tryd.prog w "internal/strconv.uint64pow10" .u64 Lib.pow10Tab) : ∃ o, w.heap[0]? = some o := by
  unfold Lib.TabIs World.var? at h
  rw [show Tryd.prog.globalNamed "internal/strconv.uint64pow10" = some 0 from by kernel_rfl] at h
  simp only [Option.bind_some] at h
  cases hh : w.heap[0]? with
  | none => rw [hh] at h; cases h
  | some o => exact ⟨o, rfl⟩
theorem tab_keep {w w' : World} (h : Lib.TabIs Tryd.prog w "internal/strconv.uint64pow10" .u64 Lib.pow10Tab) (e : w'.heap[0]? = w.heap[0]?) : Lib.TabIs Tryd.prog w' "internal/strconv.uint64pow10" .u64 Lib.pow10Tab := by
  unfold Lib.TabIs World.var? at h ⊢
  rw [show Tryd.prog.globalNamed "internal/strconv.uint64pow10" = some 0 from by kernel_rfl] at h ⊢
  simp only [Option.bind_some] at h ⊢
  rw [e]; exact h
theorem GlobP.below {w w' : World} (h : GlobP w) (hb : Below w.heap.size w w') : GlobP w' := by
  obtain ⟨o, ho⟩ := tab_block h
  exact tab_keep h (hb.block _ (Array.getElem?_eq_some_iff.1 ho).1)
theorem below_grow (w : World) (os : Array Obj) (k : Nat) : Below w.heap.size w (Go.Sort.grow (w.drewN k) os) := by
  refine ⟨rfl, rfl, rfl, ?_, fun i hi => ?_⟩
  · show w.heap.size ≤ (w.heap ++ os).size
    simp
  · show (w.heap ++ os)[i]? = w.heap[i]?
    exact Array.getElem?_append_left hi
theorem itoa_any (n : Nat) (w : World) (hn : n ≤ 1000000) (hG : GlobP w) : Calls Tryd.prog 35 #[.int .i64 n] w fun e w' => e = .returned (.string (B (Lib.decDigits n))) ∧ Below w.heap.size w w' := by
  refine (Tryd.strconv_Itoa n (by omega) (by omega) w hG).mono ?_
  rintro e w' ⟨rfl, k, os, rfl⟩
  refine ⟨?_, below_grow w os k⟩
  unfold Lib.itoa
  rw [if_neg (by omega), Int.toNat_natCast]; rfl

abbrev KV := List UInt8 × List UInt8
def prF (p : KV) : List Value := [.string (B p.1), .string (B p.2)]
theorem prF_len (p : KV) : (prF p).length = 2 := rfl
/-- an anchor with its page, unless it is there -/
def withP (L : List KV) (a v : List UInt8) : List KV := if a ∈ L.map (·.1) then L else L ++ [(a, v)]
def plA (v : List UInt8) : List KV → List (List UInt8) → List KV
  | L, [] => L
  | L, a :: r => plA v (withP L a v) r
def ancOf (l : List Bx) (x : Int) : List (List UInt8) := if 0 ≤ x ∧ x < (l.length : Int) then (l[x.toNat]?.map (·.an)).getD [] else []
def plB (l : List Bx) (v : List UInt8) : List KV → List Int → List KV
  | L, [] => L
  | L, x :: r => plB l v (plA v L (ancOf l x)) r
def plP (l : List Bx) : Nat → List KV → List Pg → List KV
  | _, L, [] => L
  | k, L, p :: r => plP l (k + 1) (plB l (Lib.decDigits (k + 1)) L p.bs) r
/-- the state of Places -/
structure PS (w : World) (L : List KV) (A : Option Addr) (m c : Nat) (wr : World) : Prop where
  b : Below w.heap.size w wr
  mp : NMap wr w.heap.size (L.map (·.1))
  ro : wr.ownsRow (w.heap.size + 1) 37 2 (.slice A m c) m (L.flatMap prF)
theorem PS.step {w w1 w2 : World} {L : List KV} {A : Option Addr} {m c : Nat} (h : PS w L A m c w1) (hb : Below w1.heap.size w1 w2) : PS w L A m c w2 :=
  ⟨h.b.trans (hb.mono h.b.size), h.mp.step hb, own_below h.ro hb⟩
theorem Tryd.infoPair : (Tryd.prog.info? 37).map (fun i => (i.zero, i.size, i.bytes)) = some (some (.agg #[.string ⟨#[]⟩, .string ⟨#[]⟩]), 2, 32) := by kernel_rfl
def PlcPost (L : List KV) (w : World) (e : Ending) (w' : World) : Prop := ∃ A m c, e = .returned (.slice A m c) ∧ Rd w' w'.heap.size 2 A m (L.flatMap prF) ∧ Below w.heap.size w w'
set_option maxHeartbeats 8000000 in
set_option maxRecDepth 100000 in
theorem places_any (A E : Option Addr) (n c m d : Nat) (l : List Bx) (ps : List Pg) (w : World) (hx : BxAt w w.heap.size A n l) (hp : PgAt w w.heap.size E m ps) (hn : n ≤ 1000) (hB : PgB ps) (hf : ∀ b ∈ l, FewB b) (hG : GlobP w) :
    Calls Tryd.prog 17 #[.slice A n c, .slice E m d] w (PlcPost (plP l 0 [] ps) w) := by
  have HL := Lib.hid hx.len
  have HM := Lib.hid hp.len
  have hm : m ≤ 1000 := by rw [← HM.out]; exact hB.n
  have HF := Lib.hid hf
  have hmk := run_mkS w
  have HS : Hid (PS w [] none 0 0 (w.alloc (.map #[] 0))) := ⟨below_alloc w _, NMap.made w, World.ownsRow_nil ..⟩
  clear hf
  go_enter Tryd.func17, Tryd.ntmps17
  go_wp2
  clear hmk
  go_loopw [5, 17] (fun pv i wr => ∃ (j : Nat) (L : List KV) (A : Option Addr) (k c : Nat), j ≤ m ∧ i = .int .i64 j ∧ pv = .slice A k c ∧ k ≤ j * 6000 ∧ Hid (PS w L A k c wr) ∧ Hid (plP l 0 [] ps = plP l j L (ps.drop j))) (fun _ i _ => m - (intOf i).toNat)
  case atStart => exact ⟨0, [], none, 0, 0, Nat.zero_le _, rfl, rfl, Nat.le_refl _, HS, rfl⟩
  case round =>
    clear HS
    obtain ⟨j, L, A5, m5, c5', hj, rfl, rfl, hm5, HS, hr⟩ := hrel
    have hbw := HS.out.b
    have hsz := hbw.size
    by_cases hlt : j < m
    · obtain ⟨p, hpj⟩ := get_of (l := ps) (k := j) (by rw [HM.out]; exact hlt)
      obtain ⟨g, o, rfl, hg, c0, c1⟩ := (hp.below hbw).at2 hpj
      have HPB := Lib.hid (hp.bs p (List.mem_of_getElem? hpj))
      have HPL := Lib.hid HPB.out.ints_len
      have hnb := hB.b p (List.mem_of_getElem? hpj)
      have HSA := Lib.hid (HS.out.step (below_alloc _ (.cells #[.slice p.A p.nb p.cb, .int .i64 p.ht] 42)))
      have HE : Hid (plP l 0 [] ps = plP l (j + 1) (plB l (Lib.decDigits (j + 1)) L p.bs) (ps.drop (j + 1))) := by rw [hr.out, drop_get hpj]; rfl
      have t0 : (wr.alloc (.cells #[.slice p.A p.nb p.cb, .int .i64 p.ht] 42)).cell? ⟨wr.heap.size, 0, none⟩ = some (.slice p.A p.nb p.cb) := cell_of_row _ _ 0 _ _ _ (heap_alloc_new wr _)
      have hqs : wr.heap.size < (wr.alloc (.cells #[.slice p.A p.nb p.cb, .int .i64 p.ht] 42)).heap.size := by simp
      have HIT := Lib.hid (itoa_any (j + 1) (wr.alloc (.cells #[.slice p.A p.nb p.cb, .int .i64 p.ht] 42)) (by omega) (hG.below HSA.out.b))
      clear hr HS hbw
      go_wp2_with fail
      refine HIT.out.mono ?_
      rintro e w2 ⟨rfl, hb2⟩
      have t0' : w2.cell? ⟨wr.heap.size, 0, none⟩ = some (.slice p.A p.nb p.cb) := (hb2.cell (p := ⟨wr.heap.size, 0, none⟩) hqs).trans t0
      replace HSA := Lib.hid (HSA.out.step hb2)
      generalize Lib.decDigits (j + 1) = num at *
      clear t0 hqs hb2 c0 c1 HIT
      go_wp2
      go_loopw [5, 28] (fun pv i wr => ∃ (k : Nat) (L2 : List KV) (A : Option Addr) (m5 c : Nat), k ≤ p.nb ∧ i = .int .i64 k ∧ pv = .slice A m5 c ∧ m5 ≤ j * 6000 + k * 6 ∧ Hid (PS w L2 A m5 c wr) ∧ Hid (plB l num L p.bs = plB l num L2 (p.bs.drop k))) (fun _ i _ => p.nb - (intOf i).toNat)
      case atStart => exact ⟨0, L, A5, m5, c5', Nat.zero_le _, rfl, rfl, by omega, HSA, rfl⟩
      case round =>
        clear HSA t0' hm5
        obtain ⟨k, L2, A5, m5, c5', hk, rfl, rfl, hm5, HS, hr⟩ := hrel
        have hbw := HS.out.b
        have hsz := hbw.size
        by_cases hka : k < p.nb
        · obtain ⟨x, hxk⟩ := get_of (l := p.bs) (k := k) (by rw [HPL.out]; exact hka)
          obtain ⟨g3, o3, hA3, _, e0⟩ := (HPB.out.below hbw).int hxk
          rw [hA3]
          have HN0 : Hid (plB l num L p.bs = plB l num (plA num L2 (ancOf l x)) (p.bs.drop (k + 1))) := by rw [hr.out, drop_get hxk]; rfl
          clear hr
          by_cases hx0 : x < 0
          · have HN : Hid (plB l num L p.bs = plB l num L2 (p.bs.drop (k + 1))) := by rw [HN0.out]; unfold ancOf; rw [if_neg (by omega)]; rfl
            clear HN0
            go_wp2
            go_roundw
            case rel => exact ⟨k + 1, L2, A5, m5, c5', by omega, by go_num, rfl, by omega, HS, HN⟩
            case measure => simp [intOf]; omega
          by_cases hxn : (n : Int) ≤ x
          · have HN : Hid (plB l num L p.bs = plB l num L2 (p.bs.drop (k + 1))) := by rw [HN0.out]; unfold ancOf; rw [if_neg (by rw [HL.out]; omega)]; rfl
            clear HN0
            go_wp2
            go_roundw
            case rel => exact ⟨k + 1, L2, A5, m5, c5', by omega, by go_num, rfl, by omega, HS, HN⟩
            case measure => simp [intOf]; omega
          obtain ⟨y, rfl⟩ : ∃ y : Nat, x = (y : Int) := ⟨x.toNat, by omega⟩
          have hyn : y < n := by omega
          obtain ⟨b, hb⟩ := get_of (l := l) (k := y) (by rw [HL.out]; exact hyn)
          obtain ⟨gb, ob, hA, _, b0, b1, b2, b3, b4, b5⟩ := (hx.below hbw).at6 hb
          subst hA
          have HAN := Lib.hid (hx.an b (List.mem_of_getElem? hb))
          have HNA := Lib.hid (HAN.out.strs_length)
          have hna6 : b.na ≤ 6 := by rw [← HNA.out]; exact (HF.out b (List.mem_of_getElem? hb)).1
          have HN : Hid (plB l num L p.bs = plB l num (plA num L2 (b.an.drop 0)) (p.bs.drop (k + 1))) := by
            rw [HN0.out]; unfold ancOf; rw [if_pos (by rw [HL.out]; omega), Int.toNat_natCast, hb]; rfl
          clear HN0 b0 b1 b2 b3 b4
          go_wp2
          go_loopw [5, 46] (fun pv i wr => ∃ (t : Nat) (L3 : List KV) (A : Option Addr) (m5 c : Nat), t ≤ b.na ∧ i = .int .i64 t ∧ pv = .slice A m5 c ∧ m5 ≤ j * 6000 + k * 6 + t ∧ Hid (PS w L3 A m5 c wr) ∧ Hid (plB l num L p.bs = plB l num (plA num L3 (b.an.drop t)) (p.bs.drop (k + 1)))) (fun _ i _ => b.na - (intOf i).toNat)
          case atStart => exact ⟨0, L2, A5, m5, c5', Nat.zero_le _, rfl, rfl, by omega, HS, HN⟩
          case round =>
            clear HS HN hm5 hbw hsz b5 e0
            obtain ⟨t, L3, A5, m5, c5', ht, rfl, rfl, hm5, HS, hr⟩ := hrel
            have hbw := HS.out.b
            have hsz := hbw.size
            by_cases hta : t < b.na
            · obtain ⟨a, ha⟩ := get_of (l := b.an) (k := t) (by rw [HNA.out]; exact hta)
              obtain ⟨g4, o4, hA4, _, a0⟩ := (HAN.out.below hbw).strk ha
              rw [hA4]
              have HN : Hid (plB l num L p.bs = plB l num (plA num (withP L3 a num) (b.an.drop (t + 1))) (p.bs.drop (k + 1))) := by rw [hr.out, drop_get ha]; rfl
              clear hr
              by_cases hin : a ∈ L3.map (·.1)
              · have HN2 : Hid (plB l num L p.bs = plB l num (plA num L3 (b.an.drop (t + 1))) (p.bs.drop (k + 1))) := by rw [HN.out]; unfold withP; rw [if_pos hin]; rfl
                have hl := HS.out.mp.look (T := 60) Tryd.underlying60 Tryd.underlying9 a (zeroB wr)
                have hd : decide (a ∈ L3.map (·.1)) = true := by simpa using hin
                rw [hd] at hl
                clear HN hin hd
                go_wp2
                go_roundw
                case rel => exact ⟨t + 1, L3, A5, m5, c5', by omega, by go_num, rfl, by omega, HS, HN2⟩
                case measure => simp [intOf]; omega
              · have HN2 : Hid (plB l num L p.bs = plB l num (plA num (L3 ++ [(a, num)]) (b.an.drop (t + 1))) (p.bs.drop (k + 1))) := by rw [HN.out]; unfold withP; rw [if_neg hin]; rfl
                have hl := HS.out.mp.look (T := 60) Tryd.underlying60 Tryd.underlying9 a (zeroB wr)
                have hd : decide (a ∈ L3.map (·.1)) = false := by simpa using hin
                rw [hd] at hl
                obtain ⟨w3, hpu, hmp3, hg3⟩ := HS.out.mp.put (T := 60) Tryd.underlying60 Tryd.underlying9 a hin
                have hro3 : w3.ownsRow (w.heap.size + 1) 37 2 (.slice A5 m5 c5') m5 (L3.flatMap prF) := HS.out.ro.kept hg3 (.inr (fun e => by have := (HS.out.ro.lt _ e).1; omega))
                have hb3 := hbw.grown hg3 hsz (fun k hk => by injection hk with hk; omega)
                have hsz3 : w.heap.size + 1 ≤ w3.heap.size := by have := hmp3.lt; omega
                have HRO := Lib.hid hro3
                have HB3 := Lib.hid hb3
                have HMP := Lib.hid hmp3
                clear HN hin hd hg3 hmp3 hb3 hro3 HS
                go_wp2_with (at_builtin; refine wpList_app rfl _ _ 34 rfl 37 (.agg #[.string ⟨#[]⟩, .string ⟨#[]⟩]) 2 32 Tryd.underlying34 Tryd.infoPair rfl (by decide) w3 [.string (B a), .string (B num)] rfl ?q1 (w.heap.size + 1) _ _ _ HRO.out rfl rfl ?q2 (by decide) hsz3 ?_)
                case q1 =>
                  intro u hu
                  simp only [List.mem_cons, List.not_mem_nil, or_false] at hu
                  rcases hu with rfl | rfl <;> rfl
                case q2 => omega
                intro v4 w4 ho4 hg4 hb4
                obtain ⟨A6, c6, rfl, _⟩ := own_form ho4
                have HS4 : Hid (PS w (L3 ++ [(a, num)]) A6 (m5 + 1) c6 w4) := by
                  refine ⟨HB3.out.trans (hb4.mono (by omega)), ?_, ?_⟩
                  · rw [List.map_append]
                    exact HMP.out.below hb4 (by omega)
                  · rw [List.flatMap_append]; exact ho4
                clear ho4 hg4 hb4 HRO HB3 HMP
                go_wp2
                go_roundw
                case rel => exact ⟨t + 1, L3 ++ [(a, num)], A6, m5 + 1, c6, by omega, by go_num, rfl, by omega, HS4, HN2⟩
                case measure => simp [intOf]; omega
            · have HN : Hid (plB l num L p.bs = plB l num L3 (p.bs.drop (k + 1))) := by rw [hr.out, List.drop_of_length_le (l := b.an) (by rw [HNA.out]; omega)]; rfl
              clear hr
              go_wp2
              go_roundw
              case rel => exact ⟨k + 1, L3, A5, m5, c5', by omega, by go_num, rfl, by omega, HS, HN⟩
              case measure => simp [intOf]; omega
        · have HN : Hid (plP l 0 [] ps = plP l (j + 1) L2 (ps.drop (j + 1))) := by rw [HE.out, hr.out, List.drop_of_length_le (l := p.bs) (by rw [HPL.out]; omega)]; rfl
          clear hr
          go_wp2
          go_roundw
          case rel => exact ⟨j + 1, L2, A5, m5, c5', by omega, by go_num, rfl, by omega, HS, HN⟩
          case measure => simp [intOf]; omega
    · have HX : Hid (plP l 0 [] ps = L) := by rw [hr.out, List.drop_of_length_le (l := ps) (by rw [HM.out]; omega)]; rfl
      have HP : Hid (PlcPost (plP l 0 [] ps) w (.returned (.slice A5 m5 c5')) wr) := by
        rw [HX.out]; exact ⟨A5, m5, c5', rfl, Rd.of_own HS.out.ro, hbw⟩
      clear hr HS HX
      go_wp2
      go_ret
      exact HP.out
end Go.Proofs.YtpgpkgpiengmkaaDoor
