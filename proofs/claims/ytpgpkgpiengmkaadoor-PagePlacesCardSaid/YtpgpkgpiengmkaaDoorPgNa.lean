/-
  Layer 40 (page), the chapter's: Places.
-/
import Derived.Test.YtpgpkgpiengmkaaDoorPgN
namespace Go.Proofs.YtpgpkgpiengmkaaDoor
open Go.RowKit
set_option linter.unusedVariables false
set_option linter.unusedSimpArgs false
attribute [local go_sem] B_data B_size

structure RS (w : World) (L : List KV) (A : Option Addr) (m c : Nat) (wr : World) : Prop where
  b : Below w.heap.size w wr
  ro : wr.ownsRow w.heap.size 37 2 (.slice A m c) m (L.flatMap prF)
theorem with_len (L : List KV) (a v : List UInt8) : (withP L a v).length ≤ L.length + 1 := by
  unfold withP; split <;> simp
theorem own_cnt {w : World} {base m c : Nat} {A : Option Addr} {L : List KV} (h : w.ownsRow base 37 2 (.slice A m c) m (L.flatMap prF)) : L.length = m := (Rd.of_own h).count prF 2 prF_len (by omega)
set_option maxHeartbeats 8000000 in
set_option maxRecDepth 100000 in
theorem rplaces_any (A E : Option Addr) (n c m d : Nat) (l : List Bx) (ps : List Pg) (w : World) (hx : BxAt w w.heap.size A n l) (hp : PgAt w w.heap.size E m ps) (hn : n ≤ 1000) (hB : PgB ps) (hf : ∀ b ∈ l, FewB b) :
    Calls Tryd.prog 18 #[.slice A n c, .slice E m d] w (PlcPost (plP l 0 [] ps) w) := by
  have HL := Lib.hid hx.len
  have HM := Lib.hid hp.len
  have hm : m ≤ 1000 := by rw [← HM.out]; exact hB.n
  have HF := Lib.hid hf
  have HS : Hid (RS w [] none 0 0 w) := ⟨Below.refl _ _, World.ownsRow_nil ..⟩
  clear hf
  go_enter Tryd.func18, Tryd.ntmps18
  go_wp2
  go_loopw [5, 6] (fun pv i wr => ∃ (j : Nat) (L : List KV) (A : Option Addr) (k c : Nat), j ≤ m ∧ i = .int .i64 j ∧ pv = .slice A k c ∧ k ≤ j * 6000 ∧ Hid (RS w L A k c wr) ∧ Hid (plP l 0 [] ps = plP l j L (ps.drop j))) (fun _ i _ => m - (intOf i).toNat)
  case atStart => exact ⟨0, [], none, 0, 0, Nat.zero_le _, rfl, rfl, Nat.le_refl _, HS, rfl⟩
  case round =>
    clear HS
    obtain ⟨j, L, A5, m5, c5', hj, rfl, rfl, hm5, HS, hr⟩ := hrel
    have hbw := HS.out.b
    have hsz := hbw.size
    by_cases hlt : j < m
    · obtain ⟨p, hpj⟩ := get_of (l := ps) (k := j) (by rw [HM.out]; exact hlt)
      obtain ⟨g, o, rfl, hg, c0, c1⟩ := (hp.below hbw).at2 hpj
      have HPB := Lib.hid (hp.bs p (List.mem_of_getElem? hpj))
      have HPL := Lib.hid HPB.out.ints_len
      have hnb := hB.b p (List.mem_of_getElem? hpj)
      have j1 : (0 : Int) ≤ (j : Int) := by omega
      have j2 : (j : Int) < (m : Int) := by omega
      have HE : Hid (plP l 0 [] ps = plP l (j + 1) (plB l (Lib.decDigits (j + 1)) L p.bs) (ps.drop (j + 1))) := by rw [hr.out, drop_get hpj]; rfl
      clear hr hbw
      go_wp2
      go_loopw [5, 7] (fun pv i wr => ∃ (k : Nat) (L2 : List KV) (A : Option Addr) (m5 c : Nat), k ≤ p.nb ∧ i = .int .i64 k ∧ pv = .slice A m5 c ∧ m5 ≤ j * 6000 + k * 6 ∧ Hid (RS w L2 A m5 c wr) ∧ Hid (plB l (Lib.decDigits (j + 1)) L p.bs = plB l (Lib.decDigits (j + 1)) L2 (p.bs.drop k))) (fun _ i _ => p.nb - (intOf i).toNat)
      case atStart => exact ⟨0, L, A5, m5, c5', Nat.zero_le _, rfl, rfl, by omega, HS, rfl⟩
      case round =>
        clear HS hm5 c0 c1
        obtain ⟨k, L2, A5, m5, c5', hk, rfl, rfl, hm5, HS, hr⟩ := hrel
        have hbw := HS.out.b
        have hsz := hbw.size
        obtain ⟨g', o', hA1, _, c0, c1⟩ := (hp.below hbw).at2 hpj
        injection hA1 with hA1
        injection hA1 with hA1 hA2 _
        subst hA1 hA2
        by_cases hka : k < p.nb
        · obtain ⟨x, hxk⟩ := get_of (l := p.bs) (k := k) (by rw [HPL.out]; exact hka)
          obtain ⟨g3, o3, hA3, _, e0⟩ := (HPB.out.below hbw).int hxk
          rw [hA3] at c0
          have HN0 : Hid (plB l (Lib.decDigits (j + 1)) L p.bs = plB l (Lib.decDigits (j + 1)) (plA (Lib.decDigits (j + 1)) L2 (ancOf l x)) (p.bs.drop (k + 1))) := by rw [hr.out, drop_get hxk]; rfl
          clear hr
          by_cases hx0 : x < 0
          · have HN : Hid (plB l (Lib.decDigits (j + 1)) L p.bs = plB l (Lib.decDigits (j + 1)) L2 (p.bs.drop (k + 1))) := by rw [HN0.out]; unfold ancOf; rw [if_neg (by omega)]; rfl
            clear HN0
            go_wp2
            go_roundw
            case rel => exact ⟨k + 1, L2, A5, m5, c5', by omega, by go_num, rfl, by omega, HS, HN⟩
            case measure => simp [intOf]; omega
          by_cases hxn : (n : Int) ≤ x
          · have HN : Hid (plB l (Lib.decDigits (j + 1)) L p.bs = plB l (Lib.decDigits (j + 1)) L2 (p.bs.drop (k + 1))) := by rw [HN0.out]; unfold ancOf; rw [if_neg (by rw [HL.out]; omega)]; rfl
            clear HN0
            go_wp2
            go_roundw
            case rel => exact ⟨k + 1, L2, A5, m5, c5', by omega, by go_num, rfl, by omega, HS, HN⟩
            case measure => simp [intOf]; omega
          obtain ⟨y, rfl⟩ : ∃ y : Nat, x = (y : Int) := ⟨x.toNat, by omega⟩
          have hyn : y < n := by omega
          obtain ⟨b, hb⟩ := get_of (l := l) (k := y) (by rw [HL.out]; exact hyn)
          obtain ⟨gb, ob, hA, hgb, b0, b1, b2, b3, b4, b5⟩ := (hx.below hbw).at6 hb
          subst hA
          have HAN := Lib.hid (hx.an b (List.mem_of_getElem? hb))
          have HNA := Lib.hid (HAN.out.strs_length)
          have hna6 : b.na ≤ 6 := by rw [← HNA.out]; exact (HF.out b (List.mem_of_getElem? hb)).1
          have k1 : (0 : Int) ≤ (y : Int) := by omega
          have k2 : (y : Int) < (n : Int) := by omega
          have HN : Hid (plB l (Lib.decDigits (j + 1)) L p.bs = plB l (Lib.decDigits (j + 1)) (plA (Lib.decDigits (j + 1)) L2 (b.an.drop 0)) (p.bs.drop (k + 1))) := by
            rw [HN0.out]; unfold ancOf; rw [if_pos (by rw [HL.out]; omega), Int.toNat_natCast, hb]; rfl
          clear HN0 b0 b1 b2 b3 b4
          go_wp2
          go_loopw [5, 9] (fun pv i wr => ∃ (t : Nat) (L3 : List KV) (A : Option Addr) (m5 c : Nat), t ≤ b.na ∧ i = .int .i64 t ∧ pv = .slice A m5 c ∧ m5 ≤ j * 6000 + k * 6 + t ∧ Hid (RS w L3 A m5 c wr) ∧ Hid (plB l (Lib.decDigits (j + 1)) L p.bs = plB l (Lib.decDigits (j + 1)) (plA (Lib.decDigits (j + 1)) L3 (b.an.drop t)) (p.bs.drop (k + 1)))) (fun _ i _ => b.na - (intOf i).toNat)
          case atStart => exact ⟨0, L2, A5, m5, c5', Nat.zero_le _, rfl, rfl, by omega, HS, HN⟩
          case round =>
            clear HS HN hm5 hbw hsz b5 e0 c0 c1
            obtain ⟨t, L3, A5, m5, c5', ht, rfl, rfl, hm5, HS, hr⟩ := hrel
            have hbw := HS.out.b
            have hsz := hbw.size
            obtain ⟨gb', ob', hA, _, _, _, _, _, _, b5⟩ := (hx.below hbw).at6 hb
            injection hA with hA
            injection hA with hA hA2 _
            subst hA hA2
            by_cases hta : t < b.na
            · obtain ⟨a, ha⟩ := get_of (l := b.an) (k := t) (by rw [HNA.out]; exact hta)
              obtain ⟨g4, o4, hA4, hg4, a0⟩ := (HAN.out.below hbw).strk ha
              rw [hA4] at b5
              have HN : Hid (plB l (Lib.decDigits (j + 1)) L p.bs = plB l (Lib.decDigits (j + 1)) (plA (Lib.decDigits (j + 1)) (withP L3 a (Lib.decDigits (j + 1))) (b.an.drop (t + 1))) (p.bs.drop (k + 1))) := by rw [hr.out, drop_get ha]; rfl
              have l1 : (0 : Int) ≤ (t : Int) := by omega
              have l2 : (t : Int) < (b.na : Int) := by omega
              have HNU := Lib.hid (fun W => num_any (j + 1) (by omega) W)
              have HRO := Lib.hid HS.out.ro.drew
              have HBW : Hid (Below w.heap.size w wr.drew) := hbw.drew
              have b5d : wr.drew.cell? ⟨gb, ob + y * 6 + 5, none⟩ = some (.slice (some ⟨g4, o4, none⟩) b.na b.ca) := b5
              have a0d : wr.drew.cell? ⟨g4, o4 + t, none⟩ = some (.string (B a)) := a0
              have hszd : w.heap.size ≤ wr.drew.heap.size := hsz
              have hwj : IntKind.i64.wrap ((j : Int) + 1) = (j : Int) + 1 := wrap_in (by omega) (by omega)
              generalize Lib.decDigits (j + 1) = num at *
              clear hr
              go_wp2
              go_region_held3 (fun w' => w'.cell? ⟨gb, ob + y * 6 + 5, none⟩ = some (.slice (some ⟨g4, o4, none⟩) b.na b.ca) ∧ w'.cell? ⟨g4, o4 + t, none⟩ = some (.string (B a))) (first | (exact ⟨b5d, a0d⟩) | (exact ⟨b5e, a0e⟩) | (exact ⟨b5f, a0f⟩) | go_keep)
                (first
                  | (go_at_call 37; refine (HNU.out _).mono ?_; rintro e w3 ⟨rfl, hb3⟩; have hro3 := own_below HRO.out hb3; have hbw3 := HBW.out.trans (hb3.mono hszd); have hsz3 := hbw3.size; have b5e : w3.cell? ⟨gb, ob + y * 6 + 5, none⟩ = some (.slice (some ⟨g4, o4, none⟩) b.na b.ca) := (hb3.cell (p := ⟨gb, ob + y * 6 + 5, none⟩) (show gb < wr.heap.size by omega)).trans b5d; have a0e : w3.cell? ⟨g4, o4 + t, none⟩ = some (.string (B a)) := (hb3.cell (p := ⟨g4, o4 + t, none⟩) (show g4 < wr.heap.size by omega)).trans a0d)
                  | (go_at_call 36; refine (with_any A5 m5 c5' L3 a num w.heap.size w3 hro3 (by omega) hsz3).mono ?_; rintro e w4 ⟨A6, m6, c6, rfl, ho6, hb6⟩; have b5f : w4.cell? ⟨gb, ob + y * 6 + 5, none⟩ = some (.slice (some ⟨g4, o4, none⟩) b.na b.ca) := (hb6.cell (p := ⟨gb, ob + y * 6 + 5, none⟩) hgb).trans b5e; have a0f : w4.cell? ⟨g4, o4 + t, none⟩ = some (.string (B a)) := (hb6.cell (p := ⟨g4, o4 + t, none⟩) hg4).trans a0e))
              have hm6 : m6 ≤ m5 + 1 := by
                have h1 := own_cnt ho6
                have h2 := own_cnt hro3
                have h3 := with_len L3 a num
                omega
              have HS6 : Hid (RS w (withP L3 a num) A6 m6 c6 w4) := ⟨hbw3.trans hb6, ho6⟩
              clear ho6 hb6 hro3 hbw3 HRO HBW b5d a0d b5e a0e b5f a0f hb3
              go_wp2
              go_roundw
              case rel => exact ⟨t + 1, withP L3 a num, A6, m6, c6, by omega, by go_num, rfl, by omega, HS6, HN⟩
              case measure => simp [intOf] <;> omega
            · have HN : Hid (plB l (Lib.decDigits (j + 1)) L p.bs = plB l (Lib.decDigits (j + 1)) L3 (p.bs.drop (k + 1))) := by rw [hr.out, List.drop_of_length_le (l := b.an) (by rw [HNA.out]; omega)]; rfl
              clear hr
              go_wp2
              go_roundw
              case rel => exact ⟨k + 1, L3, A5, m5, c5', by omega, by go_num, rfl, by omega, HS, HN⟩
              case measure => simp [intOf]; omega
        · have HN : Hid (plP l 0 [] ps = plP l (j + 1) L2 (ps.drop (j + 1))) := by rw [HE.out, hr.out, List.drop_of_length_le (l := p.bs) (by rw [HPL.out]; omega)]; rfl
          clear hr
          go_wp2
          go_roundw
          case rel => exact ⟨j + 1, L2, A5, m5, c5', by omega, by go_num, rfl, by omega, HS, HN⟩
          case measure => simp [intOf]; omega
    · have HX : Hid (plP l 0 [] ps = L) := by rw [hr.out, List.drop_of_length_le (l := ps) (by rw [HM.out]; omega)]; rfl
      have HP : Hid (PlcPost (plP l 0 [] ps) w (.returned (.slice A5 m5 c5')) wr) := by
        rw [HX.out]; exact ⟨A5, m5, c5', rfl, Rd.of_own HS.out.ro, hbw⟩
      clear hr HS HX
      go_wp2
      go_ret
      exact HP.out
end Go.Proofs.YtpgpkgpiengmkaaDoor
