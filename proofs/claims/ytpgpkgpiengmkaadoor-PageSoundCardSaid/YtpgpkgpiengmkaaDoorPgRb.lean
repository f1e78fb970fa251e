/-
  Layer 40 (page), the chapter's: torn, early.
-/
import Derived.Test.YtpgpkgpiengmkaaDoorPgRa
namespace Go.Proofs.YtpgpkgpiengmkaaDoor
open Go.RowKit
set_option linter.unusedVariables false
set_option linter.unusedSimpArgs false
attribute [local go_sem] B_data B_size

/-- the last box in line of a page, and whether one ahead of it may be parted from the next -/
def torQ (l : List Bx) : Int → Bool → List Int → Int × Bool
  | en, free, [] => (en, free)
  | en, free, x :: r => if flB l x then torQ l en free r else torQ l x (free || (decide (0 ≤ en) && !kpB l en)) r
def torC (l : List Bx) (fin : Int) (r : Int × Bool) : Bool := decide (0 ≤ r.1) && (r.1 != fin) && kpB l r.1 && r.2
set_option maxHeartbeats 8000000 in
set_option maxRecDepth 100000 in
theorem rtorn_any (A E : Option Addr) (n c nb cb : Nat) (l : List Bx) (bs : List Int) (ht fin : Int) (w : World) (hx : BxAt w w.heap.size A n l) (hp : Rd w w.heap.size 1 E nb (ints bs)) (hn : n ≤ 1000) (hb : nb ≤ 1000) (hR : ∀ x ∈ bs, 0 ≤ x ∧ x < (n : Int)) :
    Calls Tryd.prog 30 #[.slice A n c, .agg #[.slice E nb cb, .int .i64 ht], .int .i64 fin] w (BlPost (torC l fin (torQ l (-1) false bs)) w) := by
  have HL := Lib.hid hx.len
  have HPL := Lib.hid hp.ints_len
  have HR := Lib.hid hR
  have hbA := below_alloc w (.cells #[.slice E nb cb, .int .i64 ht] 42)
  have t0 : (w.alloc (.cells #[.slice E nb cb, .int .i64 ht] 42)).cell? ⟨w.heap.size, 0, none⟩ = some (.slice E nb cb) := cell_of_row _ _ 0 _ _ _ (heap_alloc_new w _)
  have hqs : w.heap.size < (w.alloc (.cells #[.slice E nb cb, .int .i64 ht] 42)).heap.size := by simp
  clear hR
  go_enter Tryd.func30, Tryd.ntmps30
  go_wp2
  go_loopw [7, 8, 9] (fun ev fv i wr => ∃ (k : Nat) (en : Int) (free : Bool), k ≤ nb ∧ i = .int .i64 k ∧ ev = .int .i64 en ∧ fv = .bool free ∧ (en = -1 ∨ (0 ≤ en ∧ en < (n : Int))) ∧ Below w.heap.size w wr ∧ wr.cell? ⟨w.heap.size, 0, none⟩ = some (.slice E nb cb) ∧ Hid (torQ l (-1) false bs = torQ l en free (bs.drop k))) (fun _ _ i _ => nb - (intOf i).toNat)
  case atStart => exact ⟨0, -1, false, Nat.zero_le _, rfl, rfl, rfl, .inl rfl, hbA, t0, rfl⟩
  case round =>
    clear hbA t0 hqs
    obtain ⟨k, en, free, hk, rfl, rfl, rfl, hen, hbw, t0, hr⟩ := hrel
    by_cases hka : k < nb
    · obtain ⟨x, hxk⟩ := get_of (l := bs) (k := k) (by rw [HPL.out]; exact hka)
      obtain ⟨hx0, hxn⟩ := HR.out x (List.mem_of_getElem? hxk)
      obtain ⟨y, rfl⟩ : ∃ y : Nat, x = (y : Int) := ⟨x.toNat, by omega⟩
      obtain ⟨g3, o3, hA3, _, e0⟩ := (hp.below hbw).int hxk
      have T0 := Lib.hid t0
      rw [hA3] at t0
      have i1 : (0 : Int) ≤ (k : Int) := by omega
      have i2 : (k : Int) < (nb : Int) := by omega
      have hyn : y < n := by omega
      obtain ⟨b, hb⟩ := get_of (l := l) (k := y) (by rw [HL.out]; exact hyn)
      obtain ⟨gb, ob, hA, _, b0, b1, b2, b3, b4, b5⟩ := (hx.below hbw).at6 hb
      have HQ : Hid (torQ l (-1) false bs = if b.fl then torQ l en free (bs.drop (k + 1)) else torQ l (y : Int) (free || (decide (0 ≤ en) && !kpB l en)) (bs.drop (k + 1))) := by
        rw [hr.out, drop_get hxk, torQ, flB_of hb]; rfl
      clear hr b0 b1 b2 b3 b5
      cases hf : b.fl
      · rw [hf] at b4
        have HN : Hid (torQ l (-1) false bs = torQ l (y : Int) (free || (decide (0 ≤ en) && !kpB l en)) (bs.drop (k + 1))) := by rw [HQ.out, hf, if_neg (by decide)]; rfl
        clear HQ hf
        rcases hen with rfl | ⟨he0, hen⟩
        · have HN2 : Hid (torQ l (-1) false bs = torQ l (y : Int) free (bs.drop (k + 1))) := by rw [HN.out]; simp [Hid]
          clear HN
          subst hA
          cases free
          · go_wp2
            go_roundw
            case rel => exact ⟨k + 1, (y : Int), false, by omega, by go_num, rfl, rfl, .inr ⟨hx0, hxn⟩, hbw, T0.out, HN2⟩
            case measure => simp [intOf]; omega
          · go_wp2
            go_roundw
            case rel => exact ⟨k + 1, (y : Int), true, by omega, by go_num, rfl, rfl, .inr ⟨hx0, hxn⟩, hbw, T0.out, HN2⟩
            case measure => simp [intOf]; omega
        · obtain ⟨z, rfl⟩ : ∃ z : Nat, en = (z : Int) := ⟨en.toNat, by omega⟩
          obtain ⟨bz, hbz⟩ := get_of (l := l) (k := z) (by rw [HL.out]; omega)
          obtain ⟨gz, oz, hAz, _, _, _, _, z3, _, _⟩ := (hx.below hbw).at6 hbz
          rw [hA] at hAz
          injection hAz with hAz
          injection hAz with hAz hAz2 _
          subst hAz hAz2
          subst hA
          have HN2 : Hid (torQ l (-1) false bs = torQ l (y : Int) (free || !bz.kp) (bs.drop (k + 1))) := by rw [HN.out, kpB_of hbz, decide_eq_true he0]; rfl
          clear HN
          cases free
          · cases hkz : bz.kp
            · rw [hkz] at z3 HN2
              clear hkz
              go_wp2
              go_roundw
              case rel => exact ⟨k + 1, (y : Int), true, by omega, by go_num, rfl, rfl, .inr ⟨hx0, hxn⟩, hbw, T0.out, HN2⟩
              case measure => simp [intOf]; omega
            · rw [hkz] at z3 HN2
              clear hkz
              go_wp2
              go_roundw
              case rel => exact ⟨k + 1, (y : Int), false, by omega, by go_num, rfl, rfl, .inr ⟨hx0, hxn⟩, hbw, T0.out, HN2⟩
              case measure => simp [intOf]; omega
          · go_wp2
            go_roundw
            case rel => exact ⟨k + 1, (y : Int), true, by omega, by go_num, rfl, rfl, .inr ⟨hx0, hxn⟩, hbw, T0.out, HN2⟩
            case measure => simp [intOf]; omega
      · rw [hf] at b4
        subst hA
        have HN : Hid (torQ l (-1) false bs = torQ l en free (bs.drop (k + 1))) := by rw [HQ.out, hf, if_pos rfl]; rfl
        clear HQ hf
        go_wp2
        go_roundw
        case rel => exact ⟨k + 1, en, free, by omega, by go_num, rfl, rfl, hen, hbw, T0.out, HN⟩
        case measure => simp [intOf]; omega
    · have HQ : Hid (torQ l (-1) false bs = (en, free)) := by rw [hr.out, List.drop_of_length_le (l := bs) (by rw [HPL.out]; omega)]; rfl
      clear hr
      rcases hen with rfl | ⟨he0, hen⟩
      · have HX : Hid (torC l fin (torQ l (-1) false bs) = false) := by rw [HQ.out]; rfl
        clear HQ
        go_wp2
        go_ret
        exact bl_post HX hbw
      · obtain ⟨z, rfl⟩ : ∃ z : Nat, en = (z : Int) := ⟨en.toNat, by omega⟩
        obtain ⟨bz, hbz⟩ := get_of (l := l) (k := z) (by rw [HL.out]; omega)
        obtain ⟨gz, oz, hAz, _, _, _, _, z3, _, _⟩ := (hx.below hbw).at6 hbz
        subst hAz
        have HC : Hid (torC l fin (torQ l (-1) false bs) = (((z : Int) != fin) && bz.kp && free)) := by
          show _ = _
          rw [HQ.out]; unfold torC
          rw [kpB_of hbz, decide_eq_true he0]; rfl
        clear HQ
        by_cases hfe : (z : Int) = fin
        · have q0 : ((z : Int) != fin) = false := by simpa using hfe
          have q1 : ((z : Int) == fin) = true := by simpa using hfe
          have HX : Hid (torC l fin (torQ l (-1) false bs) = false) := by rw [HC.out, q0]; rfl
          clear HC hfe
          go_wp2
          go_ret
          exact bl_post HX hbw
        · have q0 : ((z : Int) != fin) = true := by simpa using hfe
          have q1 : ((z : Int) == fin) = false := by simpa using hfe
          cases hkz : bz.kp
          · rw [hkz] at z3 HC
            have HX : Hid (torC l fin (torQ l (-1) false bs) = false) := by rw [HC.out, q0]; rfl
            clear HC hfe hkz
            go_wp2
            go_ret
            exact bl_post HX hbw
          · rw [hkz] at z3 HC
            have HX : Hid (torC l fin (torQ l (-1) false bs) = free) := by rw [HC.out, q0]; rfl
            clear HC hfe hkz
            go_wp2
            go_ret
            exact bl_post HX hbw
/-- the chapter's search for a float that stands too early: the greatest float so far -/
def ey1 (l : List Bx) (most : Int) : List Int → Bool
  | [] => false
  | x :: r => if !flB l x && decide (x < most) then true else ey1 l most r
def ey2 (l : List Bx) : Int → List Int → Int
  | most, [] => most
  | most, x :: r => ey2 l (if flB l x && decide (most < x) then x else most) r
def eyF (l : List Bx) : Int → List Pg → Bool
  | _, [] => false
  | most, p :: r => if ey1 l most p.bs then true else eyF l (ey2 l most p.bs) r
set_option maxHeartbeats 8000000 in
set_option maxRecDepth 100000 in
theorem rearly_any (A E : Option Addr) (n c m d : Nat) (l : List Bx) (ps : List Pg) (w : World) (hx : BxAt w w.heap.size A n l) (hp : PgAt w w.heap.size E m ps) (hn : n ≤ 1000) (hB : PgB ps) (hR : inR n ps) :
    Calls Tryd.prog 29 #[.slice A n c, .slice E m d] w (BlPost (eyF l (-1) ps) w) := by
  have HL := Lib.hid hx.len
  have HM := Lib.hid hp.len
  have hm : m ≤ 1000 := by rw [← HM.out]; exact hB.n
  have HR := Lib.hid hR
  clear hR
  go_enter Tryd.func29, Tryd.ntmps29
  go_wp2
  go_loopw [5, 6] (fun mv i wr => ∃ (j : Nat) (mo : Int), j ≤ m ∧ i = .int .i64 j ∧ mv = .int .i64 mo ∧ Below w.heap.size w wr ∧ Hid (eyF l (-1) ps = eyF l mo (ps.drop j))) (fun _ i _ => m - (intOf i).toNat)
  case atStart => exact ⟨0, -1, Nat.zero_le _, rfl, rfl, Below.refl _ _, rfl⟩
  case round =>
    obtain ⟨j, mo, hj, rfl, rfl, hbw, hr⟩ := hrel
    by_cases hlt : j < m
    · obtain ⟨p, hpj⟩ := get_of (l := ps) (k := j) (by rw [HM.out]; exact hlt)
      obtain ⟨g, o, rfl, hg, c0, c1⟩ := (hp.below hbw).at2 hpj
      have HPB := Lib.hid (hp.bs p (List.mem_of_getElem? hpj))
      have HPL := Lib.hid HPB.out.ints_len
      have hnb := hB.b p (List.mem_of_getElem? hpj)
      have i1 : (0 : Int) ≤ (j : Int) := by omega
      have i2 : (j : Int) < (m : Int) := by omega
      have HE : Hid (eyF l (-1) ps = if ey1 l mo p.bs then true else eyF l (ey2 l mo p.bs) (ps.drop (j + 1))) := by rw [hr.out, drop_get hpj]; rfl
      clear hr
      go_wp2
      go_loopw [7] (fun i wr => ∃ k : Nat, k ≤ p.nb ∧ i = .int .i64 k ∧ Below w.heap.size w wr ∧ Hid (ey1 l mo p.bs = ey1 l mo (p.bs.drop k))) (fun i _ => p.nb - (intOf i).toNat)
      case atStart => exact ⟨0, Nat.zero_le _, rfl, hbw, rfl⟩
      case round =>
        clear hbw c0 c1
        obtain ⟨k, hk, rfl, hbw, hr⟩ := hrel
        obtain ⟨g', o', hA1, _, c0, c1⟩ := (hp.below hbw).at2 hpj
        injection hA1 with hA1
        injection hA1 with hA1 hA2 _
        subst hA1 hA2
        by_cases hka : k < p.nb
        · obtain ⟨x, hxk⟩ := get_of (l := p.bs) (k := k) (by rw [HPL.out]; exact hka)
          obtain ⟨hx0, hxn⟩ := HR.out x (fl_sub hpj hxk)
          obtain ⟨y, rfl⟩ : ∃ y : Nat, x = (y : Int) := ⟨x.toNat, by omega⟩
          obtain ⟨g3, o3, hA3, _, e0⟩ := (HPB.out.below hbw).int hxk
          rw [hA3] at c0
          have hyn : y < n := by omega
          obtain ⟨b, hb⟩ := get_of (l := l) (k := y) (by rw [HL.out]; exact hyn)
          obtain ⟨gb, ob, hA, _, b0, b1, b2, b3, b4, b5⟩ := (hx.below hbw).at6 hb
          subst hA
          have HQ : Hid (ey1 l mo p.bs = if !b.fl && decide ((y : Int) < mo) then true else ey1 l mo (p.bs.drop (k + 1))) := by rw [hr.out, drop_get hxk, ey1, flB_of hb]; rfl
          clear hr b0 b1 b2 b3 b5
          cases hf : b.fl
          · rw [hf] at b4 HQ
            by_cases hym : (y : Int) < mo
            · have HX : Hid (eyF l (-1) ps = true) := by rw [HE.out, HQ.out, decide_eq_true hym]; rfl
              clear HE HQ hf
              go_wp2
              go_ret
              exact bl_post HX hbw
            · have HN : Hid (ey1 l mo p.bs = ey1 l mo (p.bs.drop (k + 1))) := by rw [HQ.out, decide_eq_false hym]; rfl
              clear HQ hf
              go_wp2
              go_roundw
              case rel => exact ⟨k + 1, by omega, by go_num, hbw, HN⟩
              case measure => simp [intOf]; omega
          · rw [hf] at b4 HQ
            have HN : Hid (ey1 l mo p.bs = ey1 l mo (p.bs.drop (k + 1))) := by rw [HQ.out]; rfl
            clear HQ hf
            go_wp2
            go_roundw
            case rel => exact ⟨k + 1, by omega, by go_num, hbw, HN⟩
            case measure => simp [intOf]; omega
        · have HE2 : Hid (eyF l (-1) ps = eyF l (ey2 l mo p.bs) (ps.drop (j + 1))) := by
            rw [HE.out, hr.out, List.drop_of_length_le (l := p.bs) (by rw [HPL.out]; omega)]; rfl
          clear hr HE
          go_wp2
          go_loopw [5, 9] (fun mv i wr => ∃ (k : Nat) (mo2 : Int), k ≤ p.nb ∧ i = .int .i64 k ∧ mv = .int .i64 mo2 ∧ Below w.heap.size w wr ∧ Hid (ey2 l mo p.bs = ey2 l mo2 (p.bs.drop k))) (fun _ i _ => p.nb - (intOf i).toNat)
          case atStart => exact ⟨0, mo, Nat.zero_le _, rfl, rfl, hbw, rfl⟩
          case round =>
            clear hbw c0 c1
            obtain ⟨k, mo2, hk, rfl, rfl, hbw, hr⟩ := hrel
            obtain ⟨g', o', hA1, _, c0, c1⟩ := (hp.below hbw).at2 hpj
            injection hA1 with hA1
            injection hA1 with hA1 hA2 _
            subst hA1 hA2
            by_cases hka : k < p.nb
            · obtain ⟨x, hxk⟩ := get_of (l := p.bs) (k := k) (by rw [HPL.out]; exact hka)
              obtain ⟨hx0, hxn⟩ := HR.out x (fl_sub hpj hxk)
              obtain ⟨y, rfl⟩ : ∃ y : Nat, x = (y : Int) := ⟨x.toNat, by omega⟩
              obtain ⟨g3, o3, hA3, _, e0⟩ := (HPB.out.below hbw).int hxk
              rw [hA3] at c0
              have hyn : y < n := by omega
              obtain ⟨b, hb⟩ := get_of (l := l) (k := y) (by rw [HL.out]; exact hyn)
              obtain ⟨gb, ob, hA, _, b0, b1, b2, b3, b4, b5⟩ := (hx.below hbw).at6 hb
              subst hA
              have HQ : Hid (ey2 l mo p.bs = ey2 l (if b.fl && decide (mo2 < (y : Int)) then (y : Int) else mo2) (p.bs.drop (k + 1))) := by rw [hr.out, drop_get hxk, ey2, flB_of hb]; rfl
              clear hr b0 b1 b2 b3 b5
              cases hf : b.fl
              · rw [hf] at b4 HQ
                have HN : Hid (ey2 l mo p.bs = ey2 l mo2 (p.bs.drop (k + 1))) := by rw [HQ.out]; rfl
                clear HQ hf
                go_wp2
                go_roundw
                case rel => exact ⟨k + 1, mo2, by omega, by go_num, rfl, hbw, HN⟩
                case measure => simp [intOf]; omega
              · rw [hf] at b4 HQ
                by_cases hym : mo2 < (y : Int)
                · have HN : Hid (ey2 l mo p.bs = ey2 l (y : Int) (p.bs.drop (k + 1))) := by rw [HQ.out, decide_eq_true hym]; rfl
                  clear HQ hf
                  go_wp2
                  go_roundw
                  case rel => exact ⟨k + 1, (y : Int), by omega, by go_num, rfl, hbw, HN⟩
                  case measure => simp [intOf]; omega
                · have HN : Hid (ey2 l mo p.bs = ey2 l mo2 (p.bs.drop (k + 1))) := by rw [HQ.out, decide_eq_false hym]; rfl
                  clear HQ hf
                  go_wp2
                  go_roundw
                  case rel => exact ⟨k + 1, mo2, by omega, by go_num, rfl, hbw, HN⟩
                  case measure => simp [intOf]; omega
            · have HN : Hid (eyF l (-1) ps = eyF l mo2 (ps.drop (j + 1))) := by rw [HE2.out, hr.out, List.drop_of_length_le (l := p.bs) (by rw [HPL.out]; omega)]; rfl
              clear hr
              go_wp2
              go_roundw
              case rel => exact ⟨j + 1, mo2, by omega, by go_num, rfl, hbw, HN⟩
              case measure => simp [intOf]; omega
    · have HX : Hid (eyF l (-1) ps = false) := by rw [hr.out, List.drop_of_length_le (l := ps) (by rw [HM.out]; omega)]; rfl
      go_wp2
      go_ret
      exact bl_post HX hbw
end Go.Proofs.YtpgpkgpiengmkaaDoor
