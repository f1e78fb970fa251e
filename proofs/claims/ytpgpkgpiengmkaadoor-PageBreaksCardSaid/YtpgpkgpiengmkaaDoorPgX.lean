/-
  Layer 40 (page): does a page end with a box that is to be kept? The program's.
-/
import Derived.Test.YtpgpkgpiengmkaaDoorPgV
namespace Go.Proofs.YtpgpkgpiengmkaaDoor
open Go.RowKit
set_option linter.unusedVariables false
set_option linter.unusedSimpArgs false
attribute [local go_sem] B_data B_size

/-- the last box in line -/
def finF : Nat → Int → List Bx → Int
  | _, cur, [] => cur
  | i, cur, b :: r => finF (i + 1) (if b.fl then cur else (i : Int)) r
/-- the last box in line of a page, and whether a box in line may be parted from the next -/
def sepQ (l : List Bx) : Int → Bool → List Int → Int × Bool
  | last, loose, [] => (last, loose)
  | last, loose, x :: r => if flB l x then sepQ l last loose r else sepQ l x (loose || !kpB l x) r
def sepC (l : List Bx) (fin : Int) (r : Int × Bool) : Bool := decide (0 ≤ r.1) && kpB l r.1 && (r.1 != fin) && r.2
def sepF (l : List Bx) (fin : Int) : List Pg → Bool
  | [] => false
  | p :: r => if sepC l fin (sepQ l (-1) false p.bs) then true else sepF l fin r
set_option maxHeartbeats 8000000 in
set_option maxRecDepth 100000 in
theorem separated_any (A E : Option Addr) (n c m d : Nat) (l : List Bx) (ps : List Pg) (w : World) (hx : BxAt w w.heap.size A n l) (hp : PgAt w w.heap.size E m ps) (hn : n ≤ 1000) (hB : PgB ps) (hR : inR n ps) :
    Calls Tryd.prog 34 #[.slice A n c, .slice E m d] w (BlPost (sepF l (finF 0 (-1) l) ps) w) := by
  have HL := Lib.hid hx.len
  have HM := Lib.hid hp.len
  have hm : m ≤ 1000 := by rw [← HM.out]; exact hB.n
  have HR := Lib.hid hR
  clear hR
  go_enter Tryd.func34, Tryd.ntmps34
  go_wp2
  go_loopw [5, 16] (fun fv i wr => ∃ (j : Nat) (fin : Int), j ≤ n ∧ i = .int .i64 j ∧ fv = .int .i64 fin ∧ Below w.heap.size w wr ∧ Hid (finF 0 (-1) l = finF j fin (l.drop j))) (fun _ i _ => n - (intOf i).toNat)
  case atStart => exact ⟨0, -1, Nat.zero_le _, rfl, rfl, Below.refl _ _, rfl⟩
  case round =>
    obtain ⟨j, fin, hj, rfl, rfl, hbw, hr⟩ := hrel
    have hsz := hbw.size
    by_cases hlt : j < n
    · obtain ⟨b, hb⟩ := get_of (l := l) (k := j) (by rw [HL.out]; exact hlt)
      obtain ⟨gb, ob, hA, _, b0, b1, b2, b3, b4, b5⟩ := (hx.below hbw).at6 hb
      subst hA
      have hbA := hbw.alloc hsz (.cells #[.string (B b.tx), .int .i64 b.h, .int .i64 b.g, .bool b.kp, .bool b.fl, .slice b.A b.na b.ca] 45)
      have HE : Hid (finF 0 (-1) l = finF (j + 1) (if b.fl then fin else (j : Int)) (l.drop (j + 1))) := by rw [hr.out, drop_get hb]; rfl
      clear hr
      cases hf : b.fl
      · have HN : Hid (finF 0 (-1) l = finF (j + 1) (j : Int) (l.drop (j + 1))) := by rw [HE.out, hf, if_neg (by decide)]; rfl
        rw [hf] at b4 hbA
        clear HE hf
        go_wp2
        go_roundw
        case rel => exact ⟨j + 1, (j : Int), by omega, by go_num, rfl, hbA, HN⟩
        case measure => simp [intOf]; omega
      · have HN : Hid (finF 0 (-1) l = finF (j + 1) fin (l.drop (j + 1))) := by rw [HE.out, hf, if_pos rfl]; rfl
        rw [hf] at b4 hbA
        clear HE hf
        go_wp2
        go_roundw
        case rel => exact ⟨j + 1, fin, by omega, by go_num, rfl, hbA, HN⟩
        case measure => simp [intOf]; omega
    · have HFN : Hid (finF 0 (-1) l = fin) := by rw [hr.out, List.drop_of_length_le (l := l) (by rw [HL.out]; omega)]; rfl
      clear hr
      go_wp2
      go_loopw [28] (fun i wr => ∃ j : Nat, j ≤ m ∧ i = .int .i64 j ∧ Below w.heap.size w wr ∧ Hid (sepF l fin ps = sepF l fin (ps.drop j))) (fun i _ => m - (intOf i).toNat)
      case atStart => exact ⟨0, Nat.zero_le _, rfl, hbw, rfl⟩
      case round =>
        clear hbw hsz hlt
        obtain ⟨j, hj, rfl, hbw, hr⟩ := hrel
        have hsz := hbw.size
        by_cases hlt : j < m
        · obtain ⟨p, hpj⟩ := get_of (l := ps) (k := j) (by rw [HM.out]; exact hlt)
          obtain ⟨g, o, rfl, hg, c0, c1⟩ := (hp.below hbw).at2 hpj
          have HPB := Lib.hid (hp.bs p (List.mem_of_getElem? hpj))
          have HPL := Lib.hid HPB.out.ints_len
          have hnb := hB.b p (List.mem_of_getElem? hpj)
          have hbA := hbw.alloc hsz (.cells #[.slice p.A p.nb p.cb, .int .i64 p.ht] 42)
          have HE : Hid (sepF l fin ps = if sepC l fin (sepQ l (-1) false p.bs) then true else sepF l fin (ps.drop (j + 1))) := by rw [hr.out, drop_get hpj]; rfl
          clear hr
          go_wp2
          go_loopw [10, 11, 35] (fun lv ov i wr => ∃ (k : Nat) (last : Int) (loose : Bool), k ≤ p.nb ∧ i = .int .i64 k ∧ lv = .int .i64 last ∧ ov = .bool loose ∧ (last = -1 ∨ (0 ≤ last ∧ last < (n : Int))) ∧ Below w.heap.size w wr ∧ Hid (sepQ l (-1) false p.bs = sepQ l last loose (p.bs.drop k))) (fun _ _ i _ => p.nb - (intOf i).toNat)
          case atStart => exact ⟨0, -1, false, Nat.zero_le _, rfl, rfl, rfl, .inl rfl, hbA, rfl⟩
          case round =>
            clear hbA hbw c0 c1 hsz
            obtain ⟨k, last, loose, hk, rfl, rfl, rfl, hla, hbw, hr⟩ := hrel
            have hsz := hbw.size
            by_cases hka : k < p.nb
            · obtain ⟨x, hxk⟩ := get_of (l := p.bs) (k := k) (by rw [HPL.out]; exact hka)
              obtain ⟨hx0, hxn⟩ := HR.out x (fl_sub hpj hxk)
              obtain ⟨y, rfl⟩ : ∃ y : Nat, x = (y : Int) := ⟨x.toNat, by omega⟩
              obtain ⟨g3, o3, hA3, _, e0⟩ := (HPB.out.below hbw).int hxk
              rw [hA3]
              have hyn : y < n := by omega
              obtain ⟨b, hb⟩ := get_of (l := l) (k := y) (by rw [HL.out]; exact hyn)
              obtain ⟨gb, ob, hA, _, b0, b1, b2, b3, b4, b5⟩ := (hx.below hbw).at6 hb
              subst hA
              have HQ : Hid (sepQ l (-1) false p.bs = if b.fl then sepQ l last loose (p.bs.drop (k + 1)) else sepQ l (y : Int) (loose || !b.kp) (p.bs.drop (k + 1))) := by
                rw [hr.out, drop_get hxk, sepQ, flB_of hb, kpB_of hb]; rfl
              clear hr b0 b1 b2 b5
              cases hf : b.fl
              · have HN : Hid (sepQ l (-1) false p.bs = sepQ l (y : Int) (loose || !b.kp) (p.bs.drop (k + 1))) := by rw [HQ.out, hf, if_neg (by decide)]; rfl
                rw [hf] at b4
                clear HQ hf
                cases loose
                · cases hkp : b.kp
                  · rw [hkp] at b3 HN
                    clear hkp
                    go_wp2
                    go_roundw
                    case rel => exact ⟨k + 1, (y : Int), true, by omega, by go_num, rfl, rfl, .inr ⟨hx0, hxn⟩, hbw, HN⟩
                    case measure => simp [intOf]; omega
                  · rw [hkp] at b3 HN
                    clear hkp
                    go_wp2
                    go_roundw
                    case rel => exact ⟨k + 1, (y : Int), false, by omega, by go_num, rfl, rfl, .inr ⟨hx0, hxn⟩, hbw, HN⟩
                    case measure => simp [intOf]; omega
                · go_wp2
                  go_roundw
                  case rel => exact ⟨k + 1, (y : Int), true, by omega, by go_num, rfl, rfl, .inr ⟨hx0, hxn⟩, hbw, HN⟩
                  case measure => simp [intOf]; omega
              · have HN : Hid (sepQ l (-1) false p.bs = sepQ l last loose (p.bs.drop (k + 1))) := by rw [HQ.out, hf, if_pos rfl]; rfl
                rw [hf] at b4
                clear HQ hf
                go_wp2
                go_roundw
                case rel => exact ⟨k + 1, last, loose, by omega, by go_num, rfl, rfl, hla, hbw, HN⟩
                case measure => simp [intOf]; omega
            · have HQ : Hid (sepQ l (-1) false p.bs = (last, loose)) := by rw [hr.out, List.drop_of_length_le (l := p.bs) (by rw [HPL.out]; omega)]; rfl
              have HE2 : Hid (sepF l fin ps = if sepC l fin (last, loose) then true else sepF l fin (ps.drop (j + 1))) := by rw [HE.out, HQ.out]; rfl
              clear hr HE HQ
              rcases hla with rfl | ⟨hl0, hln⟩
              · have HN : Hid (sepF l fin ps = sepF l fin (ps.drop (j + 1))) := by rw [HE2.out]; rfl
                clear HE2
                go_wp2
                go_roundw
                case rel => exact ⟨j + 1, by omega, by go_num, hbw, HN⟩
                case measure => simp [intOf]; omega
              · obtain ⟨y, rfl⟩ : ∃ y : Nat, last = (y : Int) := ⟨last.toNat, by omega⟩
                have hyn : y < n := by omega
                obtain ⟨b, hb⟩ := get_of (l := l) (k := y) (by rw [HL.out]; exact hyn)
                obtain ⟨gb, ob, hA, _, b0, b1, b2, b3, b4, b5⟩ := (hx.below hbw).at6 hb
                subst hA
                have HC : Hid (sepC l fin ((y : Int), loose) = (b.kp && ((y : Int) != fin) && loose)) := by
                  show _ = _
                  unfold sepC
                  rw [kpB_of hb, decide_eq_true hl0]; rfl
                clear b0 b1 b2 b4 b5
                cases hkp : b.kp
                · rw [hkp] at b3 HC
                  have HN : Hid (sepF l fin ps = sepF l fin (ps.drop (j + 1))) := by rw [HE2.out, HC.out]; rfl
                  clear HE2 HC hkp
                  go_wp2
                  go_roundw
                  case rel => exact ⟨j + 1, by omega, by go_num, hbw, HN⟩
                  case measure => simp [intOf]; omega
                · rw [hkp] at b3 HC
                  clear hkp
                  by_cases hfe : (y : Int) = fin
                  · have q0 : ((y : Int) != fin) = false := by simpa using hfe
                    have q1 : ((y : Int) == fin) = true := by simpa using hfe
                    have HN : Hid (sepF l fin ps = sepF l fin (ps.drop (j + 1))) := by rw [HE2.out, HC.out, q0]; rfl
                    clear HE2 HC hfe
                    go_wp2
                    go_roundw
                    case rel => exact ⟨j + 1, by omega, by go_num, hbw, HN⟩
                    case measure => simp [intOf]; omega
                  · have q0 : ((y : Int) != fin) = true := by simpa using hfe
                    have q1 : ((y : Int) == fin) = false := by simpa using hfe
                    cases loose
                    · have HN : Hid (sepF l fin ps = sepF l fin (ps.drop (j + 1))) := by rw [HE2.out, HC.out, q0]; rfl
                      clear HE2 HC hfe
                      go_wp2
                      go_roundw
                      case rel => exact ⟨j + 1, by omega, by go_num, hbw, HN⟩
                      case measure => simp [intOf]; omega
                    · have HX : Hid (sepF l (finF 0 (-1) l) ps = true) := by rw [HFN.out, HE2.out, HC.out, q0]; rfl
                      clear HE2 HC hfe
                      go_wp2
                      go_ret
                      exact bl_post HX hbw
        · have HX : Hid (sepF l (finF 0 (-1) l) ps = false) := by rw [HFN.out, hr.out, List.drop_of_length_le (l := ps) (by rw [HM.out]; omega)]; rfl
          go_wp2
          go_ret
          exact bl_post HX hbw
end Go.Proofs.YtpgpkgpiengmkaaDoor
