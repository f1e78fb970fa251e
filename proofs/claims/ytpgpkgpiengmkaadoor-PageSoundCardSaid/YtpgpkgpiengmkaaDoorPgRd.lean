/-
  Layer 40 (page), the chapter's: Check.
-/
import Derived.Test.YtpgpkgpiengmkaaDoorPgRc
namespace Go.Proofs.YtpgpkgpiengmkaaDoor
open Go.RowKit
set_option linter.unusedVariables false
set_option linter.unusedSimpArgs false
attribute [local go_sem] B_data B_size

def torF (l : List Bx) (fin : Int) : List Pg → Bool
  | [] => false
  | p :: r => if torC l fin (torQ l (-1) false p.bs) then true else torF l fin r
def rck8 (l : List Bx) (ps : List Pg) : List UInt8 := if torF l (finF 0 (-1) l) ps then sKeep else []
def rck7 (l : List Bx) (ps : List Pg) : List UInt8 := if (!ascB l true (-1) (fl ps)) || eyF l (-1) ps then sFloat else rck8 l ps
def rck6 (l : List Bx) (ps : List Pg) : List UInt8 := if !ascB l false (-1) (fl ps) then sOrder else rck7 l ps
def rck4 (l : List Bx) (H : Int) (ps : List Pg) : List UInt8 := if hts2 l H ps = [] then rck6 l ps else hts2 l H ps
/-- the first rule that pages violate, in the chapter's order -/
def rckS (n : Nat) (l : List Bx) (H : Int) (ps : List Pg) : List UInt8 := if cmpS n ps = [] then rck4 l H ps else cmpS n ps
set_option maxHeartbeats 8000000 in
set_option maxRecDepth 100000 in
theorem rcheck_any (A E : Option Addr) (n c m d : Nat) (l : List Bx) (ps : List Pg) (H : Int) (w : World) (hx : BxAt w w.heap.size A n l) (hp : PgAt w w.heap.size E m ps) (hn : n ≤ 1000) (hB : PgB ps) :
    Calls Tryd.prog 14 #[.slice A n c, .slice E m d, .int .i64 H] w (SPost (rckS n l H ps) w) := by
  have HL := Lib.hid hx.len
  have HM := Lib.hid hp.len
  have hm : m ≤ 1000 := by rw [← HM.out]; exact hB.n
  go_enter Tryd.func14, Tryd.ntmps14
  go_wp2_with fail
  refine (rindices_any A E n c m d l ps w hx hp hn hB).mono ?_
  rintro e w1 ⟨rfl, hb1⟩
  by_cases hc : cmpS n ps = []
  rotate_left
  · have HX : Hid (rckS n l H ps = cmpS n ps) := by show _ = _; unfold rckS; rw [if_neg hc]
    generalize cmpS n ps = cs at *
    have z1 : (cs == []) = false := by simpa using hc
    clear hc
    go_wp2
    go_ret
    exact s_post HX hb1
  have HR := Lib.hid (cmp_in hc)
  have HX4 : Hid (rckS n l H ps = rck4 l H ps) := by show _ = _; unfold rckS; rw [if_pos hc]
  rw [hc]
  clear hc
  have hx1 := hx.step hb1
  have hp1 := hp.step hb1
  have hsz1 := hb1.size
  go_wp2_with fail
  refine (rheights_any A E n c m d l ps H w1 hx1 hp1 hn hB HR.out).mono ?_
  rintro e w2 ⟨rfl, hb2⟩
  replace hb1 := hb1.trans (hb2.mono hsz1)
  have hx2 := hx1.step hb2
  have hp2 := hp1.step hb2
  have hsz2 := hb1.size
  clear hb2 hx1 hp1
  by_cases hc : hts2 l H ps = []
  rotate_left
  · have HX : Hid (rckS n l H ps = hts2 l H ps) := by rw [HX4.out]; unfold rck4; rw [if_neg hc]; rfl
    generalize hts2 l H ps = cs at *
    have z1 : (cs == []) = false := by simpa using hc
    clear hc
    go_wp2
    go_ret
    exact s_post HX hb1
  have HX6 : Hid (rckS n l H ps = rck6 l ps) := by rw [HX4.out]; unfold rck4; rw [if_pos hc]; rfl
  rw [hc]
  clear hc HX4
  go_wp2_with fail
  refine (rrising_any A E n c m d l ps false w2 hx2 hp2 hn hB HR.out).mono ?_
  rintro e w3 ⟨rfl, hb3⟩
  replace hb1 := hb1.trans (hb3.mono hsz2)
  have hx3 := hx2.step hb3
  have hp3 := hp2.step hb3
  have hsz3 := hb1.size
  clear hb3 hx2 hp2
  cases ha : ascB l false (-1) (fl ps)
  · have HX : Hid (rckS n l H ps = sOrder) := by rw [HX6.out]; unfold rck6; rw [ha]; rfl
    clear HX6 ha
    go_wp2
    go_ret
    exact s_post HX hb1
  have HX7 : Hid (rckS n l H ps = rck7 l ps) := by rw [HX6.out]; unfold rck6; rw [ha]; rfl
  clear HX6 ha
  go_wp2_with fail
  refine (rrising_any A E n c m d l ps true w3 hx3 hp3 hn hB HR.out).mono ?_
  rintro e w4 ⟨rfl, hb4⟩
  replace hb1 := hb1.trans (hb4.mono hsz3)
  have hx4 := hx3.step hb4
  have hp4 := hp3.step hb4
  have hsz4 := hb1.size
  clear hb4 hx3 hp3
  cases ha : ascB l true (-1) (fl ps)
  · have HX : Hid (rckS n l H ps = sFloat) := by rw [HX7.out]; unfold rck7; rw [ha]; rfl
    clear HX7 ha
    go_wp2
    go_ret
    exact s_post HX hb1
  have HX7b : Hid (rckS n l H ps = if eyF l (-1) ps then sFloat else rck8 l ps) := by rw [HX7.out]; unfold rck7; rw [ha]; rfl
  clear HX7 ha
  go_wp2_with fail
  refine (rearly_any A E n c m d l ps w4 hx4 hp4 hn hB HR.out).mono ?_
  rintro e w5 ⟨rfl, hb5⟩
  replace hb1 := hb1.trans (hb5.mono hsz4)
  have hx5 := hx4.step hb5
  have hp5 := hp4.step hb5
  have hsz5 := hb1.size
  clear hb5 hx4 hp4
  cases ha : eyF l (-1) ps
  rotate_left
  · have HX : Hid (rckS n l H ps = sFloat) := by rw [HX7b.out, ha]; rfl
    clear HX7b ha
    go_wp2
    go_ret
    exact s_post HX hb1
  have HX8 : Hid (rckS n l H ps = if torF l (finF 0 (-1) l) ps then sKeep else []) := by rw [HX7b.out, ha]; rfl
  clear HX7b ha
  go_wp2
  go_loopw [8, 9] (fun fv i wr => ∃ (j : Nat) (fin : Int), j ≤ n ∧ i = .int .i64 j ∧ fv = .int .i64 fin ∧ Below w.heap.size w wr ∧ Hid (finF 0 (-1) l = finF j fin (l.drop j))) (fun _ i _ => n - (intOf i).toNat)
  case atStart => exact ⟨0, -1, Nat.zero_le _, rfl, rfl, hb1, rfl⟩
  case round =>
    clear hb1 hx5 hp5 hsz5
    obtain ⟨j, fin, hj, rfl, rfl, hbw, hr⟩ := hrel
    by_cases hlt : j < n
    · obtain ⟨b, hb⟩ := get_of (l := l) (k := j) (by rw [HL.out]; exact hlt)
      obtain ⟨gb, ob, hA, _, b0, b1, b2, b3, b4, b5⟩ := (hx.below hbw).at6 hb
      subst hA
      have HE : Hid (finF 0 (-1) l = finF (j + 1) (if b.fl then fin else (j : Int)) (l.drop (j + 1))) := by rw [hr.out, drop_get hb]; rfl
      clear hr b0 b1 b2 b3 b5
      have i1 : (0 : Int) ≤ (j : Int) := by omega
      have i2 : (j : Int) < (n : Int) := by omega
      cases hf : b.fl
      · have HN : Hid (finF 0 (-1) l = finF (j + 1) (j : Int) (l.drop (j + 1))) := by rw [HE.out, hf, if_neg (by decide)]; rfl
        rw [hf] at b4
        clear HE hf
        go_wp2
        go_roundw
        case rel => exact ⟨j + 1, (j : Int), by omega, by go_num, rfl, hbw, HN⟩
        case measure => simp [intOf]; omega
      · have HN : Hid (finF 0 (-1) l = finF (j + 1) fin (l.drop (j + 1))) := by rw [HE.out, hf, if_pos rfl]; rfl
        rw [hf] at b4
        clear HE hf
        go_wp2
        go_roundw
        case rel => exact ⟨j + 1, fin, by omega, by go_num, rfl, hbw, HN⟩
        case measure => simp [intOf]; omega
    · have HFN : Hid (finF 0 (-1) l = fin) := by rw [hr.out, List.drop_of_length_le (l := l) (by rw [HL.out]; omega)]; rfl
      have HX9 : Hid (rckS n l H ps = if torF l fin ps then sKeep else []) := by rw [HX8.out, HFN.out]; rfl
      clear HX8 HFN hr
      go_wp2
      go_loopw [10] (fun i wr => ∃ j : Nat, j ≤ m ∧ i = .int .i64 j ∧ Below w.heap.size w wr ∧ Hid (torF l fin ps = torF l fin (ps.drop j))) (fun i _ => m - (intOf i).toNat)
      case atStart => exact ⟨0, Nat.zero_le _, rfl, hbw, rfl⟩
      case round =>
        clear hbw hlt
        obtain ⟨j, hj, rfl, hbw, hr⟩ := hrel
        have hsz := hbw.size
        by_cases hlt : j < m
        · obtain ⟨p, hpj⟩ := get_of (l := ps) (k := j) (by rw [HM.out]; exact hlt)
          obtain ⟨g, o, rfl, hg, c0, c1⟩ := (hp.below hbw).at2 hpj
          have HPB := (hp.bs p (List.mem_of_getElem? hpj)).below hbw
          have hnb := hB.b p (List.mem_of_getElem? hpj)
          have i1 : (0 : Int) ≤ (j : Int) := by omega
          have i2 : (j : Int) < (m : Int) := by omega
          have HE : Hid (torF l fin ps = if torC l fin (torQ l (-1) false p.bs) then true else torF l fin (ps.drop (j + 1))) := by rw [hr.out, drop_get hpj]; rfl
          have HRP : Hid (∀ x ∈ p.bs, 0 ≤ x ∧ x < (n : Int)) := fun x hx => by
            obtain ⟨k, hk⟩ := List.getElem?_of_mem hx
            exact HR.out x (fl_sub hpj hk)
          clear hr
          go_wp2_with fail
          refine (rtorn_any A p.A n c p.nb p.cb l p.bs p.ht fin wr ((hx.below hbw).more hsz) (HPB.more hsz) hn hnb HRP.out).mono ?_
          rintro e w6 ⟨rfl, hb6⟩
          replace hbw := hbw.trans (hb6.mono hsz)
          clear hb6 HPB
          cases ht : torC l fin (torQ l (-1) false p.bs)
          · have HN : Hid (torF l fin ps = torF l fin (ps.drop (j + 1))) := by rw [HE.out, ht]; rfl
            clear HE ht
            go_wp2
            go_roundw
            case rel => exact ⟨j + 1, by omega, by go_num, hbw, HN⟩
            case measure => simp [intOf]; omega
          · have HX : Hid (rckS n l H ps = sKeep) := by rw [HX9.out, HE.out, ht]; rfl
            clear HE ht
            go_wp2
            go_ret
            exact s_post HX hbw
        · have HX : Hid (rckS n l H ps = []) := by rw [HX9.out, hr.out, List.drop_of_length_le (l := ps) (by rw [HM.out]; omega)]; rfl
          go_wp2
          go_ret
          exact s_post HX hbw
end Go.Proofs.YtpgpkgpiengmkaaDoor
