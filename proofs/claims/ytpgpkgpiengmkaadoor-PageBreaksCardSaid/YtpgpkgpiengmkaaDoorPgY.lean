/-
  Layer 40 (page): the first rule that pages violate: the program's Check.
-/
import Derived.Test.YtpgpkgpiengmkaaDoorPgX
namespace Go.Proofs.YtpgpkgpiengmkaaDoor
open Go.RowKit
set_option linter.unusedVariables false
set_option linter.unusedSimpArgs false
attribute [local go_sem] B_data B_size

def sEmpty : List UInt8 := [101, 109, 112, 116, 121]
def sHeight : List UInt8 := [104, 101, 105, 103, 104, 116]
def sOrder : List UInt8 := [111, 114, 100, 101, 114]
def sFloat : List UInt8 := [102, 108, 111, 97, 116]
def sKeep : List UInt8 := [107, 101, 101, 112]
/-- the height of boxes, as the machine adds -/
def sumW (l : List Bx) : Int → List Int → Int
  | s, [] => s
  | s, x :: r => sumW l (wrap64 (s + htB l x)) r
def htsF (l : List Bx) (H : Int) : List Pg → Bool
  | [] => false
  | p :: r => if sumW l 0 p.bs ≠ p.ht ∨ H < p.ht then true else htsF l H r
def chk8 (l : List Bx) (ps : List Pg) : List UInt8 := if sepF l (finF 0 (-1) l) ps then sKeep else []
def chk7 (l : List Bx) (ps : List Pg) : List UInt8 := if (!ascB l true (-1) (fl ps)) || aheadF (onAll ps 0 (fun _ => 0)) 0 0 l then sFloat else chk8 l ps
def chk6 (l : List Bx) (ps : List Pg) : List UInt8 := if !ascB l false (-1) (fl ps) then sOrder else chk7 l ps
def chk5 (l : List Bx) (H : Int) (ps : List Pg) : List UInt8 := if htsF l H ps then sHeight else chk6 l ps
def chk4 (l : List Bx) (H : Int) (ps : List Pg) : List UInt8 := if ps.any (fun p => p.bs.isEmpty) then sEmpty else chk5 l H ps
/-- the first rule that pages violate -/
def chkS (n : Nat) (l : List Bx) (H : Int) (ps : List Pg) : List UInt8 := if cmpS n ps = [] then chk4 l H ps else cmpS n ps
theorem cmp_in {n : Nat} {ps : List Pg} (h : cmpS n ps = []) : inR n ps := by
  unfold cmpS at h
  split at h
  · assumption
  · cases h
set_option maxHeartbeats 8000000 in
set_option maxRecDepth 100000 in
theorem pcheck_any (A E : Option Addr) (n c m d : Nat) (l : List Bx) (ps : List Pg) (H : Int) (w : World) (hx : BxAt w w.heap.size A n l) (hp : PgAt w w.heap.size E m ps) (hn : n ≤ 1000) (hB : PgB ps) :
    Calls Tryd.prog 15 #[.slice A n c, .slice E m d, .int .i64 H] w (SPost (chkS n l H ps) w) := by
  have HL := Lib.hid hx.len
  have HM := Lib.hid hp.len
  have hm : m ≤ 1000 := by rw [← HM.out]; exact hB.n
  go_enter Tryd.func15, Tryd.ntmps15
  go_wp2_with fail
  refine (complete_any A E n c m d l ps w hx hp hn hB).mono ?_
  rintro e w1 ⟨rfl, hb1⟩
  by_cases hc : cmpS n ps = []
  rotate_left
  · have HX : Hid (chkS n l H ps = cmpS n ps) := by show _ = _; unfold chkS; rw [if_neg hc]
    generalize cmpS n ps = cs at *
    have z1 : (cs == []) = false := by simpa using hc
    clear hc
    go_wp2
    go_ret
    exact s_post HX hb1
  have HR := Lib.hid (cmp_in hc)
  have HX4 : Hid (chkS n l H ps = chk4 l H ps) := by show _ = _; unfold chkS; rw [if_pos hc]
  rw [hc]
  clear hc
  go_wp2
  go_loopw [23] (fun i wr => ∃ j : Nat, j ≤ m ∧ i = .int .i64 j ∧ Below w.heap.size w wr ∧ Hid (∀ p ∈ ps.take j, p.bs.isEmpty = false)) (fun i _ => m - (intOf i).toNat)
  case atStart => exact ⟨0, Nat.zero_le _, rfl, hb1, fun p hp => by simp at hp⟩
  case round =>
    obtain ⟨j, hj, rfl, hbw, hr⟩ := hrel
    have hsz := hbw.size
    by_cases hlt : j < m
    · obtain ⟨p, hpj⟩ := get_of (l := ps) (k := j) (by rw [HM.out]; exact hlt)
      obtain ⟨g, o, rfl, hg, c0, c1⟩ := (hp.below hbw).at2 hpj
      have HPL := Lib.hid (hp.bs p (List.mem_of_getElem? hpj)).ints_len
      have hbA := hbw.alloc hsz (.cells #[.slice p.A p.nb p.cb, .int .i64 p.ht] 42)
      by_cases h0 : p.nb = 0
      · have HX : Hid (chkS n l H ps = sEmpty) := by
          rw [HX4.out]; unfold chk4
          rw [if_pos (List.any_eq_true.2 ⟨p, List.mem_of_getElem? hpj, by
            have : p.bs = [] := List.eq_nil_of_length_eq_zero (by rw [HPL.out]; exact h0)
            rw [this]; rfl⟩)]; rfl
        have q0 : ((p.nb : Int) == 0) = true := by simpa using h0
        clear HX4 hr h0
        go_wp2
        go_ret
        exact s_post HX hbA
      · have HT : Hid (∀ q ∈ ps.take (j + 1), q.bs.isEmpty = false) := all_take (P := fun q : Pg => q.bs.isEmpty = false) hr.out (by
          have h : p.bs ≠ [] := fun e => h0 (by rw [← HPL.out, e]; rfl)
          simpa using h) hpj
        have q0 : ((p.nb : Int) == 0) = false := by simpa using h0
        clear hr h0
        go_wp2
        go_roundw
        case rel => exact ⟨j + 1, by omega, by go_num, hbA, HT⟩
        case measure => simp [intOf]; omega
    · have HX5 : Hid (chkS n l H ps = chk5 l H ps) := by
        have h := hr.out
        rw [List.take_of_length_le (by rw [HM.out]; omega)] at h
        rw [HX4.out]; unfold chk4
        rw [if_neg (by
          intro e
          obtain ⟨p, hp, hpe⟩ := List.any_eq_true.1 e
          rw [h p hp] at hpe; cases hpe)]; rfl
      clear hr HX4 hb1
      go_wp2
      go_loopw [34] (fun i wr => ∃ j : Nat, j ≤ m ∧ i = .int .i64 j ∧ Below w.heap.size w wr ∧ Hid (htsF l H ps = htsF l H (ps.drop j))) (fun i _ => m - (intOf i).toNat)
      case atStart => exact ⟨0, Nat.zero_le _, rfl, hbw, rfl⟩
      case round =>
        clear hbw hsz hlt
        obtain ⟨j, hj, rfl, hbw, hr⟩ := hrel
        have hsz := hbw.size
        by_cases hlt : j < m
        · obtain ⟨p, hpj⟩ := get_of (l := ps) (k := j) (by rw [HM.out]; exact hlt)
          obtain ⟨g, o, rfl, hg, c0, c1⟩ := (hp.below hbw).at2 hpj
          have HPB := Lib.hid (hp.bs p (List.mem_of_getElem? hpj))
          have HPL := Lib.hid HPB.out.ints_len
          have hnb := hB.b p (List.mem_of_getElem? hpj)
          have hbA := hbw.alloc hsz (.cells #[.slice p.A p.nb p.cb, .int .i64 p.ht] 42)
          have HE : Hid (htsF l H ps = if sumW l 0 p.bs ≠ p.ht ∨ H < p.ht then true else htsF l H (ps.drop (j + 1))) := by rw [hr.out, drop_get hpj]; rfl
          have t1 : (wr.alloc (.cells #[.slice p.A p.nb p.cb, .int .i64 p.ht] 42)).cell? ⟨wr.heap.size, 1, none⟩ = some (.int .i64 p.ht) := cell_of_row _ _ 1 _ _ _ (heap_alloc_new wr _)
          have t0 : (wr.alloc (.cells #[.slice p.A p.nb p.cb, .int .i64 p.ht] 42)).cell? ⟨wr.heap.size, 0, none⟩ = some (.slice p.A p.nb p.cb) := cell_of_row _ _ 0 _ _ _ (heap_alloc_new wr _)
          have hqs : wr.heap.size < (wr.alloc (.cells #[.slice p.A p.nb p.cb, .int .i64 p.ht] 42)).heap.size := by simp
          generalize hQ : wr.heap.size = Q at *
          clear hr hbw
          go_wp2
          go_loopw [12, 41] (fun sv i wr => ∃ (k : Nat) (s : Int), k ≤ p.nb ∧ i = .int .i64 k ∧ sv = .int .i64 s ∧ Below w.heap.size w wr ∧ wr.cell? ⟨Q, 1, none⟩ = some (.int .i64 p.ht) ∧ Hid (sumW l 0 p.bs = sumW l s (p.bs.drop k))) (fun _ i _ => p.nb - (intOf i).toNat)
          case atStart => exact ⟨0, 0, Nat.zero_le _, rfl, rfl, hbA, t1, rfl⟩
          case round =>
            clear hbA t1 t0 c0 c1 hqs
            obtain ⟨k, s, hk, rfl, rfl, hbw, t1, hr⟩ := hrel
            by_cases hka : k < p.nb
            · obtain ⟨x, hxk⟩ := get_of (l := p.bs) (k := k) (by rw [HPL.out]; exact hka)
              obtain ⟨hx0, hxn⟩ := HR.out x (fl_sub hpj hxk)
              obtain ⟨y, rfl⟩ : ∃ y : Nat, x = (y : Int) := ⟨x.toNat, by omega⟩
              obtain ⟨g3, o3, hA3, _, e0⟩ := (HPB.out.below hbw).int hxk
              rw [hA3]
              have hyn : y < n := by omega
              obtain ⟨b, hb⟩ := get_of (l := l) (k := y) (by rw [HL.out]; exact hyn)
              obtain ⟨gb, ob, hA, _, b0, b1, b2, b3, b4, b5⟩ := (hx.below hbw).at6 hb
              subst hA
              have HN : Hid (sumW l 0 p.bs = sumW l (wrap64 (s + b.h)) (p.bs.drop (k + 1))) := by rw [hr.out, drop_get hxk, sumW, htB_of hb]; rfl
              clear hr b0 b2 b3 b4 b5
              go_wp2
              go_roundw
              case rel => exact ⟨k + 1, wrap64 (s + b.h), by omega, by go_num, rfl, hbw, t1, HN⟩
              case measure => simp [intOf]; omega
            · have HS : Hid (sumW l 0 p.bs = s) := by rw [hr.out, List.drop_of_length_le (l := p.bs) (by rw [HPL.out]; omega)]; rfl
              have HE2 : Hid (htsF l H ps = if s ≠ p.ht ∨ H < p.ht then true else htsF l H (ps.drop (j + 1))) := by rw [HE.out, HS.out]; rfl
              clear hr HE HS
              by_cases hs : s = p.ht
              · subst hs
                by_cases hh : H < p.ht
                · have HX : Hid (chkS n l H ps = sHeight) := by
                    have e : htsF l H ps = true := by rw [HE2.out, if_pos (.inr hh)]
                    rw [HX5.out]; unfold chk5; rw [e]; rfl
                  have q0 : (p.ht != p.ht) = false := by simp
                  clear HE2 HX5
                  go_wp2
                  go_ret
                  exact s_post HX hbw
                · have HN : Hid (htsF l H ps = htsF l H (ps.drop (j + 1))) := by rw [HE2.out, if_neg (by simp; omega)]; rfl
                  have q0 : (p.ht != p.ht) = false := by simp
                  clear HE2
                  go_wp2
                  go_roundw
                  case rel => exact ⟨j + 1, by omega, by go_num, hbw, HN⟩
                  case measure => simp [intOf]; omega
              · have HX : Hid (chkS n l H ps = sHeight) := by
                  have e : htsF l H ps = true := by rw [HE2.out, if_pos (.inl hs)]
                  rw [HX5.out]; unfold chk5; rw [e]; rfl
                have q0 : (s != p.ht) = true := by simpa using hs
                have q1 : (s == p.ht) = false := by simpa using hs
                clear HE2 HX5 hs
                go_wp2
                go_ret
                exact s_post HX hbw
        · have HX6 : Hid (chkS n l H ps = chk6 l ps) := by
            rw [HX5.out]; unfold chk5
            rw [hr.out, List.drop_of_length_le (l := ps) (by rw [HM.out]; omega)]; rfl
          have hx2 := hx.step hbw
          have hp2 := hp.step hbw
          clear hr HX5
          go_wp2_with fail
          refine (ascending_any A E n c m d l ps false _ hx2 hp2 hn hB HR.out).mono ?_
          rintro e w2 ⟨rfl, hb2⟩
          replace hbw := hbw.trans (hb2.mono hsz)
          have hx3 := hx2.step hb2
          have hp3 := hp2.step hb2
          have hsz2 := hbw.size
          cases ha : ascB l false (-1) (fl ps)
          · have HX : Hid (chkS n l H ps = sOrder) := by rw [HX6.out]; unfold chk6; rw [ha]; rfl
            clear HX6 ha
            go_wp2
            go_ret
            exact s_post HX hbw
          have HX7 : Hid (chkS n l H ps = chk7 l ps) := by rw [HX6.out]; unfold chk6; rw [ha]; rfl
          clear HX6 ha hb2 hx2 hp2
          go_wp2_with fail
          refine (ascending_any A E n c m d l ps true _ hx3 hp3 hn hB HR.out).mono ?_
          rintro e w3 ⟨rfl, hb3⟩
          replace hbw := hbw.trans (hb3.mono hsz2)
          have hx4 := hx3.step hb3
          have hp4 := hp3.step hb3
          have hsz3 := hbw.size
          clear hb3 hx3 hp3
          cases ha : ascB l true (-1) (fl ps)
          · have HX : Hid (chkS n l H ps = sFloat) := by rw [HX7.out]; unfold chk7; rw [ha]; rfl
            clear HX7 ha
            go_wp2
            go_ret
            exact s_post HX hbw
          have HX7b : Hid (chkS n l H ps = if aheadF (onAll ps 0 (fun _ => 0)) 0 0 l then sFloat else chk8 l ps) := by rw [HX7.out]; unfold chk7; rw [ha]; rfl
          clear HX7 ha
          go_wp2_with fail
          refine (ahead_any A E n c m d l ps _ hx4 hp4 hn hB HR.out).mono ?_
          rintro e w4 ⟨rfl, hb4⟩
          replace hbw := hbw.trans (hb4.mono hsz3)
          have hx5 := hx4.step hb4
          have hp5 := hp4.step hb4
          have hsz4 := hbw.size
          clear hb4 hx4 hp4
          cases ha : aheadF (onAll ps 0 (fun _ => 0)) 0 0 l
          rotate_left
          · have HX : Hid (chkS n l H ps = sFloat) := by rw [HX7b.out, ha]; rfl
            clear HX7b ha
            go_wp2
            go_ret
            exact s_post HX hbw
          have HX8 : Hid (chkS n l H ps = chk8 l ps) := by rw [HX7b.out, ha]; rfl
          clear HX7b ha
          go_wp2_with fail
          refine (separated_any A E n c m d l ps _ hx5 hp5 hn hB HR.out).mono ?_
          rintro e w5 ⟨rfl, hb5⟩
          replace hbw := hbw.trans (hb5.mono hsz4)
          clear hb5 hx5 hp5
          cases ha : sepF l (finF 0 (-1) l) ps
          · have HX : Hid (chkS n l H ps = []) := by rw [HX8.out]; unfold chk8; rw [ha]; rfl
            clear HX8 ha
            go_wp2
            go_ret
            exact s_post HX hbw
          · have HX : Hid (chkS n l H ps = sKeep) := by rw [HX8.out]; unfold chk8; rw [ha]; rfl
            clear HX8 ha
            go_wp2
            go_ret
            exact s_post HX hbw
end Go.Proofs.YtpgpkgpiengmkaaDoor
