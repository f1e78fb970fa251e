/-
  Layer 40 (page), the chapter's: heights, rising, torn.
-/
import Derived.Test.YtpgpkgpiengmkaaDoorPgY
namespace Go.Proofs.YtpgpkgpiengmkaaDoor
open Go.RowKit
set_option linter.unusedVariables false
set_option linter.unusedSimpArgs false
attribute [local go_sem] B_data B_size

set_option maxHeartbeats 8000000 in
set_option maxRecDepth 100000 in
theorem rrising_any (A E : Option Addr) (n c m d : Nat) (l : List Bx) (ps : List Pg) (f : Bool) (w : World) (hx : BxAt w w.heap.size A n l) (hp : PgAt w w.heap.size E m ps) (hn : n ≤ 1000) (hB : PgB ps) (hR : inR n ps) :
    Calls Tryd.prog 28 #[.slice A n c, .slice E m d, .bool f] w (BlPost (ascB l f (-1) (fl ps)) w) := by
  have HL := Lib.hid hx.len
  have HM := Lib.hid hp.len
  have hm : m ≤ 1000 := by rw [← HM.out]; exact hB.n
  have HR := Lib.hid hR
  clear hR
  go_enter Tryd.func28, Tryd.ntmps28
  go_wp2
  go_loopw [7, 8] (fun lv i wr => ∃ (j : Nat) (last : Int), j ≤ m ∧ i = .int .i64 j ∧ lv = .int .i64 last ∧ Below w.heap.size w wr ∧ Hid (ascB l f (-1) (fl ps) = ascB l f last (fl (ps.drop j)))) (fun _ i _ => m - (intOf i).toNat)
  case atStart => exact ⟨0, -1, Nat.zero_le _, rfl, rfl, Below.refl _ _, rfl⟩
  case round =>
    obtain ⟨j, last, hj, rfl, rfl, hbw, hr⟩ := hrel
    have hsz := hbw.size
    by_cases hlt : j < m
    · obtain ⟨p, hpj⟩ := get_of (l := ps) (k := j) (by rw [HM.out]; exact hlt)
      obtain ⟨g, o, rfl, hg, c0, c1⟩ := (hp.below hbw).at2 hpj
      have HPB := Lib.hid (hp.bs p (List.mem_of_getElem? hpj))
      have HPL := Lib.hid HPB.out.ints_len
      have hnb := hB.b p (List.mem_of_getElem? hpj)
      have i1 : (0 : Int) ≤ (j : Int) := by omega
      have i2 : (j : Int) < (m : Int) := by omega
      have HR0 : Hid (ascB l f (-1) (fl ps) = ascB l f last (p.bs.drop 0 ++ fl (ps.drop (j + 1)))) := by rw [hr.out, fl_drop hpj]; rfl
      clear hr
      go_wp2
      go_loopw [7, 9] (fun lv i wr => ∃ (k : Nat) (last : Int), k ≤ p.nb ∧ i = .int .i64 k ∧ lv = .int .i64 last ∧ Below w.heap.size w wr ∧ Hid (ascB l f (-1) (fl ps) = ascB l f last (p.bs.drop k ++ fl (ps.drop (j + 1))))) (fun _ i _ => p.nb - (intOf i).toNat)
      case atStart => exact ⟨0, last, Nat.zero_le _, rfl, rfl, hbw, HR0⟩
      case round =>
        clear hbw c0 c1 hsz HR0
        obtain ⟨k, last, hk, rfl, rfl, hbw, hr⟩ := hrel
        have hsz := hbw.size
        obtain ⟨g', o', hA1, _, c0, c1⟩ := (hp.below hbw).at2 hpj
        injection hA1 with hA1
        injection hA1 with hA1 hA2 _
        subst hA1 hA2
        by_cases hka : k < p.nb
        · obtain ⟨x, hxk⟩ := get_of (l := p.bs) (k := k) (by rw [HPL.out]; exact hka)
          obtain ⟨hx0, hxn⟩ := HR.out x (fl_sub hpj hxk)
          obtain ⟨y, rfl⟩ : ∃ y : Nat, x = (y : Int) := ⟨x.toNat, by omega⟩
          obtain ⟨g3, o3, hA3, _, e0⟩ := (HPB.out.below hbw).int hxk
          rw [hA3] at c0
          have hyn : y < n := by omega
          obtain ⟨b, hb⟩ := get_of (l := l) (k := y) (by rw [HL.out]; exact hyn)
          obtain ⟨gb, ob, hA, _, b0, b1, b2, b3, b4, b5⟩ := (hx.below hbw).at6 hb
          subst hA
          have HE : Hid (ascB l f (-1) (fl ps) = if b.fl != f then ascB l f last (p.bs.drop (k + 1) ++ fl (ps.drop (j + 1))) else if (y : Int) < last then false else ascB l f (y : Int) (p.bs.drop (k + 1) ++ fl (ps.drop (j + 1)))) := by
            rw [hr.out, drop_get hxk, List.cons_append, ascB, flB_of hb]; rfl
          clear hr b0 b1 b2 b3 b5
          by_cases hf : b.fl = f
          · have q0 : (b.fl != f) = false := by simpa using hf
            have q2 : (b.fl == f) = true := by simpa using hf
            by_cases hyl : (y : Int) < last
            · have HX : Hid (ascB l f (-1) (fl ps) = false) := by rw [HE.out, q0, if_neg (by decide), if_pos hyl]; rfl
              clear HE hf
              go_wp2
              go_ret
              exact bl_post HX hbw
            · have HN : Hid (ascB l f (-1) (fl ps) = ascB l f (y : Int) (p.bs.drop (k + 1) ++ fl (ps.drop (j + 1)))) := by rw [HE.out, q0, if_neg (by decide), if_neg hyl]; rfl
              clear HE hf
              go_wp2
              go_roundw
              case rel => exact ⟨k + 1, (y : Int), by omega, by go_num, rfl, hbw, HN⟩
              case measure => simp [intOf]; omega
          · have q0 : (b.fl != f) = true := by simpa using hf
            have q2 : (b.fl == f) = false := by simpa using hf
            have HN : Hid (ascB l f (-1) (fl ps) = ascB l f last (p.bs.drop (k + 1) ++ fl (ps.drop (j + 1)))) := by rw [HE.out, q0, if_pos rfl]; rfl
            clear HE hf
            go_wp2
            go_roundw
            case rel => exact ⟨k + 1, last, by omega, by go_num, rfl, hbw, HN⟩
            case measure => simp [intOf]; omega
        · have HN : Hid (ascB l f (-1) (fl ps) = ascB l f last (fl (ps.drop (j + 1)))) := by
            rw [hr.out, List.drop_of_length_le (l := p.bs) (by rw [HPL.out]; omega), List.nil_append]; rfl
          clear hr
          go_wp2
          go_roundw
          case rel => exact ⟨j + 1, last, by omega, by go_num, rfl, hbw, HN⟩
          case measure => simp [intOf]; omega
    · have HX : Hid (ascB l f (-1) (fl ps) = true) := by rw [hr.out, List.drop_of_length_le (l := ps) (by rw [HM.out]; omega)]; rfl
      go_wp2
      go_ret
      exact bl_post HX hbw
/-- the heights' two rules -/
def hts2 (l : List Bx) (H : Int) (ps : List Pg) : List UInt8 := if ps.any (fun p => p.bs.isEmpty) then sEmpty else if htsF l H ps then sHeight else []
set_option maxHeartbeats 8000000 in
set_option maxRecDepth 100000 in
theorem rheights_any (A E : Option Addr) (n c m d : Nat) (l : List Bx) (ps : List Pg) (H : Int) (w : World) (hx : BxAt w w.heap.size A n l) (hp : PgAt w w.heap.size E m ps) (hn : n ≤ 1000) (hB : PgB ps) (hR : inR n ps) :
    Calls Tryd.prog 27 #[.slice A n c, .slice E m d, .int .i64 H] w (SPost (hts2 l H ps) w) := by
  have HL := Lib.hid hx.len
  have HM := Lib.hid hp.len
  have hm : m ≤ 1000 := by rw [← HM.out]; exact hB.n
  have HR := Lib.hid hR
  clear hR
  go_enter Tryd.func27, Tryd.ntmps27
  go_wp2
  go_loopw [7] (fun i wr => ∃ j : Nat, j ≤ m ∧ i = .int .i64 j ∧ Below w.heap.size w wr ∧ Hid (∀ p ∈ ps.take j, p.bs.isEmpty = false)) (fun i _ => m - (intOf i).toNat)
  case atStart => exact ⟨0, Nat.zero_le _, rfl, Below.refl _ _, fun p hp => by simp at hp⟩
  case round =>
    obtain ⟨j, hj, rfl, hbw, hr⟩ := hrel
    have hsz := hbw.size
    by_cases hlt : j < m
    · obtain ⟨p, hpj⟩ := get_of (l := ps) (k := j) (by rw [HM.out]; exact hlt)
      obtain ⟨g, o, rfl, hg, c0, c1⟩ := (hp.below hbw).at2 hpj
      have HPL := Lib.hid (hp.bs p (List.mem_of_getElem? hpj)).ints_len
      have i1 : (0 : Int) ≤ (j : Int) := by omega
      have i2 : (j : Int) < (m : Int) := by omega
      by_cases h0 : p.nb = 0
      · have HX : Hid (hts2 l H ps = sEmpty) := by
          show _ = _; unfold hts2
          rw [if_pos (List.any_eq_true.2 ⟨p, List.mem_of_getElem? hpj, by
            have : p.bs = [] := List.eq_nil_of_length_eq_zero (by rw [HPL.out]; exact h0)
            rw [this]; rfl⟩)]
        have q0 : ((p.nb : Int) == 0) = true := by simpa using h0
        clear hr h0
        go_wp2
        go_ret
        exact s_post HX hbw
      · have HT : Hid (∀ q ∈ ps.take (j + 1), q.bs.isEmpty = false) := all_take (P := fun q : Pg => q.bs.isEmpty = false) hr.out (by
          have h : p.bs ≠ [] := fun e => h0 (by rw [← HPL.out, e]; rfl)
          simpa using h) hpj
        have q0 : ((p.nb : Int) == 0) = false := by simpa using h0
        clear hr h0
        go_wp2
        go_roundw
        case rel => exact ⟨j + 1, by omega, by go_num, hbw, HT⟩
        case measure => simp [intOf]; omega
    · have HX5 : Hid (hts2 l H ps = if htsF l H ps then sHeight else []) := by
        have h := hr.out
        rw [List.take_of_length_le (by rw [HM.out]; omega)] at h
        show _ = _; unfold hts2
        rw [if_neg (by
          intro e
          obtain ⟨p, hp, hpe⟩ := List.any_eq_true.1 e
          rw [h p hp] at hpe; cases hpe)]
      clear hr
      go_wp2
      go_loopw [8] (fun i wr => ∃ j : Nat, j ≤ m ∧ i = .int .i64 j ∧ Below w.heap.size w wr ∧ Hid (htsF l H ps = htsF l H (ps.drop j))) (fun i _ => m - (intOf i).toNat)
      case atStart => exact ⟨0, Nat.zero_le _, rfl, hbw, rfl⟩
      case round =>
        clear hbw hsz hlt
        obtain ⟨j, hj, rfl, hbw, hr⟩ := hrel
        by_cases hlt : j < m
        · obtain ⟨p, hpj⟩ := get_of (l := ps) (k := j) (by rw [HM.out]; exact hlt)
          obtain ⟨g, o, rfl, hg, c0, c1⟩ := (hp.below hbw).at2 hpj
          have HPB := Lib.hid (hp.bs p (List.mem_of_getElem? hpj))
          have HPL := Lib.hid HPB.out.ints_len
          have hnb := hB.b p (List.mem_of_getElem? hpj)
          have i1 : (0 : Int) ≤ (j : Int) := by omega
          have i2 : (j : Int) < (m : Int) := by omega
          have HE : Hid (htsF l H ps = if sumW l 0 p.bs ≠ p.ht ∨ H < p.ht then true else htsF l H (ps.drop (j + 1))) := by rw [hr.out, drop_get hpj]; rfl
          clear hr
          go_wp2
          go_loopw [9, 10] (fun sv i wr => ∃ (k : Nat) (s : Int), k ≤ p.nb ∧ i = .int .i64 k ∧ sv = .int .i64 s ∧ Below w.heap.size w wr ∧ Hid (sumW l 0 p.bs = sumW l s (p.bs.drop k))) (fun _ i _ => p.nb - (intOf i).toNat)
          case atStart => exact ⟨0, 0, Nat.zero_le _, rfl, rfl, hbw, rfl⟩
          case round =>
            clear hbw c0 c1
            obtain ⟨k, s, hk, rfl, rfl, hbw, hr⟩ := hrel
            obtain ⟨g', o', hA1, _, c0, c1⟩ := (hp.below hbw).at2 hpj
            injection hA1 with hA1
            injection hA1 with hA1 hA2 _
            subst hA1 hA2
            by_cases hka : k < p.nb
            · obtain ⟨x, hxk⟩ := get_of (l := p.bs) (k := k) (by rw [HPL.out]; exact hka)
              obtain ⟨hx0, hxn⟩ := HR.out x (fl_sub hpj hxk)
              obtain ⟨y, rfl⟩ : ∃ y : Nat, x = (y : Int) := ⟨x.toNat, by omega⟩
              obtain ⟨g3, o3, hA3, _, e0⟩ := (HPB.out.below hbw).int hxk
              rw [hA3] at c0
              have hyn : y < n := by omega
              obtain ⟨b, hb⟩ := get_of (l := l) (k := y) (by rw [HL.out]; exact hyn)
              obtain ⟨gb, ob, hA, _, b0, b1, b2, b3, b4, b5⟩ := (hx.below hbw).at6 hb
              subst hA
              have HN : Hid (sumW l 0 p.bs = sumW l (wrap64 (s + b.h)) (p.bs.drop (k + 1))) := by rw [hr.out, drop_get hxk, sumW, htB_of hb]; rfl
              clear hr b0 b2 b3 b4 b5
              go_wp2
              go_roundw
              case rel => exact ⟨k + 1, wrap64 (s + b.h), by omega, by go_num, rfl, hbw, HN⟩
              case measure => simp [intOf]; omega
            · have HS : Hid (sumW l 0 p.bs = s) := by rw [hr.out, List.drop_of_length_le (l := p.bs) (by rw [HPL.out]; omega)]; rfl
              have HE2 : Hid (htsF l H ps = if s ≠ p.ht ∨ H < p.ht then true else htsF l H (ps.drop (j + 1))) := by rw [HE.out, HS.out]; rfl
              clear hr HE HS
              by_cases hs : s = p.ht
              · subst hs
                by_cases hh : H < p.ht
                · have HX : Hid (hts2 l H ps = sHeight) := by
                    have e : htsF l H ps = true := by rw [HE2.out, if_pos (.inr hh)]
                    rw [HX5.out, e]; rfl
                  have q0 : (p.ht != p.ht) = false := by simp
                  clear HE2 HX5
                  go_wp2
                  go_ret
                  exact s_post HX hbw
                · have HN : Hid (htsF l H ps = htsF l H (ps.drop (j + 1))) := by rw [HE2.out, if_neg (by simp; omega)]; rfl
                  have q0 : (p.ht != p.ht) = false := by simp
                  clear HE2
                  go_wp2
                  go_roundw
                  case rel => exact ⟨j + 1, by omega, by go_num, hbw, HN⟩
                  case measure => simp [intOf]; omega
              · have HX : Hid (hts2 l H ps = sHeight) := by
                  have e : htsF l H ps = true := by rw [HE2.out, if_pos (.inl hs)]
                  rw [HX5.out, e]; rfl
                have q0 : (s != p.ht) = true := by simpa using hs
                have q1 : (s == p.ht) = false := by simpa using hs
                clear HE2 HX5 hs
                go_wp2
                go_ret
                exact s_post HX hbw
        · have HX : Hid (hts2 l H ps = []) := by
            rw [HX5.out, hr.out, List.drop_of_length_le (l := ps) (by rw [HM.out]; omega)]; rfl
          go_wp2
          go_ret
          exact s_post HX hbw
end Go.Proofs.YtpgpkgpiengmkaaDoor
