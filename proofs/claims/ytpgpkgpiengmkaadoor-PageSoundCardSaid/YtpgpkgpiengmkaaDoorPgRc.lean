/-
  Layer 40 (page), the chapter's: indices.
-/
import Derived.Test.YtpgpkgpiengmkaaDoorPgRb
namespace Go.Proofs.YtpgpkgpiengmkaaDoor
open Go.RowKit
set_option linter.unusedVariables false
set_option linter.unusedSimpArgs false
attribute [local go_sem] B_data B_size

theorem cnt_snoc {L : List Int} {i y : Nat} (h : i ≠ y) : (L ++ [(y : Int)]).count (i : Int) = L.count (i : Int) := by
  rw [List.count_append, List.count_eq_zero.2 (show ¬ (i : Int) ∈ [(y : Int)] by rw [List.mem_singleton]; omega)]; rfl
theorem cnt_new {L : List Int} {y : Nat} : (L ++ [(y : Int)]).count (y : Int) = L.count (y : Int) + 1 := by
  rw [List.count_append]; simp
theorem nodup_of_cnt {n : Nat} {L : List Int} (hR : ∀ y ∈ L, 0 ≤ y ∧ y < (n : Int)) (h : ∀ i, i < n → L.count (i : Int) ≤ 1) : L.Nodup := by
  rw [List.nodup_iff_count]
  intro a
  by_cases ha : a ∈ L
  · obtain ⟨h0, h1⟩ := hR a ha
    obtain ⟨y, rfl⟩ : ∃ y : Nat, a = (y : Int) := ⟨a.toNat, by omega⟩
    exact h y (by omega)
  · rw [List.count_eq_zero.2 ha]; omega
theorem not_nodup_cnt {L : List Int} {a : Int} (h : 1 < L.count a) : ¬ L.Nodup := fun hn => by
  have := List.nodup_iff_count.1 hn a; omega
set_option maxHeartbeats 8000000 in
set_option maxRecDepth 100000 in
theorem rindices_any (A E : Option Addr) (n c m d : Nat) (l : List Bx) (ps : List Pg) (w : World) (hx : BxAt w w.heap.size A n l) (hp : PgAt w w.heap.size E m ps) (hn : n ≤ 1000) (hB : PgB ps) :
    Calls Tryd.prog 26 #[.slice A n c, .slice E m d] w (SPost (cmpS n ps) w) := by
  have HM := Lib.hid hp.len
  have hm : m ≤ 1000 := by rw [← HM.out]; exact hB.n
  have hmk := run_makeInt n (by omega) w
  have hrow := Row.made w 3 n (.int .i64 0)
  have hbA := below_alloc w (.cells (Array.replicate n (.int .i64 0)) 3)
  clear hx
  generalize w.alloc (.cells (Array.replicate n (.int .i64 0)) 3) = w0 at *
  have HROW : Hid (Row w0 w.heap.size 3 n (fun i => .int .i64 ((fl (ps.take 0)).count (i : Int) : Nat))) := hrow.congr fun i _ => by simp [fl]
  clear hrow
  go_enter Tryd.func26, Tryd.ntmps26
  go_wp2
  clear hmk
  go_loopw [6] (fun i wr => ∃ j : Nat, j ≤ m ∧ i = .int .i64 j ∧ Below w.heap.size w wr ∧ Hid (∀ y ∈ fl (ps.take j), 0 ≤ y ∧ y < (n : Int)) ∧ Hid ((fl (ps.take j)).length ≤ j * 1000) ∧ Hid (Row wr w.heap.size 3 n (fun i => .int .i64 ((fl (ps.take j)).count (i : Int) : Nat)))) (fun i _ => m - (intOf i).toNat)
  case atStart => exact ⟨0, Nat.zero_le _, rfl, hbA, fun y hy => by simp [fl] at hy, by simp [fl, Hid], HROW⟩
  case round =>
    clear hbA HROW
    obtain ⟨j, hj, rfl, hbw, hr, hlen, hrow⟩ := hrel
    have hsz := hbw.size
    by_cases hlt : j < m
    · obtain ⟨p, hpj⟩ := get_of (l := ps) (k := j) (by rw [HM.out]; exact hlt)
      obtain ⟨g, o, rfl, hg, c0, c1⟩ := (hp.below hbw).at2 hpj
      have HPB := Lib.hid (hp.bs p (List.mem_of_getElem? hpj))
      have HPL := Lib.hid HPB.out.ints_len
      have hnb := hB.b p (List.mem_of_getElem? hpj)
      have i1 : (0 : Int) ≤ (j : Int) := by omega
      have i2 : (j : Int) < (m : Int) := by omega
      have HR0 : Hid (∀ y ∈ fl (ps.take j) ++ p.bs.take 0, 0 ≤ y ∧ y < (n : Int)) := by rw [List.take_zero, List.append_nil]; exact hr
      have HROW : Hid (Row wr w.heap.size 3 n (fun i => .int .i64 ((fl (ps.take j) ++ p.bs.take 0).count (i : Int) : Nat))) := by rw [List.take_zero, List.append_nil]; exact hrow
      clear hr hrow
      go_wp2
      go_loopw [7] (fun i wr => ∃ k : Nat, k ≤ p.nb ∧ i = .int .i64 k ∧ Below w.heap.size w wr ∧ Hid (∀ y ∈ fl (ps.take j) ++ p.bs.take k, 0 ≤ y ∧ y < (n : Int)) ∧ Hid (Row wr w.heap.size 3 n (fun i => .int .i64 ((fl (ps.take j) ++ p.bs.take k).count (i : Int) : Nat)))) (fun i _ => p.nb - (intOf i).toNat)
      case atStart => exact ⟨0, Nat.zero_le _, rfl, hbw, HR0, HROW⟩
      case round =>
        clear hbw c0 c1 hsz HR0 HROW
        obtain ⟨k, hk, rfl, hbw, hr, hrow⟩ := hrel
        obtain ⟨g', o', hA1, _, c0, c1⟩ := (hp.below hbw).at2 hpj
        injection hA1 with hA1
        injection hA1 with hA1 hA2 _
        subst hA1 hA2
        by_cases hka : k < p.nb
        · obtain ⟨x, hxk⟩ := get_of (l := p.bs) (k := k) (by rw [HPL.out]; exact hka)
          obtain ⟨g3, o3, hA3, _, e0⟩ := (HPB.out.below hbw).int hxk
          rw [hA3] at c0
          by_cases hx0 : x < 0
          · have HX : Hid (cmpS n ps = sRange) := if_neg fun h => by have := (h x (fl_sub hpj hxk)).1; omega
            go_wp2
            go_ret
            exact s_post HX hbw
          by_cases hxn : (n : Int) ≤ x
          · have HX : Hid (cmpS n ps = sRange) := if_neg fun h => by have := (h x (fl_sub hpj hxk)).2; omega
            go_wp2
            go_ret
            exact s_post HX hbw
          obtain ⟨y, rfl⟩ : ∃ y : Nat, x = (y : Int) := ⟨x.toNat, by omega⟩
          have hyn : y < n := by omega
          have d0 := hrow.out.cell hyn
          have df := hrow.out.free y
          have hcb : (fl (ps.take j) ++ p.bs.take k).count (y : Int) ≤ 1001000 := by
            refine Nat.le_trans List.count_le_length ?_
            have h1 := hlen.out
            have h2 := HPL.out
            rw [List.length_append, List.length_take]
            have : j * 1000 ≤ 1000 * 1000 := Nat.mul_le_mul_right _ (by omega)
            omega
          have HRN : Hid (Row (wr.setCell ⟨w.heap.size, y, none⟩ (.int .i64 (((fl (ps.take j) ++ p.bs.take k).count (y : Int) + 1 : Nat)))) w.heap.size 3 n (fun i => .int .i64 ((fl (ps.take j) ++ p.bs.take (k + 1)).count (i : Int) : Nat))) := by
            rw [take_one hxk, ← List.append_assoc]
            exact hrow.out.set hyn _ (by rw [cnt_new]) (fun i _ hi => by rw [cnt_snoc hi])
          have HK : Hid (∀ y ∈ fl (ps.take j) ++ p.bs.take (k + 1), 0 ≤ y ∧ y < (n : Int)) := by
            rw [take_one hxk, ← List.append_assoc]; exact inR_next hr.out (by omega) (by omega)
          generalize (fl (ps.take j) ++ p.bs.take k).count (y : Int) = cn at *
          have hbN := hbw.setCell (p := ⟨w.heap.size, y, none⟩) (Nat.le_refl _) (.int .i64 ((cn + 1 : Nat) : Int))
          have ew : wrap64 ((cn : Int) + 1) = ((cn + 1 : Nat) : Int) := by unfold wrap64; omega
          clear hr hrow
          go_wp2
          go_roundw
          case rel => exact ⟨k + 1, by omega, by go_num, hbN, HK, HRN⟩
          case measure => simp [intOf]; omega
        · have HJ : Hid (∀ y ∈ fl (ps.take (j + 1)), 0 ≤ y ∧ y < (n : Int)) := by
            have h := hr.out
            rw [List.take_of_length_le (l := p.bs) (by rw [HPL.out]; omega)] at h
            rw [fl_take hpj]; exact h
          have HJ2 : Hid (Row wr w.heap.size 3 n (fun i => .int .i64 ((fl (ps.take (j + 1))).count (i : Int) : Nat))) := by
            have h := hrow.out
            rw [List.take_of_length_le (l := p.bs) (by rw [HPL.out]; omega)] at h
            rw [fl_take hpj]; exact h
          have HJ3 : Hid ((fl (ps.take (j + 1))).length ≤ (j + 1) * 1000) := by
            show _ ≤ _
            have h1 := hlen.out
            have h2 := HPL.out
            rw [fl_take hpj, List.length_append]; omega
          clear hr hrow hlen
          go_wp2
          go_roundw
          case rel => exact ⟨j + 1, by omega, by go_num, hbw, HJ, HJ3, HJ2⟩
          case measure => simp [intOf]; omega
    · have e : ps.take j = ps := List.take_of_length_le (by rw [HM.out]; omega)
      rw [e] at hr hrow hlen
      have HR : Hid (inR n ps) := hr.out
      have HCB : Hid (∀ i : Nat, (fl ps).count (i : Int) ≤ 1000000) := fun i => by
        refine Nat.le_trans List.count_le_length ?_
        have h1 := hlen.out
        have : j * 1000 ≤ 1000 * 1000 := Nat.mul_le_mul_right _ (by omega)
        omega
      clear hlen e
      go_wp2
      go_loopw [9] (fun i wr => ∃ j : Nat, j ≤ n ∧ i = .int .i64 j ∧ Below w.heap.size w wr ∧ Hid (Row wr w.heap.size 3 n (fun i => .int .i64 ((fl ps).count (i : Int) : Nat))) ∧ Hid (∀ i, i < j → (fl ps).count (i : Int) ≤ 1)) (fun i _ => n - (intOf i).toNat)
      case atStart => exact ⟨0, Nat.zero_le _, rfl, hbw, hrow, fun i hi => by omega⟩
      case round =>
        clear hbw hrow hsz hlt
        obtain ⟨j, hj, rfl, hbw, hrow, hc⟩ := hrel
        by_cases hlt : j < n
        · have d0 := hrow.out.cell hlt
          have hcb := HCB.out j
          have i1 : (0 : Int) ≤ (j : Int) := by omega
          have i2 : (j : Int) < (n : Int) := by omega
          by_cases hc1 : 1 < (fl ps).count (j : Int)
          · have HX : Hid (cmpS n ps = sTwice) := by show _ = _; unfold cmpS; rw [if_pos HR.out, if_neg (not_nodup_cnt hc1)]
            generalize (fl ps).count (j : Int) = cn at *
            have q0 : decide ((1 : Int) < (cn : Int)) = true := decide_eq_true (by omega)
            go_wp2
            go_ret
            exact s_post HX hbw
          · have HN : Hid (∀ i, i < j + 1 → (fl ps).count (i : Int) ≤ 1) := fun i hi => by
              by_cases e : i = j
              · subst e; omega
              · exact hc.out i (by omega)
            generalize (fl ps).count (j : Int) = cn at *
            clear hc
            go_wp2
            go_roundw
            case rel => exact ⟨j + 1, by omega, by go_num, hbw, hrow, HN⟩
            case measure => simp [intOf]; omega
        · have HND : Hid ((fl ps).Nodup) := nodup_of_cnt hr.out fun i hi => hc.out i (by omega)
          clear hc
          go_wp2
          go_loopw [10] (fun i wr => ∃ j : Nat, j ≤ n ∧ i = .int .i64 j ∧ Below w.heap.size w wr ∧ Hid (Row wr w.heap.size 3 n (fun i => .int .i64 ((fl ps).count (i : Int) : Nat))) ∧ Hid (∀ i : Nat, i < j → (i : Int) ∈ fl ps)) (fun i _ => n - (intOf i).toNat)
          case atStart => exact ⟨0, Nat.zero_le _, rfl, hbw, hrow, fun i hi => by omega⟩
          case round =>
            clear hbw hrow hlt
            obtain ⟨j, hj, rfl, hbw, hrow, hc⟩ := hrel
            by_cases hlt : j < n
            · have d0 := hrow.out.cell hlt
              have hcb := HCB.out j
              have i1 : (0 : Int) ≤ (j : Int) := by omega
              have i2 : (j : Int) < (n : Int) := by omega
              by_cases hc1 : (fl ps).count (j : Int) = 0
              · have HX : Hid (cmpS n ps = sMissing) := by
                  show _ = _; unfold cmpS
                  rw [if_pos HR.out, if_pos HND.out, if_neg fun h => List.count_eq_zero.1 hc1 (h j hlt)]
                rw [hc1] at d0
                go_wp2
                go_ret
                exact s_post HX hbw
              · have HN : Hid (∀ i : Nat, i < j + 1 → (i : Int) ∈ fl ps) := fun i hi => by
                  by_cases e : i = j
                  · subst e; exact List.count_pos_iff.1 (by omega)
                  · exact hc.out i (by omega)
                generalize (fl ps).count (j : Int) = cn at *
                have q0 : ((cn : Int) == 0) = false := by simpa using hc1
                clear hc
                go_wp2
                go_roundw
                case rel => exact ⟨j + 1, by omega, by go_num, hbw, hrow, HN⟩
                case measure => simp [intOf]; omega
            · have HX : Hid (cmpS n ps = []) := by show _ = _; unfold cmpS; rw [if_pos HR.out, if_pos HND.out, if_pos (show allIn n ps from fun i hi => hc.out i (by omega))]
              go_wp2
              go_ret
              exact s_post HX hbw
end Go.Proofs.YtpgpkgpiengmkaaDoor
