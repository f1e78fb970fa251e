/-
  Layer 40 (page): does each box occur exactly once? The program's.
-/
import Derived.Test.YtpgpkgpiengmkaaDoorPgT
import Derived.Laws.MakeOwn
namespace Go.Proofs.YtpgpkgpiengmkaaDoor
open Go.RowKit
set_option linter.unusedVariables false
set_option linter.unusedSimpArgs false
attribute [local go_sem] B_data B_size

theorem Tryd.infoBool : (Tryd.prog.info? 4).map (fun i => (i.zero, i.size, i.bytes)) = some (some (.bool false), 1, 1) := by kernel_rfl
theorem made_rep (v : Value) (n : Nat) : madeCells #[v] (n * 1) = Array.replicate n v := by
  apply Array.ext
  · simp [madeCells]
  · intro i h1 h2
    simp [madeCells, Nat.mod_one]
theorem run_makeBool (n : Nat) (hn : n ≤ 1000000) (W : World) : (Instr.makeSlice 39 (.int .i64 (n : Int)) (.int .i64 (n : Int))).run Tryd.prog W =
    .ok (.slice (some ⟨W.heap.size, 0, none⟩) n n) (W.alloc (.cells (Array.replicate n (.bool false)) 4)) := by
  obtain ⟨i0, hi, hz0, hz1, hz2⟩ := info_parts Tryd.infoBool
  have hb : (i0.bytes : Int) * (n : Int) ≤ 281474976710656 := by rw [hz2]; omega
  have hr := run_make (P := Tryd.prog) W 39 4 i0 _ Tryd.underlying39 hi hz0 .i64 .i64 n n (by omega) (by omega) hb (by omega)
  simp only [Int.toNat_natCast] at hr
  rw [hr, hz1, ← made_rep]
  rfl
theorem run_makeInt (n : Nat) (hn : n ≤ 1000000) (W : World) : (Instr.makeSlice 40 (.int .i64 (n : Int)) (.int .i64 (n : Int))).run Tryd.prog W =
    .ok (.slice (some ⟨W.heap.size, 0, none⟩) n n) (W.alloc (.cells (Array.replicate n (.int .i64 0)) 3)) := by
  obtain ⟨i0, hi, hz0, hz1, hz2⟩ := info_parts Tryd.infoInt
  have hb : (i0.bytes : Int) * (n : Int) ≤ 281474976710656 := by rw [hz2]; omega
  have hr := run_make (P := Tryd.prog) W 40 3 i0 _ Tryd.underlying40 hi hz0 .i64 .i64 n n (by omega) (by omega) hb (by omega)
  simp only [Int.toNat_natCast] at hr
  rw [hr, hz1, ← made_rep]
  rfl
/-- pages are not too many, and not too long -/
structure PgB (ps : List Pg) : Prop where
  n : ps.length ≤ 1000
  b : ∀ p ∈ ps, p.nb ≤ 1000
theorem inR_next {n : Nat} {L : List Int} {x : Int} (h : ∀ y ∈ L, 0 ≤ y ∧ y < (n : Int)) (hx : 0 ≤ x) (hx2 : x < (n : Int)) : ∀ y ∈ L ++ [x], 0 ≤ y ∧ y < (n : Int) := fun y hy => by
  rcases List.mem_append.1 hy with hy | hy
  · exact h y hy
  · rw [List.mem_singleton] at hy; subst hy; exact ⟨hx, hx2⟩
theorem nodup_snoc {L : List Int} {x : Int} (h : L.Nodup) (hx : x ∉ L) : (L ++ [x]).Nodup := by
  rw [List.nodup_append]
  exact ⟨h, by simp, fun a ha c hc e => hx (by rw [List.mem_singleton] at hc; rw [← hc, ← e]; exact ha)⟩
theorem nodup_not {ps : List Pg} {j k : Nat} {p : Pg} {x : Int} (h : ps[j]? = some p) (hx : p.bs[k]? = some x) (hm : x ∈ fl (ps.take j) ++ p.bs.take k) : ¬ (fl ps).Nodup := fun hn => by
  obtain ⟨r, e⟩ := fl_split h hx
  rw [e, List.nodup_append] at hn
  exact hn.2.2 x hm x (List.mem_cons_self ..) rfl
theorem bool_row {i : Nat} {L : List Int} (j : Nat) (hji : j ≠ i) : decide (((j : Nat) : Int) ∈ L ++ [((i : Nat) : Int)]) = decide (((j : Nat) : Int) ∈ L) := by
  have h : (((j : Nat) : Int) ∈ L ++ [((i : Nat) : Int)]) ↔ ((j : Nat) : Int) ∈ L := by
    rw [List.mem_append, List.mem_singleton]
    exact ⟨fun h => h.resolve_right (by omega), .inl⟩
  exact decide_eq_decide.2 h
set_option maxHeartbeats 8000000 in
set_option maxRecDepth 100000 in
theorem complete_any (A E : Option Addr) (n c m d : Nat) (l : List Bx) (ps : List Pg) (w : World) (hx : BxAt w w.heap.size A n l) (hp : PgAt w w.heap.size E m ps) (hn : n ≤ 1000) (hB : PgB ps) :
    Calls Tryd.prog 31 #[.slice A n c, .slice E m d] w (SPost (cmpS n ps) w) := by
  have HM := Lib.hid hp.len
  have hm : m ≤ 1000 := by rw [← HM.out]; exact hB.n
  clear hx
  go_enter Tryd.func31, Tryd.ntmps31
  go_wp2
  go_loopw [16] (fun i wr => ∃ j : Nat, j ≤ m ∧ i = .int .i64 j ∧ Below w.heap.size w wr ∧ Hid (∀ y ∈ fl (ps.take j), 0 ≤ y ∧ y < (n : Int))) (fun i _ => m - (intOf i).toNat)
  case atStart => exact ⟨0, Nat.zero_le _, rfl, Below.refl _ _, fun y hy => by simp [fl] at hy⟩
  case round =>
    obtain ⟨j, hj, rfl, hbw, hr⟩ := hrel
    have hsz := hbw.size
    by_cases hlt : j < m
    · obtain ⟨p, hpj⟩ := get_of (l := ps) (k := j) (by rw [HM.out]; exact hlt)
      have hpr := hp.below hbw
      obtain ⟨g, o, rfl, hg, c0, c1⟩ := hpr.at2 hpj
      have HPB := Lib.hid (hp.bs p (List.mem_of_getElem? hpj))
      have HPL := Lib.hid HPB.out.ints_len
      have hnb := hB.b p (List.mem_of_getElem? hpj)
      have hbA := hbw.alloc hsz (.cells #[.slice p.A p.nb p.cb, .int .i64 p.ht] 42)
      clear hpr
      go_wp2
      go_loopw [23] (fun i wr => ∃ k : Nat, k ≤ p.nb ∧ i = .int .i64 k ∧ Below w.heap.size w wr ∧ Hid (∀ y ∈ fl (ps.take j) ++ p.bs.take k, 0 ≤ y ∧ y < (n : Int))) (fun i _ => p.nb - (intOf i).toNat)
      case atStart => exact ⟨0, Nat.zero_le _, rfl, hbA, by rw [List.take_zero, List.append_nil]; exact hr⟩
      case round =>
        clear hbA hbw c0 c1 hsz
        obtain ⟨k, hk, rfl, hbw, hrk⟩ := hrel
        have hsz := hbw.size
        by_cases hka : k < p.nb
        · obtain ⟨x, hxk⟩ := get_of (l := p.bs) (k := k) (by rw [HPL.out]; exact hka)
          obtain ⟨g3, o3, hA3, _, e0⟩ := (HPB.out.below hbw).int hxk
          rw [hA3]
          have i1 : (0 : Int) ≤ (k : Int) := by omega
          have i2 : (k : Int) < (p.nb : Int) := by omega
          by_cases hx0 : x < 0
          · have HX : Hid (cmpS n ps = sRange) := if_neg fun h => by have := (h x (fl_sub hpj hxk)).1; omega
            go_wp2
            go_ret
            exact s_post HX hbw
          by_cases hxn : (n : Int) ≤ x
          · have HX : Hid (cmpS n ps = sRange) := if_neg fun h => by have := (h x (fl_sub hpj hxk)).2; omega
            go_wp2
            go_ret
            exact s_post HX hbw
          have HK : Hid (∀ y ∈ fl (ps.take j) ++ p.bs.take (k + 1), 0 ≤ y ∧ y < (n : Int)) := by
            rw [take_one hxk, ← List.append_assoc]; exact inR_next hrk.out (by omega) (by omega)
          clear hrk
          go_wp2
          go_roundw
          case rel => exact ⟨k + 1, by omega, by go_num, hbw, HK⟩
          case measure => simp [intOf]; omega
        · have HJ : Hid (∀ y ∈ fl (ps.take (j + 1)), 0 ≤ y ∧ y < (n : Int)) := by
            have h := hrk.out
            rw [List.take_of_length_le (l := p.bs) (by rw [HPL.out]; omega)] at h
            rw [fl_take hpj]; exact h
          clear hr hrk
          go_wp2
          go_roundw
          case rel => exact ⟨j + 1, by omega, by go_num, hbw, HJ⟩
          case measure => simp [intOf]; omega
    · have HR : Hid (inR n ps) := by have h := hr.out; rw [List.take_of_length_le (by rw [HM.out]; omega)] at h; exact h
      clear hr
      have hmk := run_makeBool n (by omega) wr
      have hrow := Row.made wr 4 n (.bool false)
      have hbA := hbw.alloc hsz (.cells (Array.replicate n (.bool false)) 4)
      generalize wr.alloc (.cells (Array.replicate n (.bool false)) 4) = w0 at *
      have HROW : Hid (Row w0 wr.heap.size 4 n (fun i => .bool (decide (((i : Nat) : Int) ∈ fl (ps.take 0))))) := hrow.congr fun i _ => by simp [fl]
      clear hrow
      go_wp2
      clear hmk
      generalize hgS : wr.heap.size = gS at *
      go_loopw [42] (fun i wr => ∃ j : Nat, j ≤ m ∧ i = .int .i64 j ∧ Below w.heap.size w wr ∧ Hid (Row wr gS 4 n (fun i => .bool (decide (((i : Nat) : Int) ∈ fl (ps.take j))))) ∧ Hid ((fl (ps.take j)).Nodup)) (fun i _ => m - (intOf i).toNat)
      case atStart => exact ⟨0, Nat.zero_le _, rfl, hbA, HROW, by simp [fl, Hid]⟩
      case round =>
        clear hbA HROW hbw hlt
        obtain ⟨j, hj, rfl, hbw, hrow, hnd⟩ := hrel
        have hsz2 := hbw.size
        by_cases hlt : j < m
        · obtain ⟨p, hpj⟩ := get_of (l := ps) (k := j) (by rw [HM.out]; exact hlt)
          obtain ⟨g, o, rfl, hg, c0, c1⟩ := (hp.below hbw).at2 hpj
          have HPB := Lib.hid (hp.bs p (List.mem_of_getElem? hpj))
          have HPL := Lib.hid HPB.out.ints_len
          have hnb := hB.b p (List.mem_of_getElem? hpj)
          have hbA := hbw.alloc hsz2 (.cells #[.slice p.A p.nb p.cb, .int .i64 p.ht] 42)
          have HRA := Lib.hid (hrow.out.step (below_alloc _ (.cells #[.slice p.A p.nb p.cb, .int .i64 p.ht] 42)))
          clear hrow
          go_wp2
          go_loopw [49] (fun i wr => ∃ k : Nat, k ≤ p.nb ∧ i = .int .i64 k ∧ Below w.heap.size w wr ∧ Hid (Row wr gS 4 n (fun i => .bool (decide (((i : Nat) : Int) ∈ fl (ps.take j) ++ p.bs.take k)))) ∧ Hid ((fl (ps.take j) ++ p.bs.take k).Nodup)) (fun i _ => p.nb - (intOf i).toNat)
          case atStart => exact ⟨0, Nat.zero_le _, rfl, hbA, by rw [List.take_zero, List.append_nil]; exact HRA, by rw [List.take_zero, List.append_nil]; exact hnd⟩
          case round =>
            clear hbA HRA hbw c0 c1 hsz2 hnd
            obtain ⟨k, hk, rfl, hbw, hrow, hnd⟩ := hrel
            have hsz2 := hbw.size
            by_cases hka : k < p.nb
            · obtain ⟨x, hxk⟩ := get_of (l := p.bs) (k := k) (by rw [HPL.out]; exact hka)
              obtain ⟨hx0, hxn⟩ := HR.out x (fl_sub hpj hxk)
              obtain ⟨y, rfl⟩ : ∃ y : Nat, x = (y : Int) := ⟨x.toNat, by omega⟩
              obtain ⟨g3, o3, hA3, _, e0⟩ := (HPB.out.below hbw).int hxk
              rw [hA3]
              have hyn : y < n := by omega
              have d0 := hrow.out.cell hyn
              have df := hrow.out.free y
              by_cases hin : (y : Int) ∈ fl (ps.take j) ++ p.bs.take k
              · have HX : Hid (cmpS n ps = sTwice) := by show _ = _; unfold cmpS; rw [if_pos HR.out, if_neg (nodup_not hpj hxk hin)]
                have hd : decide ((y : Int) ∈ fl (ps.take j) ++ p.bs.take k) = true := by simpa using hin
                rw [hd] at d0
                clear hd hin hrow
                go_wp2
                go_ret
                exact s_post HX hbw
              · have hd : decide ((y : Int) ∈ fl (ps.take j) ++ p.bs.take k) = false := by simpa using hin
                rw [hd] at d0
                have HRN : Hid (Row (wr.setCell ⟨gS, y, none⟩ (.bool true)) gS 4 n (fun i => .bool (decide (((i : Nat) : Int) ∈ fl (ps.take j) ++ p.bs.take (k + 1))))) := by
                  rw [take_one hxk, ← List.append_assoc]
                  exact hrow.out.set hyn _ (by simp) (fun i _ hi => congrArg Value.bool (bool_row i hi))
                have HND : Hid ((fl (ps.take j) ++ p.bs.take (k + 1)).Nodup) := by rw [take_one hxk, ← List.append_assoc]; exact nodup_snoc hnd.out hin
                have hbN := hbw.setCell (p := ⟨gS, y, none⟩) hsz (.bool true)
                clear hd hin hrow hnd
                go_wp2
                go_roundw
                case rel => exact ⟨k + 1, by omega, by go_num, hbN, HRN, HND⟩
                case measure => simp [intOf]; omega
            · have HJ : Hid (Row wr gS 4 n (fun i => .bool (decide (((i : Nat) : Int) ∈ fl (ps.take (j + 1)))))) := by
                have h := hrow.out
                rw [List.take_of_length_le (l := p.bs) (by rw [HPL.out]; omega)] at h
                rw [fl_take hpj]; exact h
              have HJ2 : Hid ((fl (ps.take (j + 1))).Nodup) := by
                have h := hnd.out
                rw [List.take_of_length_le (l := p.bs) (by rw [HPL.out]; omega)] at h
                rw [fl_take hpj]; exact h
              clear hrow hnd
              go_wp2
              go_roundw
              case rel => exact ⟨j + 1, by omega, by go_num, hbw, HJ, HJ2⟩
              case measure => simp [intOf]; omega
        · have e : ps.take j = ps := List.take_of_length_le (by rw [HM.out]; omega)
          rw [e] at hrow hnd
          have HC := Lib.hid (contains_any gS n (fun i => decide (((i : Nat) : Int) ∈ fl ps)) _ hrow.out (by omega))
          go_wp2_with fail
          refine HC.out.mono ?_
          rintro e w5 ⟨rfl, hb5⟩
          have hb6 := hbw.trans (hb5.mono hsz2)
          by_cases hall : allIn n ps
          · have HX : Hid (cmpS n ps = []) := by show _ = _; unfold cmpS; rw [if_pos HR.out, if_pos hnd.out, if_pos hall]
            have hd : decide (∃ i, i < n ∧ decide (((i : Nat) : Int) ∈ fl ps) = false) = false := decide_eq_false fun ⟨i, h1, h2⟩ => by have := hall i h1; simp [this] at h2
            rw [hd]
            clear hd hall HC hrow hnd
            go_wp2
            go_ret
            exact s_post HX hb6
          · have HX : Hid (cmpS n ps = sMissing) := by show _ = _; unfold cmpS; rw [if_pos HR.out, if_pos hnd.out, if_neg hall]
            have hd : decide (∃ i, i < n ∧ decide (((i : Nat) : Int) ∈ fl ps) = false) = true := decide_eq_true (by
              refine Classical.byContradiction fun h => hall fun i hi => ?_
              refine Classical.byContradiction fun h2 => h ⟨i, hi, by simpa using h2⟩)
            rw [hd]
            clear hd hall HC hrow hnd
            go_wp2
            go_ret
            exact s_post HX hb6
end Go.Proofs.YtpgpkgpiengmkaaDoor
