/-
  Layer 49 (project): the errors of variables, flags and targets: the chapter's.
-/
import Derived.Test.YtmkenekngaihhaaGreatDoorPjB
namespace Go.Proofs.YtmkenekngaihhaaGreatDoor
open Go.RowKit
set_option linter.unusedVariables false
set_option linter.unusedSimpArgs false
attribute [local go_sem] B_data B_size

def IPost (r : Int) (w : World) (e : Ending) (w' : World) : Prop := e = .returned (.int .i64 r) ∧ Below w.heap.size w w'
set_option maxHeartbeats 4000000 in
set_option maxRecDepth 100000 in
theorem rvars_any (A : Option Addr) (n c : Nat) (vs : List (List UInt8 × List UInt8)) (w : World) (hx : Rd w w.heap.size 2 A n (vs.flatMap prF)) (hn : n ≤ 1000000000) (hsz : ∀ p ∈ vs, p.1.length ≤ 1000000 ∧ p.2.length ≤ 1000000) :
    Calls Tryz.prog 26 #[.slice A n c] w (IPost (varsT pkG vs) w) := by
  have HL := Lib.hid (hx.count prF 2 prF_len (by omega))
  have HS := Lib.hid hsz
  clear hsz
  by_cases h32 : 32 < n
  · have HX : Hid (varsT pkG vs = 3) := varsT_long (by rw [HL.out]; exact h32)
    go_enter Tryz.func26, Tryz.ntmps26
    go_wp2
    go_ret
    exact ⟨ret_int HX.out.symm, Below.refl _ _⟩
  have HV : Hid (varsT pkG vs = varsE pkG [] vs) := varsT_ok (by rw [HL.out]; exact h32)
  go_enter Tryz.func26, Tryz.ntmps26
  go_wp2
  go_loopw [3] (fun i wr => ∃ (j : Nat), j ≤ n ∧ i = .int .i64 j ∧ Below w.heap.size w wr ∧ Hid (varsT pkG vs = varsE pkG ((vs.take j).map (·.1)) (vs.drop j))) (fun i _ => n - (intOf i).toNat)
  case atStart => exact ⟨0, Nat.zero_le _, rfl, Below.refl _ _, HV⟩
  case round =>
    obtain ⟨j, hj, rfl, hbw, hr⟩ := hrel
    have hbs := hbw.size
    by_cases hlt : j < n
    · obtain ⟨p, hp⟩ := get_of (l := vs) (k := j) (by rw [HL.out]; exact hlt)
      obtain ⟨b, o, rfl, hbm, hcell⟩ := (hx.below hbw).elem prF 2 prF_len (by omega) hp
      have HD := Lib.hid (drop_get hp)
      have HTK := Lib.hid (take_keys hp)
      have hpl := HS.out p (List.mem_of_getElem? hp)
      obtain ⟨k, v⟩ := p
      obtain ⟨hp1, hp2⟩ := hpl
      have hp1 : k.length ≤ 1000000 := hp1
      have hp2 : v.length ≤ 1000000 := hp2
      have c0 : wr.cell? ⟨b, o + j * 2, none⟩ = some (.string (B k)) := hcell 0 _ rfl
      have c1 : wr.cell? ⟨b, o + j * 2 + 1, none⟩ = some (.string (B v)) := hcell 1 _ rfl
      have HE : Hid (varsT pkG vs = if nm3 k = false then 6 else if trimB v = false then 17 else if k ∈ (vs.take j).map (·.1) then 7 else varsE pkG ((vs.take (j + 1)).map (·.1)) (vs.drop (j + 1))) := by rw [hr.out, HD.out, varsE, HTK.out]; rfl
      clear hcell hr HD
      go_wp2_with fail
      refine (r3name_any (B k) _ (by rw [B_size]; omega)).mono ?_
      rintro e w1 ⟨rfl, rfl⟩
      rw [B_data]
      cases h1 : nm3 k
      · have HX : Hid (varsT pkG vs = 6) := by rw [HE.out, if_pos h1]; rfl
        clear HE
        go_wp2
        go_ret
        exact ⟨ret_int HX.out.symm, hbw⟩
      · go_wp2_with fail
        refine (rtrimmed_any (B v) _ (by rw [B_size]; omega)).mono ?_
        rintro e w1 ⟨rfl, hb1⟩
        rw [B_data]
        have hB1 := hbw.trans (hb1.mono hbs)
        cases h2 : trimB v
        · have HX : Hid (varsT pkG vs = 17) := by rw [HE.out, if_neg (by simp [h1]), if_pos h2]; rfl
          clear HE
          go_wp2
          go_ret
          exact ⟨ret_int HX.out.symm, hB1⟩
        · have HE2 : Hid (varsT pkG vs = if k ∈ (vs.take j).map (·.1) then 7 else varsE pkG ((vs.take (j + 1)).map (·.1)) (vs.drop (j + 1))) := by rw [HE.out, if_neg (by simp [h1]), if_neg (by simp [h2])]; rfl
          have d0 : w1.cell? ⟨b, o + j * 2, none⟩ = some (.string (B k)) := by rw [hb1.cell (p := ⟨b, o + j * 2, none⟩) (by show b < _; omega)]; exact c0
          clear HE h1 h2 c0 c1
          go_wp2
          rename World => wo
          go_loopw [4] (fun i wr => ∃ (t : Nat), t ≤ j ∧ i = .int .i64 t ∧ Below w.heap.size w wr ∧ wr.cell? ⟨b, o + j * 2, none⟩ = some (.string (B k)) ∧ Hid (k ∉ (vs.take t).map (·.1))) (fun i _ => j - (intOf i).toNat)
          case atStart => exact ⟨0, Nat.zero_le _, rfl, hB1, d0, by simp [Hid]⟩
          case round =>
            obtain ⟨t, ht, rfl, hbt, d0, hno⟩ := hrel
            by_cases htj : t < j
            · obtain ⟨p, hp⟩ := get_of (l := vs) (k := t) (by rw [HL.out]; omega)
              obtain ⟨b2, o2, hbb, hbm2, hcell⟩ := (hx.below hbt).elem prF 2 prF_len (by omega) hp
              have HTK2 := Lib.hid (take_keys hp)
              have HIN : Hid (p.1 ∈ (vs.take j).map (·.1)) := by
                refine List.mem_map.2 ⟨p, ?_, rfl⟩
                have : (vs.take j)[t]? = some p := by rw [List.getElem?_take, if_pos htj]; exact hp
                exact List.mem_of_getElem? this
              obtain ⟨k2, v2⟩ := p
              obtain ⟨rfl, rfl⟩ : b = b2 ∧ o = o2 := by injection hbb with h; injection h with h1 h2 _; exact ⟨h1, h2⟩
              have e0 : wr.cell? ⟨b, o + t * 2, none⟩ = some (.string (B k2)) := hcell 0 _ rfl
              clear hcell hbb
              have i1 : (0 : Int) ≤ (t : Int) := by omega
              have i2 : (t : Int) < (n : Int) := by omega
              have i3 : (0 : Int) ≤ (j : Int) := by omega
              have i4 : (j : Int) < (n : Int) := by omega
              by_cases hkk : k2 = k
              · subst hkk
                have HX : Hid (varsT pkG vs = 7) := by rw [HE2.out, if_pos HIN.out]; rfl
                clear HE2
                go_wp2
                go_quiet (fail)
                go_wp2
                go_ret
                exact ⟨ret_int HX.out.symm, below_drewN hbt _⟩
              · have hne : (k2 == k) = false := by simpa using hkk
                have HNO : Hid (k ∉ (vs.take (t + 1)).map (·.1)) := by
                  rw [HTK2.out]
                  intro h
                  rcases List.mem_append.1 h with h | h
                  · exact hno.out h
                  · simp at h; exact hkk h.symm
                clear hkk
                go_wp2
                go_quiet (fail)
                go_wp2
                go_roundw
                case rel => exact ⟨t + 1, by omega, by go_num, below_drewN hbt _, d0, HNO⟩
                case measure => simp [intOf]; omega
            · obtain rfl : t = j := by omega
              have HX : Hid (varsT pkG vs = varsE pkG ((vs.take (t + 1)).map (·.1)) (vs.drop (t + 1))) := by rw [HE2.out, if_neg hno.out]; rfl
              clear HE2
              go_wp2
              go_roundw
              case rel => exact ⟨t + 1, by omega, by go_num, hbt, HX⟩
              case measure => simp [intOf]; omega
    · have HX : Hid (varsT pkG vs = 0) := by rw [hr.out, List.drop_of_length_le (by rw [HL.out]; omega)]; rfl
      go_wp2
      go_ret
      exact ⟨ret_int HX.out.symm, hbw⟩
theorem mem_getD {l : List (List UInt8)} {t j : Nat} (h : t < j) (hl : t < l.length) : l.getD t [] ∈ l.take j := by
  have e : l[t]? = some l[t] := List.getElem?_eq_getElem hl
  rw [List.getD_eq_getElem?_getD, e]
  refine List.mem_of_getElem? (i := t) ?_
  rw [List.getElem?_take, if_pos h, e]; rfl
theorem take_getD {l : List (List UInt8)} {t : Nat} (hl : t < l.length) : l.take (t + 1) = l.take t ++ [l.getD t []] := by
  rw [List.take_succ_eq_append_getElem hl, List.getD_eq_getElem?_getD, List.getElem?_eq_getElem hl]; rfl
set_option maxHeartbeats 4000000 in
set_option maxRecDepth 100000 in
theorem rflags_any (A : Option Addr) (n c : Nat) (fs : List (List UInt8)) (w : World) (hx : Rd w w.heap.size 1 A n (strs fs)) (hn : n ≤ 1000000000) (hsz : ∀ p ∈ fs, p.length ≤ 1000000) :
    Calls Tryz.prog 27 #[.slice A n c] w fun e w' => e = .returned (.int .i64 (flagsT pkG fs)) ∧ w = w' := by
  have HL := Lib.hid hx.strs_length
  have HS := Lib.hid hsz
  clear hsz
  by_cases h32 : 32 < n
  · have HX : Hid (flagsT pkG fs = 3) := flagsT_long (by rw [HL.out]; exact h32)
    go_enter Tryz.func27, Tryz.ntmps27
    go_wp2
    go_ret
    exact ⟨ret_int HX.out.symm, rfl⟩
  have HV : Hid (flagsT pkG fs = flagsE pkG [] fs) := flagsT_ok (by rw [HL.out]; exact h32)
  go_enter Tryz.func27, Tryz.ntmps27
  go_wp2
  go_loop [3] (fun i => ∃ (j : Nat), j ≤ n ∧ i = .int .i64 j ∧ Hid (flagsT pkG fs = flagsE pkG (fs.take j) (fs.drop j))) (fun i => n - (intOf i).toNat)
  case atStart => exact ⟨0, Nat.zero_le _, rfl, HV⟩
  case round =>
    obtain ⟨j, hj, rfl, hr⟩ := hrel
    by_cases hlt : j < n
    · obtain ⟨p, hp⟩ := get_of (l := fs) (k := j) (by rw [HL.out]; exact hlt)
      obtain ⟨ad, rfl, c0⟩ := hx.str hlt
      have HD := Lib.hid (drop_get hp)
      have HTK := Lib.hid (take_one hp)
      have hpl := HS.out p (List.mem_of_getElem? hp)
      have hgd : fs.getD j [] = p := by rw [List.getD_eq_getElem?_getD, hp]; rfl
      rw [hgd] at c0
      have HE : Hid (flagsT pkG fs = if (nm3 p && !reserved p) = false then 6 else if p ∈ fs.take j then 7 else flagsE pkG (fs.take (j + 1)) (fs.drop (j + 1))) := by rw [hr.out, HD.out, flagsE, HTK.out]; rfl
      clear hr HD hgd
      cases h1 : nm3 p
      · have HX : Hid (flagsT pkG fs = 6) := by rw [HE.out, h1]; simp [Hid]
        go_wp2_with fail
        refine (r3name_any (B p) _ (by rw [B_size]; omega)).mono ?_
        rintro e w1 ⟨rfl, rfl⟩
        rw [B_data, h1]
        clear h1
        go_wp2
        go_ret
        exact ⟨ret_int HX.out.symm, rfl⟩
      · cases h0 : reserved p
        · obtain ⟨r1, r2, r3, r4, r5⟩ := res_no h0
          have HE : Hid (flagsT pkG fs = if p ∈ fs.take j then 7 else flagsE pkG (fs.take (j + 1)) (fs.drop (j + 1))) := by rw [HE.out, h0, h1]; simp [Hid]
          clear h0
          go_wp2_with fail
          refine (r3name_any (B p) _ (by rw [B_size]; omega)).mono ?_
          rintro e w1 ⟨rfl, rfl⟩
          rw [B_data, h1]
          clear h1
          go_wp2
          go_loop [5] (fun i => ∃ (t : Nat), t ≤ j ∧ i = .int .i64 t ∧ Hid (p ∉ fs.take t)) (fun i => j - (intOf i).toNat)
          case atStart => exact ⟨0, Nat.zero_le _, rfl, by simp [Hid]⟩
          case round =>
            obtain ⟨t, ht, rfl, hno⟩ := hrel
            by_cases htj : t < j
            · obtain ⟨ad2, hae, e0⟩ := hx.str (k := t) (by omega)
              obtain rfl : ad = ad2 := by injection hae
              have HIN := Lib.hid (mem_getD (l := fs) htj (by rw [HL.out]; omega))
              have HTK2 := Lib.hid (take_getD (l := fs) (t := t) (by rw [HL.out]; omega))
              generalize fs.getD t [] = q at e0 HIN HTK2
              by_cases hkk : q = p
              · subst hkk
                have HX : Hid (flagsT pkG fs = 7) := by rw [HE.out, if_pos HIN.out]; rfl
                clear HE
                go_wp2
                go_ret
                exact ⟨ret_int HX.out.symm, rfl⟩
              · have hne : (q == p) = false := by simpa using hkk
                have HNO : Hid (p ∉ fs.take (t + 1)) := by
                  rw [HTK2.out]
                  intro h
                  rcases List.mem_append.1 h with h | h
                  · exact hno.out h
                  · simp at h; exact hkk h.symm
                clear hkk
                go_wp2
                go_round
                case rel => exact ⟨t + 1, by omega, by go_num, HNO⟩
                case measure => simp [intOf]; omega
            · obtain rfl : t = j := by omega
              have HX : Hid (flagsT pkG fs = flagsE pkG (fs.take (t + 1)) (fs.drop (t + 1))) := by rw [HE.out, if_neg hno.out]; rfl
              clear HE
              go_wp2
              go_round
              case rel => exact ⟨t + 1, by omega, by go_num, HX⟩
              case measure => simp [intOf]; omega
        · have HX : Hid (flagsT pkG fs = 6) := by rw [HE.out, h0]; simp [Hid]
          clear HE HTK hpl hp
          rcases res_cases h0 with rfl | rfl | rfl | rfl | rfl
          all_goals
            go_wp2_with fail
            refine (r3name_any _ _ (by decide)).mono ?_
            rintro e w1 ⟨rfl, rfl⟩
            rw [B_data, h1]
            clear h1 h0
            go_wp2
            go_ret
            exact ⟨ret_int HX.out.symm, rfl⟩
    · have HX : Hid (flagsT pkG fs = 0) := by rw [hr.out, List.drop_of_length_le (by rw [HL.out]; omega)]; rfl
      go_wp2
      go_ret
      exact ⟨ret_int HX.out.symm, rfl⟩
theorem rcolon_any (s : ByteArray) (w : World) (hs : s.size ≤ 1000000000) : Calls Tryz.prog 57 #[.string s] w fun e w' => e = .returned (.bool (decide (58 ∈ s.toList))) ∧ w = w' := by
  go_enter Tryz.func57, Tryz.ntmps57
  go_wp2
  go_loop [3] (fun i => ∃ k : Nat, k ≤ s.size ∧ i = .int .i64 k ∧ Hid (58 ∉ s.toList.take k)) (fun i => s.size - (intOf i).toNat)
  case atStart => exact ⟨0, Nat.zero_le _, rfl, by simp [Hid]⟩
  case round =>
    obtain ⟨k, hk, rfl, hno⟩ := hrel
    by_cases hlt : k < s.size
    · have ht := take_byte s k hlt
      by_cases hc : s[k].toNat = 58
      · have hb : ((s[k].toNat : Int) == 58) = true := by simp [hc]
        have HR : Hid (decide (58 ∈ s.toList) = true) := by
          have : s[k] = 58 := UInt8.toNat_inj.1 hc
          show _ = _
          rw [decide_eq_true_eq]
          refine List.mem_of_mem_take (i := k + 1) ?_
          rw [ht, this]; simp
        clear ht hc hno
        go_wp2
        go_ret
        exact ⟨ret_bool HR.out.symm, rfl⟩
      · have hb : ((s[k].toNat : Int) == 58) = false := by
          cases h : ((s[k].toNat : Int) == 58) with
          | false => rfl
          | true =>
            have h : (s[k].toNat : Int) = 58 := by simpa using h
            exact absurd (by omega) hc
        have HN : Hid (58 ∉ s.toList.take (k + 1)) := by
          show 58 ∉ _
          rw [ht, List.mem_append, not_or]
          refine ⟨hno.out, ?_⟩
          intro h
          have : 58 = s[k] := by simpa using h
          exact hc (by rw [← this]; rfl)
        clear ht hc hno
        go_wp2
        go_round
        case rel => exact ⟨k + 1, by omega, by go_num, HN⟩
        case measure => simp [intOf]; omega
    · have HR : Hid (decide (58 ∈ s.toList) = false) := by
        have := hno.out
        rw [List.take_of_length_le (by rw [len_toList]; omega)] at this
        simpa [Hid] using this
      clear hno
      go_wp2
      go_ret
      exact ⟨ret_bool HR.out.symm, rfl⟩
set_option maxHeartbeats 4000000 in
set_option maxRecDepth 100000 in
theorem rtarget_any (t : Tg) (w : World) : Calls Tryz.prog 58 #[.agg #[.string (B t.nm), .string (B t.kd), .int .i64 t.pg, .int .i64 t.wd]] w (IPost (kindE t) w) := by
  have hB := below_alloc w (.cells #[.string (B t.nm), .string (B t.kd), .int .i64 t.pg, .int .i64 t.wd] 38)
  obtain ⟨nm, kd, pg, wd⟩ := t
  simp only at *
  by_cases k1 : kd = kPages
  · subst k1
    have HQ : Hid (kindE ⟨nm, kPages, pg, wd⟩ = if pg < 5 ∨ 1000 < pg ∨ wd < 500 ∨ 100000 < wd then 9 else 0) := by unfold kindE; rw [if_pos rfl]; rfl
    go_enter Tryz.func58, Tryz.ntmps58
    go_wp2
    all_goals
      go_ret
      exact ⟨ret_int (by rw [HQ.out]; first | rw [if_pos (by omega)] | rw [if_neg (by omega)]), hB⟩
  · by_cases k2 : kd = kHtml ∨ kd = kBook ∨ kd = kSlides
    · have HQ : Hid (kindE ⟨nm, kd, pg, wd⟩ = if pg ≠ 0 ∨ wd ≠ 0 then 9 else 0) := by unfold kindE; rw [if_neg k1, if_pos k2]; rfl
      rcases k2 with rfl | rfl | rfl
      all_goals
        clear k1
        by_cases p0 : pg = 0
        · subst p0
          by_cases p1 : wd = 0
          · subst p1
            go_enter Tryz.func58, Tryz.ntmps58
            go_wp2
            go_ret
            exact ⟨ret_int (by rw [HQ.out]; rfl), hB⟩
          · have q1 : (wd != 0) = true := by simpa using p1
            have HQ2 := Lib.hid (HQ.out.trans (if_pos (.inr p1)))
            clear p1
            go_enter Tryz.func58, Tryz.ntmps58
            go_wp2
            go_ret
            exact ⟨ret_int HQ2.out.symm, hB⟩
        · have q1 : (pg != 0) = true := by simpa using p0
          have HQ2 := Lib.hid (HQ.out.trans (if_pos (.inl p0)))
          clear p0
          go_enter Tryz.func58, Tryz.ntmps58
          go_wp2
          go_ret
          exact ⟨ret_int HQ2.out.symm, hB⟩
    · have HQ : Hid (kindE ⟨nm, kd, pg, wd⟩ = 13) := by unfold kindE; rw [if_neg k1, if_neg k2]; rfl
      simp only [not_or] at k2
      have e1 : (kd == [112, 97, 103, 101, 115]) = false := by simpa [kPages] using k1
      have e2 : (kd == [104, 116, 109, 108]) = false := by simpa [kHtml] using k2.1
      have e3 : (kd == [98, 111, 111, 107]) = false := by simpa [kBook] using k2.2.1
      have e4 : (kd == [115, 108, 105, 100, 101, 115]) = false := by simpa [kSlides] using k2.2.2
      clear k1 k2
      go_enter Tryz.func58, Tryz.ntmps58
      go_wp2
      go_ret
      exact ⟨ret_int HQ.out.symm, hB⟩
end Go.Proofs.YtmkenekngaihhaaGreatDoor
