/-
  Layer 33 (markup): the first error of attributes.
-/
import Derived.Test.YtlhkpkjcecjomaaMkG
import Derived.Test.YtlhkpkjcecjomaaSeen
namespace Go.Proofs.Ytlhkpkjcecjomaa
open Go.RowKit
set_option linter.unusedVariables false
set_option linter.unusedSimpArgs false
attribute [local go_sem] B_data B_size

set_option maxHeartbeats 4000000 in
set_option maxRecDepth 100000 in
theorem checkAttrs_any (A : Option Addr) (n c : Nat) (ats : List (List UInt8 × List UInt8)) (w : World) (hx : Rd w w.heap.size 2 A n (ats.flatMap prF)) (hn : n ≤ 1000000000) (hsz : ∀ p ∈ ats, p.1.length ≤ 1000000000 ∧ p.2.length ≤ 1000000000) :
    Calls Try.prog 34 #[.slice A n c] w (IPost (chkAs [] ats) w) := by
  have HL := Lib.hid (hx.count prF 2 prF_len (by omega))
  have HS := Lib.hid hsz
  have hmk := run_mkS
  have hb0 : Below w.heap.size w (w.alloc (.map #[] 0)) := below_alloc w _
  have HS0 : Hid (MapAt w.heap.size w w.heap.size (seenM []) (w.alloc (.map #[] 0))) := ⟨SMap.made w, hb0, Nat.le_refl _⟩
  clear hsz hb0
  go_enter Try.func34, Try.ntmps34
  go_wp2
  generalize w.alloc (.map #[] 0) = W at *
  clear hmk
  go_loopw [9] (fun i wr => ∃ (j : Nat) (S : List (List UInt8)), j ≤ n ∧ i = .int .i64 j ∧ MapAt w.heap.size w w.heap.size (seenM S) wr ∧ Hid (chkAs [] ats = chkAs S (ats.drop j))) (fun i _ => n - (intOf i).toNat)
  case atStart => exact ⟨0, [], Nat.zero_le _, rfl, HS0.out, rfl⟩
  case round =>
    obtain ⟨j, S, hj, rfl, hms, hr⟩ := hrel
    have hbw := hms.2.1
    have hbs := hbw.size
    by_cases hlt : j < n
    · obtain ⟨p, hp⟩ := get_of (l := ats) (k := j) (by rw [HL.out]; exact hlt)
      obtain ⟨b, o, rfl, hbm, hcell⟩ := (hx.below hbw).elem prF 2 prF_len (by omega) hp
      have HD := Lib.hid (drop_get hp)
      have hpl := HS.out p (List.mem_of_getElem? hp)
      obtain ⟨k, v⟩ := p
      obtain ⟨hp1, hp2⟩ := hpl
      have hp1 : k.length ≤ 1000000000 := hp1
      have hp2 : v.length ≤ 1000000000 := hp2
      have c0 : wr.cell? ⟨b, o + j * 2, none⟩ = some (.string (B k)) := hcell 0 _ rfl
      have c1 : wr.cell? ⟨b, o + j * 2 + 1, none⟩ = some (.string (B v)) := hcell 1 _ rfl
      have HE : Hid (chkAs [] ats = if nameB k = false then 6 else if validB v = false then 17 else if k ∈ S then 7 else chkAs (S ++ [k]) (ats.drop (j + 1))) := by rw [hr.out, HD.out, chkAs]; rfl
      have hm1 := hms.below (below_alloc wr (.cells #[.string (B k), .string (B v)] 46)) hbs
      clear hcell hr HD hms
      go_wp2_with fail
      refine (isName_any (B k) _ (by rw [B_size]; omega)).mono ?_
      rintro e w1 ⟨rfl, rfl⟩
      rw [B_data]
      cases h1 : nameB k
      · have HX : Hid (chkAs [] ats = 6) := by rw [HE.out, if_pos h1]; rfl
        clear HE
        go_wp2
        go_ret
        exact ⟨ret_int HX.out.symm, hm1.2.1⟩
      · go_wp2_with fail
        refine (valid_any (B v) _ (by rw [B_size]; omega)).mono ?_
        rintro e w1 ⟨rfl, m, rfl⟩
        rw [B_data]
        cases h2 : validB v
        · have HX : Hid (chkAs [] ats = 17) := by rw [HE.out, if_neg (by simp [h1]), if_pos h2]; rfl
          clear HE
          go_wp2
          go_ret
          exact ⟨ret_int HX.out.symm, below_drewN hm1.2.1 m⟩
        · have HE2 : Hid (chkAs [] ats = if k ∈ S then 7 else chkAs (S ++ [k]) (ats.drop (j + 1))) := by rw [HE.out, if_neg (by simp [h1]), if_neg (by simp [h2])]; rfl
          have hm2 : MapAt w.heap.size w w.heap.size (seenM S) ((wr.alloc (.cells #[.string (B k), .string (B v)] 46)).drewN m) := ⟨hm1.1.drewN m, below_drewN hm1.2.1 m, hm1.2.2⟩
          have hlk := look_seen hm2.1 k
          clear HE hm1 h1 h2
          by_cases hs : k ∈ S
          · have HX : Hid (chkAs [] ats = 7) := by rw [HE2.out, if_pos hs]; rfl
            rw [decide_eq_true hs] at hlk
            clear hs HE2
            go_wp2
            go_ret
            exact ⟨ret_int HX.out.symm, hm2.2.1⟩
          · have HX : Hid (chkAs [] ats = chkAs (S ++ [k]) (ats.drop (j + 1))) := by rw [HE2.out, if_neg hs]; rfl
            rw [decide_eq_false hs] at hlk
            have hno : lookL k (seenM S) = none := by
              rcases seen_look k S with ⟨a, _⟩ | ⟨_, b⟩
              · exact absurd a hs
              · exact b
            have HNO := Lib.hid hno
            clear hs hno HE2
            go_wp2_with (refine wpList_upd rfl 78 9 4 _ _ _ rfl Try.underlying78 Try.underlying9 w.heap.size w w.heap.size (seenM S) hm2 rfl k rfl (.bool true) rfl HNO.out ?_)
            intro w2 hm3
            have hm3 : MapAt w.heap.size w w.heap.size (seenM (S ++ [k])) w2 := by unfold seenM at hm3 ⊢; rw [List.map_append]; exact hm3
            clear hlk hm2
            go_wp2
            go_roundw
            case rel => exact ⟨j + 1, _, by omega, by go_num, hm3, HX⟩
            case measure => simp [intOf]; omega
    · have HX : Hid (chkAs [] ats = 0) := by rw [hr.out, List.drop_of_length_le (by rw [HL.out]; omega)]; rfl
      go_wp2
      go_ret
      exact ⟨ret_int HX.out.symm, hbw⟩
theorem take_keys {ats : List (List UInt8 × List UInt8)} {j : Nat} {p : List UInt8 × List UInt8} (h : ats[j]? = some p) : (ats.take (j + 1)).map (·.1) = (ats.take j).map (·.1) ++ [p.1] := by
  obtain ⟨hj, e⟩ := List.getElem?_eq_some_iff.1 h
  rw [List.take_succ_eq_append_getElem hj, List.map_append, e]; rfl
set_option maxHeartbeats 4000000 in
set_option maxRecDepth 100000 in
theorem rattrs_any (A : Option Addr) (n c : Nat) (ats : List (List UInt8 × List UInt8)) (w : World) (hx : Rd w w.heap.size 2 A n (ats.flatMap prF)) (hn : n ≤ 1000000000) (hsz : ∀ p ∈ ats, p.1.length ≤ 1000000000 ∧ p.2.length ≤ 1000000000) :
    Calls Try.prog 38 #[.slice A n c] w (IPost (chkAs [] ats) w) := by
  have HL := Lib.hid (hx.count prF 2 prF_len (by omega))
  have HS := Lib.hid hsz
  clear hsz
  go_enter Try.func38, Try.ntmps38
  go_wp2
  go_loopw [3] (fun i wr => ∃ (j : Nat), j ≤ n ∧ i = .int .i64 j ∧ Below w.heap.size w wr ∧ Hid (chkAs [] ats = chkAs ((ats.take j).map (·.1)) (ats.drop j))) (fun i _ => n - (intOf i).toNat)
  case atStart => exact ⟨0, Nat.zero_le _, rfl, Below.refl _ _, rfl⟩
  case round =>
    obtain ⟨j, hj, rfl, hbw, hr⟩ := hrel
    have hbs := hbw.size
    by_cases hlt : j < n
    · obtain ⟨p, hp⟩ := get_of (l := ats) (k := j) (by rw [HL.out]; exact hlt)
      obtain ⟨b, o, rfl, hbm, hcell⟩ := (hx.below hbw).elem prF 2 prF_len (by omega) hp
      have HD := Lib.hid (drop_get hp)
      have HTK := Lib.hid (take_keys hp)
      have hpl := HS.out p (List.mem_of_getElem? hp)
      obtain ⟨k, v⟩ := p
      obtain ⟨hp1, hp2⟩ := hpl
      have hp1 : k.length ≤ 1000000000 := hp1
      have hp2 : v.length ≤ 1000000000 := hp2
      have c0 : wr.cell? ⟨b, o + j * 2, none⟩ = some (.string (B k)) := hcell 0 _ rfl
      have c1 : wr.cell? ⟨b, o + j * 2 + 1, none⟩ = some (.string (B v)) := hcell 1 _ rfl
      have HE : Hid (chkAs [] ats = if nameB k = false then 6 else if validB v = false then 17 else if k ∈ (ats.take j).map (·.1) then 7 else chkAs ((ats.take (j + 1)).map (·.1)) (ats.drop (j + 1))) := by rw [hr.out, HD.out, chkAs, HTK.out]; rfl
      clear hcell hr HD
      go_wp2_with fail
      refine (rName_any (B k) _ (by rw [B_size]; omega)).mono ?_
      rintro e w1 ⟨rfl, rfl⟩
      rw [B_data]
      cases h1 : nameB k
      · have HX : Hid (chkAs [] ats = 6) := by rw [HE.out, if_pos h1]; rfl
        clear HE
        go_wp2
        go_ret
        exact ⟨ret_int HX.out.symm, hbw⟩
      · go_wp2_with fail
        refine (rvalid_any (B v) _ (by rw [B_size]; omega)).mono ?_
        rintro e w1 ⟨rfl, hb1⟩
        rw [B_data]
        have hB1 := hbw.trans (hb1.mono hbs)
        cases h2 : validB v
        · have HX : Hid (chkAs [] ats = 17) := by rw [HE.out, if_neg (by simp [h1]), if_pos h2]; rfl
          clear HE
          go_wp2
          go_ret
          exact ⟨ret_int HX.out.symm, hB1⟩
        · have HE2 : Hid (chkAs [] ats = if k ∈ (ats.take j).map (·.1) then 7 else chkAs ((ats.take (j + 1)).map (·.1)) (ats.drop (j + 1))) := by rw [HE.out, if_neg (by simp [h1]), if_neg (by simp [h2])]; rfl
          have d0 : w1.cell? ⟨b, o + j * 2, none⟩ = some (.string (B k)) := by rw [hb1.cell (p := ⟨b, o + j * 2, none⟩) (by show b < _; omega)]; exact c0
          clear HE h1 h2 c0 c1
          go_wp2
          rename World => wo
          go_loopw [4] (fun i wr => ∃ (t : Nat), t ≤ j ∧ i = .int .i64 t ∧ Below w.heap.size w wr ∧ wr.cell? ⟨b, o + j * 2, none⟩ = some (.string (B k)) ∧ Hid (k ∉ (ats.take t).map (·.1))) (fun i _ => j - (intOf i).toNat)
          case atStart => exact ⟨0, Nat.zero_le _, rfl, hB1, d0, by simp [Hid]⟩
          case round =>
            obtain ⟨t, ht, rfl, hbt, d0, hno⟩ := hrel
            by_cases htj : t < j
            · obtain ⟨p, hp⟩ := get_of (l := ats) (k := t) (by rw [HL.out]; omega)
              obtain ⟨b2, o2, hbb, hbm2, hcell⟩ := (hx.below hbt).elem prF 2 prF_len (by omega) hp
              have HTK2 := Lib.hid (take_keys hp)
              have HIN : Hid (p.1 ∈ (ats.take j).map (·.1)) := by
                refine List.mem_map.2 ⟨p, ?_, rfl⟩
                have : (ats.take j)[t]? = some p := by rw [List.getElem?_take, if_pos htj]; exact hp
                exact List.mem_of_getElem? this
              obtain ⟨k2, v2⟩ := p
              obtain ⟨rfl, rfl⟩ : b = b2 ∧ o = o2 := by injection hbb with h; injection h with h1 h2 _; exact ⟨h1, h2⟩
              have e0 : wr.cell? ⟨b, o + t * 2, none⟩ = some (.string (B k2)) := hcell 0 _ rfl
              clear hcell hbb
              have i1 : (0 : Int) ≤ (t : Int) := by omega
              have i2 : (t : Int) < (n : Int) := by omega
              have i3 : (0 : Int) ≤ (j : Int) := by omega
              have i4 : (j : Int) < (n : Int) := by omega
              by_cases hkk : k2 = k
              · subst hkk
                have HX : Hid (chkAs [] ats = 7) := by rw [HE2.out, if_pos HIN.out]; rfl
                clear HE2
                go_wp2
                go_quiet (fail)
                go_wp2
                go_ret
                exact ⟨ret_int HX.out.symm, below_drewN hbt _⟩
              · have hne : (k2 == k) = false := by simpa using hkk
                have HNO : Hid (k ∉ (ats.take (t + 1)).map (·.1)) := by
                  rw [HTK2.out]
                  intro h
                  rcases List.mem_append.1 h with h | h
                  · exact hno.out h
                  · simp at h; exact hkk h.symm
                clear hkk
                go_wp2
                go_quiet (fail)
                go_wp2
                go_roundw
                case rel => exact ⟨t + 1, by omega, by go_num, below_drewN hbt _, d0, HNO⟩
                case measure => simp [intOf]; omega
            · obtain rfl : t = j := by omega
              have HX : Hid (chkAs [] ats = chkAs ((ats.take (t + 1)).map (·.1)) (ats.drop (t + 1))) := by rw [HE2.out, if_neg hno.out]; rfl
              clear HE2
              go_wp2
              go_roundw
              case rel => exact ⟨t + 1, by omega, by go_num, hbt, HX⟩
              case measure => simp [intOf]; omega
    · have HX : Hid (chkAs [] ats = 0) := by rw [hr.out, List.drop_of_length_le (by rw [HL.out]; omega)]; rfl
      go_wp2
      go_ret
      exact ⟨ret_int HX.out.symm, hbw⟩
end Go.Proofs.Ytlhkpkjcecjomaa
