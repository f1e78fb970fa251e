/-
  Layer 33 (markup): the first error of attributes.
-/
import Derived.Test.YtejjidbodfoiiaaGreatDoorMkEFG
import Derived.Test.YtejjidbodfoiiaaGreatDoorSeen
namespace Go.Proofs.YtejjidbodfoiiaaGreatDoor
open Go.RowKit
set_option linter.unusedVariables false
set_option linter.unusedSimpArgs false
attribute [local go_sem] B_data B_size

set_option maxHeartbeats 4000000 in
set_option maxRecDepth 100000 in
theorem checkAttrs_any (A : Option Addr) (n c : Nat) (ats : List (List UInt8 × List UInt8)) (w : World) (hx : Rd w w.heap.size 2 A n (ats.flatMap prF)) (hn : n ≤ 1000000000) (hsz : ∀ p ∈ ats, p.1.length ≤ 1000000000 ∧ p.2.length ≤ 1000000000) :
    Calls Tryz.prog 100 #[.slice A n c] w (IPost (chkAs [] ats) w) := by
  have HL := Lib.hid (hx.count prF 2 prF_len (by omega))
  have HS := Lib.hid hsz
  have hmk := run_mkS
  have hb0 : Below w.heap.size w (w.alloc (.map #[] 0)) := below_alloc w _
  have HS0 : Hid (MapAt w.heap.size w w.heap.size (seenM []) (w.alloc (.map #[] 0))) := ⟨SMap.made w, hb0, Nat.le_refl _⟩
  clear hsz hb0
  go_enter Tryz.func100, Tryz.ntmps100
  go_wp2
  generalize w.alloc (.map #[] 0) = W at *
  clear hmk
  go_loopw [9] (fun i wr => ∃ (j : Nat) (S : List (List UInt8)), j ≤ n ∧ i = .int .i64 j ∧ MapAt w.heap.size w w.heap.size (seenM S) wr ∧ Hid (chkAs [] ats = chkAs S (ats.drop j))) (fun i _ => n - (intOf i).toNat)
  case atStart => exact ⟨0, [], Nat.zero_le _, rfl, HS0.out, rfl⟩
  case round =>
    obtain ⟨j, S, hj, rfl, hms, hr⟩ := hrel
    have hbw := hms.2.1
    have hbs := hbw.size
    by_cases hlt : j < n
    · obtain ⟨p, hp⟩ := get_of (l := ats) (k := j) (by rw [HL.out]; exact hlt)
      obtain ⟨b, o, rfl, hbm, hcell⟩ := (hx.below hbw).elem prF 2 prF_len (by omega) hp
      have HD := Lib.hid (drop_get hp)
      have hpl := HS.out p (List.mem_of_getElem? hp)
      obtain ⟨k, v⟩ := p
      obtain ⟨hp1, hp2⟩ := hpl
      have hp1 : k.length ≤ 1000000000 := hp1
      have hp2 : v.length ≤ 1000000000 := hp2
      have c0 : wr.cell? ⟨b, o + j * 2, none⟩ = some (.string (B k)) := hcell 0 _ rfl
      have c1 : wr.cell? ⟨b, o + j * 2 + 1, none⟩ = some (.string (B v)) := hcell 1 _ rfl
      have HE : Hid (chkAs [] ats = if nameB k = false then 6 else if validB v = false then 17 else if k ∈ S then 7 else chkAs (S ++ [k]) (ats.drop (j + 1))) := by rw [hr.out, HD.out, chkAs]; rfl
      have hm1 := hms.below (below_alloc wr (.cells #[.string (B k), .string (B v)] 71)) hbs
      clear hcell hr HD hms
      go_wp2_with fail
      refine (isName_any (B k) _ (by rw [B_size]; omega)).mono ?_
      rintro e w1 ⟨rfl, rfl⟩
      rw [B_data]
      cases h1 : nameB k
      · have HX : Hid (chkAs [] ats = 6) := by rw [HE.out, if_pos h1]; rfl
        clear HE
        go_wp2
        go_ret
        exact ⟨ret_int HX.out.symm, hm1.2.1⟩
      · go_wp2_with fail
        refine (valid_any (B v) _ (by rw [B_size]; omega)).mono ?_
        rintro e w1 ⟨rfl, m, rfl⟩
        rw [B_data]
        cases h2 : validB v
        · have HX : Hid (chkAs [] ats = 17) := by rw [HE.out, if_neg (by simp [h1]), if_pos h2]; rfl
          clear HE
          go_wp2
          go_ret
          exact ⟨ret_int HX.out.symm, below_drewN hm1.2.1 m⟩
        · have HE2 : Hid (chkAs [] ats = if k ∈ S then 7 else chkAs (S ++ [k]) (ats.drop (j + 1))) := by rw [HE.out, if_neg (by simp [h1]), if_neg (by simp [h2])]; rfl
          have hm2 : MapAt w.heap.size w w.heap.size (seenM S) ((wr.alloc (.cells #[.string (B k), .string (B v)] 71)).drewN m) := ⟨hm1.1.drewN m, below_drewN hm1.2.1 m, hm1.2.2⟩
          have hlk := look_seen hm2.1 k
          clear HE hm1 h1 h2
          by_cases hs : k ∈ S
          · have HX : Hid (chkAs [] ats = 7) := by rw [HE2.out, if_pos hs]; rfl
            rw [decide_eq_true hs] at hlk
            clear hs HE2
            go_wp2
            go_ret
            exact ⟨ret_int HX.out.symm, hm2.2.1⟩
          · have HX : Hid (chkAs [] ats = chkAs (S ++ [k]) (ats.drop (j + 1))) := by rw [HE2.out, if_neg hs]; rfl
            rw [decide_eq_false hs] at hlk
            have hno : lookL k (seenM S) = none := by
              rcases seen_look k S with ⟨a, _⟩ | ⟨_, b⟩
              · exact absurd a hs
              · exact b
            have HNO := Lib.hid hno
            clear hs hno HE2
            go_wp2_with (refine wpList_upd rfl 73 9 4 _ _ _ rfl Tryz.underlying73 Tryz.underlying9 w.heap.size w w.heap.size (seenM S) hm2 rfl k rfl (.bool true) rfl HNO.out ?_)
            intro w2 hm3
            have hm3 : MapAt w.heap.size w w.heap.size (seenM (S ++ [k])) w2 := by unfold seenM at hm3 ⊢; rw [List.map_append]; exact hm3
            clear hlk hm2
            go_wp2
            go_roundw
            case rel => exact ⟨j + 1, _, by omega, by go_num, hm3, HX⟩
            case measure => simp [intOf]; omega
    · have HX : Hid (chkAs [] ats = 0) := by rw [hr.out, List.drop_of_length_le (by rw [HL.out]; omega)]; rfl
      go_wp2
      go_ret
      exact ⟨ret_int HX.out.symm, hbw⟩
theorem take_keys {ats : List (List UInt8 × List UInt8)} {j : Nat} {p : List UInt8 × List UInt8} (h : ats[j]? = some p) : (ats.take (j + 1)).map (·.1) = (ats.take j).map (·.1) ++ [p.1] := by
  obtain ⟨hj, e⟩ := List.getElem?_eq_some_iff.1 h
  rw [List.take_succ_eq_append_getElem hj, List.map_append, e]; rfl
end Go.Proofs.YtejjidbodfoiiaaGreatDoor
