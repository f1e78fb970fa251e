/-
  Layer 40 (page): are boxes valid? The program's (boxes) and the chapter's.
-/
import Derived.Test.YtpgpkgpiengmkaaDoorPgM
import Derived.Test.YtpgpkgpiengmkaaDoorNm
import Derived.Test.YtpgpkgpiengmkaaDoorNMap
import Derived.Test.YtpgpkgpiengmkaaDoorMkC
import Derived.Test.YtpgpkgpiengmkaaDoorMkF
namespace Go.Proofs.YtpgpkgpiengmkaaDoor
open Go.RowKit
set_option linter.unusedVariables false
set_option linter.unusedSimpArgs false
attribute [local go_sem] B_data B_size

def IPost (r : Int) (w : World) (e : Ending) (w' : World) : Prop := e = .returned (.int .i64 r) ∧ Below w.heap.size w w'
/-- the error of a box's anchors, after seen -/
def anE : List (List UInt8) → List (List UInt8) → Int
  | _, [] => 0
  | seen, a :: r => if nm3 a = false then 6 else if a ∈ seen then 7 else anE (seen ++ [a]) r
/-- an error, or what follows -/
def anK (x r : Int) : Int := if x ≠ 0 then x else r
/-- the error of boxes -/
def chkB : List (List UInt8) → Int → List Bx → Int
  | _, _, [] => 0
  | seen, q, b :: r => if b.h < 1 then 9 else if 1048576 < b.h then 9 else if validB b.tx = false then 17 else if b.g < q then 5 else anK (anE seen b.an) (chkB (seen ++ b.an) b.g r)
def seenOf (l : List Bx) : List (List UInt8) := l.flatMap (·.an)
theorem seen_take {l : List Bx} {j : Nat} {b : Bx} (h : l[j]? = some b) : seenOf (l.take (j + 1)) = seenOf (l.take j) ++ b.an := by
  unfold seenOf; rw [take_one h, List.flatMap_append]; simp
theorem run_mkS (w : World) : (Instr.makeMap 60 none).run Tryd.prog w = .ok (.map (some w.heap.size)) (w.alloc (.map #[] 0)) := rfl
theorem zeroB (w : World) : (zeroValue 4).run Tryd.prog w = .ok (.bool false) w := by kernel_rfl

set_option maxHeartbeats 8000000 in
set_option maxRecDepth 100000 in
theorem bcheck_any (A : Option Addr) (n c : Nat) (l : List Bx) (w : World) (hx : BxAt w w.heap.size A n l) (hf : Few l) :
    Calls Tryd.prog 22 #[.slice A n c] w (IPost (chkB [] 0 l) w) := by
  have HL := Lib.hid hx.len
  have hn60 : n ≤ 60 := by have := hf.n; rw [hx.len] at this; exact this
  have HF := Lib.hid hf.b
  have hb0 := below_alloc w (.map #[] 0)
  have hm0 := NMap.made w
  have hmk := run_mkS w
  clear hf
  go_enter Tryd.func22, Tryd.ntmps22
  go_wp2
  go_loopw [4, 15] (fun g i wr => ∃ (j : Nat) (q : Int), j ≤ n ∧ i = .int .i64 j ∧ g = .int .i64 q ∧ Below w.heap.size w wr ∧ Hid (NMap wr w.heap.size (seenOf (l.take j))) ∧ Hid (chkB [] 0 l = chkB (seenOf (l.take j)) q (l.drop j))) (fun _ i _ => n - (intOf i).toNat)
  case atStart => exact ⟨0, 0, Nat.zero_le _, rfl, rfl, hb0, hm0, rfl⟩
  case round =>
    clear hb0 hm0 hmk
    obtain ⟨j, q, hj, rfl, rfl, hbw, hnm, hr⟩ := hrel
    have hsz := hbw.size
    by_cases hlt : j < n
    · obtain ⟨p, hp⟩ := get_of (l := l) (k := j) (by rw [HL.out]; exact hlt)
      have hmem := List.mem_of_getElem? hp
      obtain ⟨g, o, rfl, hg, c0, c1, c2, c3, c4, c5⟩ := (hx.below hbw).at6 hp
      obtain ⟨hfa, hft, hfn⟩ := HF.out p hmem
      have HAN := Lib.hid (hx.an p hmem)
      have HNA := Lib.hid (HAN.out.strs_length)
      have hna6 : p.na ≤ 6 := by rw [← HNA.out]; exact hfa
      have HFN := Lib.hid hfn
      clear hfn hfa hmem
      have HE : Hid (chkB [] 0 l = if p.h < 1 then 9 else if 1048576 < p.h then 9 else if validB p.tx = false then 17 else if p.g < q then 5 else anK (anE (seenOf (l.take j)) p.an) (chkB (seenOf (l.take (j + 1))) p.g (l.drop (j + 1)))) := by
        rw [hr.out, drop_get hp, chkB, seen_take hp]; rfl
      have hbA := hbw.alloc hsz (.cells #[.string (B p.tx), .int .i64 p.h, .int .i64 p.g, .bool p.kp, .bool p.fl, .slice p.A p.na p.ca] 45)
      have HNM := Lib.hid (hnm.out.alloc (.cells #[.string (B p.tx), .int .i64 p.h, .int .i64 p.g, .bool p.kp, .bool p.fl, .slice p.A p.na p.ca] 45))
      have HST := Lib.hid (seen_take hp)
      clear hr hnm
      by_cases e1 : p.h < 1
      · have HX : Hid (chkB [] 0 l = 9) := by rw [HE.out, if_pos e1]; rfl
        clear HE
        go_wp2
        go_ret
        exact ⟨ret_int HX.out.symm, hbA⟩
      by_cases e2 : 1048576 < p.h
      · have HX : Hid (chkB [] 0 l = 9) := by rw [HE.out, if_neg e1, if_pos e2]; rfl
        clear HE
        go_wp2
        go_ret
        exact ⟨ret_int HX.out.symm, hbA⟩
      go_wp2_with fail
      refine (valid_any (B p.tx) _ (by rw [B_size]; omega)).mono ?_
      rintro e w1 ⟨rfl, r, rfl⟩
      rw [B_data]
      have hbD := below_drewN hbA r
      have HND := Lib.hid (HNM.out.drewN r)
      clear HNM
      cases h2 : validB p.tx
      · have HX : Hid (chkB [] 0 l = 17) := by rw [HE.out, if_neg (by omega), if_neg (by omega), if_pos h2]; rfl
        clear HE
        go_wp2
        go_ret
        exact ⟨ret_int HX.out.symm, hbD⟩
      by_cases e3 : p.g < q
      · have HX : Hid (chkB [] 0 l = 5) := by rw [HE.out, if_neg (by omega), if_neg (by omega), if_neg (by rw [h2]; decide), if_pos e3]; rfl
        clear HE
        go_wp2
        go_ret
        exact ⟨ret_int HX.out.symm, hbD⟩
      have HE2 : Hid (chkB [] 0 l = anK (anE (seenOf (l.take j)) p.an) (chkB (seenOf (l.take (j + 1))) p.g (l.drop (j + 1)))) := by
        rw [HE.out, if_neg (by omega), if_neg (by omega), if_neg (by rw [h2]; decide), if_neg e3]; rfl
      clear HE h2
      go_wp2
      go_loopw [40] (fun i wr => ∃ k : Nat, k ≤ p.na ∧ i = .int .i64 k ∧ Below w.heap.size w wr ∧ Hid (NMap wr w.heap.size (seenOf (l.take j) ++ p.an.take k)) ∧ Hid (chkB [] 0 l = anK (anE (seenOf (l.take j) ++ p.an.take k) (p.an.drop k)) (chkB (seenOf (l.take (j + 1))) p.g (l.drop (j + 1))))) (fun i _ => p.na - (intOf i).toNat)
      case atStart => exact ⟨0, Nat.zero_le _, rfl, hbD, by simpa using HND, by simpa using HE2⟩
      case round =>
        clear hbA hbD HND HE2 c0 c1 c2 c3 c4 c5 e1 e2 e3 hbw
        obtain ⟨k, hk, rfl, hbw, hnm, hr⟩ := hrel
        have hsz := hbw.size
        by_cases hka : k < p.na
        · obtain ⟨a, ha⟩ := get_of (l := p.an) (k := k) (by rw [HNA.out]; exact hka)
          obtain ⟨g2, o2, hA2, hg2, d0⟩ := (HAN.out.below hbw).strk ha
          rw [hA2]
          have hfa := HFN.out a (List.mem_of_getElem? ha)
          have HTK := Lib.hid (take_one ha)
          have HE : Hid (chkB [] 0 l = anK (if nm3 a = false then 6 else if a ∈ seenOf (l.take j) ++ p.an.take k then 7 else anE (seenOf (l.take j) ++ p.an.take (k + 1)) (p.an.drop (k + 1))) (chkB (seenOf (l.take (j + 1))) p.g (l.drop (j + 1)))) := by
            rw [hr.out, drop_get ha, anE, HTK.out, List.append_assoc]; rfl
          clear hr
          go_wp2_with fail
          refine (aname_any (B a) _ (by rw [B_size]; omega)).mono ?_
          rintro e w1 ⟨rfl, rfl⟩
          rw [B_data]
          cases h1 : nm3 a
          · have HX : Hid (chkB [] 0 l = 6) := by rw [HE.out, h1]; rfl
            clear HE
            go_wp2
            go_ret
            exact ⟨ret_int HX.out.symm, hbw⟩
          by_cases hs : a ∈ seenOf (l.take j) ++ p.an.take k
          · have HX : Hid (chkB [] 0 l = 7) := by rw [HE.out, h1, if_neg (by decide), if_pos hs]; rfl
            have hl := hnm.out.look (T := 60) Tryd.underlying60 Tryd.underlying9 a (zeroB wr)
            have hd : decide (a ∈ seenOf (l.take j) ++ p.an.take k) = true := by simpa using hs
            rw [hd] at hl
            clear HE hd hs h1
            go_wp2
            go_ret
            exact ⟨ret_int HX.out.symm, hbw⟩
          · have HX : Hid (chkB [] 0 l = anK (anE (seenOf (l.take j) ++ p.an.take (k + 1)) (p.an.drop (k + 1))) (chkB (seenOf (l.take (j + 1))) p.g (l.drop (j + 1)))) := by
              rw [HE.out, h1, if_neg (by decide), if_neg hs]; rfl
            have hl := hnm.out.look (T := 60) Tryd.underlying60 Tryd.underlying9 a (zeroB wr)
            have hd : decide (a ∈ seenOf (l.take j) ++ p.an.take k) = false := by simpa using hs
            rw [hd] at hl
            obtain ⟨w3, hpu, h3, h4⟩ := hnm.out.put (T := 60) Tryd.underlying60 Tryd.underlying9 a hs
            have hb3 := hbw.grown h4 hsz (fun k hk => by injection hk with hk; omega)
            have HN3 : Hid (NMap w3 w.heap.size (seenOf (l.take j) ++ p.an.take (k + 1))) := by rw [HTK.out, ← List.append_assoc]; exact h3
            clear HE hd hs h1 h3 h4 hnm
            go_wp2
            go_roundw
            case rel => exact ⟨k + 1, by omega, by go_num, hb3, HN3, HX⟩
            case measure => simp [intOf]; omega
        · have e : k = p.na := by omega
          have HX : Hid (chkB [] 0 l = chkB (seenOf (l.take (j + 1))) p.g (l.drop (j + 1))) := by
            have h := hr.out
            rw [List.drop_of_length_le (by rw [HNA.out]; omega)] at h
            rw [h, anE]; rfl
          have HN2 : Hid (NMap wr w.heap.size (seenOf (l.take (j + 1)))) := by
            have h := hnm.out
            rw [List.take_of_length_le (l := p.an) (by rw [HNA.out]; omega)] at h
            rw [HST.out]; exact h
          clear hnm hr
          go_wp2
          go_roundw
          case rel => exact ⟨j + 1, p.g, by omega, by go_num, rfl, hbw, HN2, HX⟩
          case measure => simp [intOf]; omega
    · have HX : Hid (chkB [] 0 l = 0) := by rw [hr.out, List.drop_of_length_le (by rw [HL.out]; omega)]; rfl
      go_wp2
      go_ret
      exact ⟨ret_int HX.out.symm, hbw⟩
end Go.Proofs.YtpgpkgpiengmkaaDoor
