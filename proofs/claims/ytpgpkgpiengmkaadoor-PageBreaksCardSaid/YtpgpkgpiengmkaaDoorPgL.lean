/-
  Layer 40 (page): are boxes valid? The chapter's.
-/
import Derived.Test.YtpgpkgpiengmkaaDoorPgK
namespace Go.Proofs.YtpgpkgpiengmkaaDoor
open Go.RowKit
set_option linter.unusedVariables false
set_option linter.unusedSimpArgs false
attribute [local go_sem] B_data B_size

theorem cellD {w w1 : World} {C : Array Value} {t : TypeId} {i : Nat} (hb : Below (w.alloc (.cells C t)).heap.size (w.alloc (.cells C t)) w1) : w1.cell? ⟨w.heap.size, i, none⟩ = C[i]? := by
  have h := heap_alloc_new w (.cells C t)
  have h2 := (hb.block w.heap.size (by simp)).trans h
  exact cell_of_row w1 w.heap.size i C t (0, 0) h2
set_option maxHeartbeats 4000000 in
set_option maxRecDepth 100000 in
theorem has_any (S : Option Addr) (m c : Nat) (l : List (List UInt8)) (a : List UInt8) (w : World) (hx : Rd w w.heap.size 1 S m (strs l)) (hn : m ≤ 1000000) :
    Calls Tryd.prog 40 #[.slice S m c, .string (B a)] w fun e w' => e = .returned (.bool (decide (a ∈ l))) ∧ w = w' := by
  have HL := Lib.hid hx.strs_length
  go_enter Tryd.func40, Tryd.ntmps40
  go_wp2
  go_loopw [5] (fun i wr => ∃ k : Nat, k ≤ m ∧ i = .int .i64 k ∧ wr = w ∧ Hid (a ∉ l.take k)) (fun i _ => m - (intOf i).toNat)
  case atStart => exact ⟨0, Nat.zero_le _, rfl, rfl, by simp [Hid]⟩
  case round =>
    obtain ⟨k, hk, rfl, rfl, hr⟩ := hrel
    by_cases hlt : k < m
    · obtain ⟨b, hb⟩ := get_of (l := l) (k := k) (by rw [HL.out]; exact hlt)
      obtain ⟨g, o, rfl, hg, d0⟩ := hx.strk hb
      by_cases he : b = a
      · have HX : Hid (decide (a ∈ l) = true) := by have := List.mem_of_getElem? hb; rw [he] at this; simpa [Hid] using this
        have q0 : (b == a) = true := by simpa using he
        clear he
        go_wp2
        go_ret
        exact ⟨ret_bool HX.out.symm, rfl⟩
      · have HR : Hid (a ∉ l.take (k + 1)) := by rw [take_one hb]; intro h; rcases List.mem_append.1 h with h | h; exact hr.out h; rw [List.mem_singleton] at h; exact he h.symm
        have q0 : (b == a) = false := by simpa using he
        clear he
        go_wp2
        go_roundw
        case rel => exact ⟨k + 1, by omega, by go_num, by trivial, HR⟩
        case measure => simp [intOf]; omega
    · have HX : Hid (decide (a ∈ l) = false) := by have h := hr.out; rw [List.take_of_length_le (by rw [HL.out]; omega)] at h; simpa [Hid] using h
      go_wp2
      go_ret
      exact ⟨ret_bool HX.out.symm, rfl⟩
set_option maxHeartbeats 8000000 in
set_option maxRecDepth 100000 in
theorem rbcheck_any (A : Option Addr) (n c : Nat) (l : List Bx) (w : World) (hx : BxAt w w.heap.size A n l) (hf : Few l) :
    Calls Tryd.prog 19 #[.slice A n c] w (IPost (chkB [] 0 l) w) := by
  have HL := Lib.hid hx.len
  have hn60 : n ≤ 60 := by have := hf.n; rw [hx.len] at this; exact this
  have HF := Lib.hid hf.b
  clear hf
  go_enter Tryd.func19, Tryd.ntmps19
  go_wp2
  go_loopw [3, 4, 14] (fun s g i wr => ∃ (j : Nat) (q : Int) (S : Option Addr) (m cs : Nat), j ≤ n ∧ i = .int .i64 j ∧ g = .int .i64 q ∧ s = .slice S m cs ∧ Below w.heap.size w wr ∧ Hid (wr.ownsRow w.heap.size 9 1 (.slice S m cs) m (strs (seenOf (l.take j)))) ∧ m ≤ j * 6 ∧ Hid (chkB [] 0 l = chkB (seenOf (l.take j)) q (l.drop j))) (fun _ _ i _ => n - (intOf i).toNat)
  case atStart => exact ⟨0, 0, none, 0, 0, Nat.zero_le _, rfl, rfl, rfl, Below.refl _ _, World.ownsRow_nil .., Nat.zero_le _, rfl⟩
  case round =>
    obtain ⟨j, q, S, m, cs, hj, rfl, rfl, rfl, hbw, hnm, hsl, hr⟩ := hrel
    have hsz := hbw.size
    by_cases hlt : j < n
    · obtain ⟨p, hp⟩ := get_of (l := l) (k := j) (by rw [HL.out]; exact hlt)
      have hmem := List.mem_of_getElem? hp
      obtain ⟨g, o, rfl, hg, c0, c1, c2, c3, c4, c5⟩ := (hx.below hbw).at6 hp
      obtain ⟨hfa, hft, hfn⟩ := HF.out p hmem
      have HAN := Lib.hid (hx.an p hmem)
      have HNA := Lib.hid (HAN.out.strs_length)
      have hna6 : p.na ≤ 6 := by rw [← HNA.out]; exact hfa
      have HFN := Lib.hid hfn
      clear hfn hfa hmem
      have HE : Hid (chkB [] 0 l = if p.h < 1 then 9 else if 1048576 < p.h then 9 else if validB p.tx = false then 17 else if p.g < q then 5 else anK (anE (seenOf (l.take j)) p.an) (chkB (seenOf (l.take (j + 1))) p.g (l.drop (j + 1)))) := by
        rw [hr.out, drop_get hp, chkB, seen_take hp]; rfl
      have hbA := hbw.alloc hsz (.cells #[.string (B p.tx), .int .i64 p.h, .int .i64 p.g, .bool p.kp, .bool p.fl, .slice p.A p.na p.ca] 45)
      have HNM := Lib.hid (World.ownsRow.alloc hnm.out (.cells #[.string (B p.tx), .int .i64 p.h, .int .i64 p.g, .bool p.kp, .bool p.fl, .slice p.A p.na p.ca] 45))
      have HST := Lib.hid (seen_take hp)
      clear hr hnm
      by_cases e1 : p.h < 1
      · have HX : Hid (chkB [] 0 l = 9) := by rw [HE.out, if_pos e1]; rfl
        clear HE
        go_wp2
        go_ret
        exact ⟨ret_int HX.out.symm, hbA⟩
      by_cases e2 : 1048576 < p.h
      · have HX : Hid (chkB [] 0 l = 9) := by rw [HE.out, if_neg e1, if_pos e2]; rfl
        clear HE
        go_wp2
        go_ret
        exact ⟨ret_int HX.out.symm, hbA⟩
      go_wp2_with fail
      refine (rvalid_any (B p.tx) _ (by rw [B_size]; omega)).mono ?_
      rintro e w1 ⟨rfl, hv1⟩
      rw [B_data]
      have hbD := hbA.trans (hv1.mono hbA.size)
      have HND := Lib.hid (own_below HNM.out hv1)
      have e2' : w1.cell? ⟨wr.heap.size, 2, none⟩ = some (.int .i64 p.g) := cellD hv1
      have e5' : w1.cell? ⟨wr.heap.size, 5, none⟩ = some (.slice p.A p.na p.ca) := cellD hv1
      clear hv1
      clear HNM
      cases h2 : validB p.tx
      · have HX : Hid (chkB [] 0 l = 17) := by rw [HE.out, if_neg (by omega), if_neg (by omega), if_pos h2]; rfl
        clear HE
        go_wp2
        go_ret
        exact ⟨ret_int HX.out.symm, hbD⟩
      by_cases e3 : p.g < q
      · have HX : Hid (chkB [] 0 l = 5) := by rw [HE.out, if_neg (by omega), if_neg (by omega), if_neg (by rw [h2]; decide), if_pos e3]; rfl
        clear HE
        go_wp2
        go_ret
        exact ⟨ret_int HX.out.symm, hbD⟩
      have HE2 : Hid (chkB [] 0 l = anK (anE (seenOf (l.take j)) p.an) (chkB (seenOf (l.take (j + 1))) p.g (l.drop (j + 1)))) := by
        rw [HE.out, if_neg (by omega), if_neg (by omega), if_neg (by rw [h2]; decide), if_neg e3]; rfl
      clear HE h2
      go_wp2
      go_loopw [3, 39] (fun s i wr => ∃ (k : Nat) (S : Option Addr) (m cs : Nat), k ≤ p.na ∧ i = .int .i64 k ∧ s = .slice S m cs ∧ Below w.heap.size w wr ∧ Hid (wr.ownsRow w.heap.size 9 1 (.slice S m cs) m (strs (seenOf (l.take j) ++ p.an.take k))) ∧ m ≤ j * 6 + k ∧ Hid (chkB [] 0 l = anK (anE (seenOf (l.take j) ++ p.an.take k) (p.an.drop k)) (chkB (seenOf (l.take (j + 1))) p.g (l.drop (j + 1))))) (fun _ i _ => p.na - (intOf i).toNat)
      case atStart => exact ⟨0, S, m, cs, Nat.zero_le _, rfl, rfl, hbD, by simpa using HND, by omega, by simpa using HE2⟩
      case round =>
        clear hbA hbD HND HE2 c0 c1 c2 c3 c4 c5 e1 e2 e3 hbw e2' e5'
        obtain ⟨k, S, m, cs, hk, rfl, rfl, hbw, hnm, hsl, hr⟩ := hrel
        have hsz := hbw.size
        by_cases hka : k < p.na
        · obtain ⟨a, ha⟩ := get_of (l := p.an) (k := k) (by rw [HNA.out]; exact hka)
          obtain ⟨g2, o2, hA2, hg2, d0⟩ := (HAN.out.below hbw).strk ha
          rw [hA2]
          have hfa := HFN.out a (List.mem_of_getElem? ha)
          have HTK := Lib.hid (take_one ha)
          have HE : Hid (chkB [] 0 l = anK (if nm3 a = false then 6 else if a ∈ seenOf (l.take j) ++ p.an.take k then 7 else anE (seenOf (l.take j) ++ p.an.take (k + 1)) (p.an.drop (k + 1))) (chkB (seenOf (l.take (j + 1))) p.g (l.drop (j + 1)))) := by
            rw [hr.out, drop_get ha, anE, HTK.out, List.append_assoc]; rfl
          clear hr
          go_wp2_with fail
          refine (r3name_any (B a) _ (by rw [B_size]; omega)).mono ?_
          rintro e w1 ⟨rfl, rfl⟩
          rw [B_data]
          cases h1 : nm3 a
          · have HX : Hid (chkB [] 0 l = 6) := by rw [HE.out, h1]; rfl
            clear HE
            go_wp2
            go_ret
            exact ⟨ret_int HX.out.symm, hbw⟩
          by_cases hs : a ∈ seenOf (l.take j) ++ p.an.take k
          · have HX : Hid (chkB [] 0 l = 7) := by rw [HE.out, h1, if_neg (by decide), if_pos hs]; rfl
            have HH := Lib.hid (has_any S m cs (seenOf (l.take j) ++ p.an.take k) a wr (Rd.of_own hnm.out) (by omega))
            have hd : decide (a ∈ seenOf (l.take j) ++ p.an.take k) = true := by simpa using hs
            rw [hd] at HH
            clear HE hd hs h1
            go_wp2_with fail
            refine HH.out.mono ?_
            rintro e w1 ⟨rfl, rfl⟩
            go_wp2
            go_ret
            exact ⟨ret_int HX.out.symm, hbw⟩
          · have HX : Hid (chkB [] 0 l = anK (anE (seenOf (l.take j) ++ p.an.take (k + 1)) (p.an.drop (k + 1))) (chkB (seenOf (l.take (j + 1))) p.g (l.drop (j + 1)))) := by
              rw [HE.out, h1, if_neg (by decide), if_neg hs]; rfl
            have HH := Lib.hid (has_any S m cs (seenOf (l.take j) ++ p.an.take k) a wr (Rd.of_own hnm.out) (by omega))
            have hd : decide (a ∈ seenOf (l.take j) ++ p.an.take k) = false := by simpa using hs
            rw [hd] at HH
            clear HE hd hs h1
            go_wp2_with fail
            refine HH.out.mono ?_
            rintro e w1 ⟨rfl, rfl⟩
            go_wp2_with (at_builtin; refine wpList_app rfl _ _ 43 rfl 9 (.string ⟨#[]⟩) 1 16 Tryd.underlying43 Tryd.info9 rfl (by decide) wr [.string (B a)] rfl ?c1 w.heap.size _ _ _ hnm.out rfl rfl ?c2 (by decide) hsz ?_)
            case c1 => intro u hu; simp at hu; subst hu; rfl
            case c2 => omega
            intro v' w1 ho hg1 hb1
            obtain ⟨S2, cs2, rfl, _⟩ := own_form ho
            have hb3 := hbw.trans hb1
            have HN3 : Hid (w1.ownsRow w.heap.size 9 1 (.slice S2 (m + 1) cs2) (m + 1) (strs (seenOf (l.take j) ++ p.an.take (k + 1)))) := by
              have e : strs (seenOf (l.take j) ++ p.an.take k) ++ [.string (B a)] = strs (seenOf (l.take j) ++ p.an.take (k + 1)) := by rw [HTK.out]; simp [strs]
              rw [e] at ho; exact ho
            clear ho hg1 hb1 hnm
            go_wp2
            go_roundw
            case rel => exact ⟨k + 1, S2, m + 1, cs2, by omega, by go_num, rfl, hb3, HN3, by omega, HX⟩
            case measure => simp [intOf]; omega
        · have e : k = p.na := by omega
          have HX : Hid (chkB [] 0 l = chkB (seenOf (l.take (j + 1))) p.g (l.drop (j + 1))) := by
            have h := hr.out
            rw [List.drop_of_length_le (by rw [HNA.out]; omega)] at h
            rw [h, anE]; rfl
          have HN2 : Hid (wr.ownsRow w.heap.size 9 1 (.slice S m cs) m (strs (seenOf (l.take (j + 1))))) := by
            have h := hnm.out
            rw [List.take_of_length_le (l := p.an) (by rw [HNA.out]; omega)] at h
            rw [HST.out]; exact h
          clear hnm hr
          go_wp2
          go_roundw
          case rel => exact ⟨j + 1, p.g, S, m, cs, by omega, by go_num, rfl, rfl, hbw, HN2, by omega, HX⟩
          case measure => simp [intOf]; omega
    · have HX : Hid (chkB [] 0 l = 0) := by rw [hr.out, List.drop_of_length_le (by rw [HL.out]; omega)]; rfl
      go_wp2
      go_ret
      exact ⟨ret_int HX.out.symm, hbw⟩
end Go.Proofs.YtpgpkgpiengmkaaDoor
