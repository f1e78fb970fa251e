/-
  Layer 48 (graph), the reference: cyclic.
-/
import Derived.Test.YtbikldmhfaecpaaGrRh
namespace Go.Proofs.Ytbikldmhfaecpaa
open Go.RowKit
set_option linter.unusedVariables false
set_option linter.unusedSimpArgs false
attribute [local go_sem] B_data B_size

/-- a name leads to a cycle -/
def CycV (L : List VM) (a : Nm) : Prop := ∃ s, (s = a ∨ ReP L a s) ∧ ReP L s s
set_option maxHeartbeats 16000000 in
set_option maxRecDepth 100000 in
theorem rcyclic_any {rb c N : Nat} {A : Option Addr} {L : List VM} {w0 : World} {X : Nat → Prop} (a : Nm) (w : World) (h : RG rb A c L N w0 w X) (hl : L.length ≤ 5000) (hnd : ∀ v ∈ L, v.nd.length ≤ 10000) :
    Calls Try.prog 36 #[.pointer (some ⟨rb, 0, none⟩), .string (B a)] w fun e w' => ∃ b : Bool, e = .returned (.bool b) ∧ (b = true ↔ CycV L a) ∧ Below w.heap.size w w' := by
  have H := Lib.hid h
  have HREA := Lib.hid (fun (s : Nm) (W : World) (hW : Below w.heap.size w W) => reach_any s W (h.below hW) hl hnd)
  have HB0 := Lib.hid (below_alloc w (.cells #[.string (B a)] 9))
  have HRO : Hid (TRow (w.alloc (.cells #[.string (B a)] 9)) w.heap.size (.slice (some ⟨w.heap.size, 0, none⟩) 1 1) [a]) := Lib.hid (World.ownsRow_lit w #[.string (B a)] 1 (Nat.le_refl _) (by decide) rfl)
  clear h hl hnd
  go_enter Try.func36, Try.ntmps36
  go_wp2_with fail
  refine (HREA.out a _ HB0.out).mono ?_
  rintro e w1 ⟨v1, out, rfl, ho1, hb1, hout, hol⟩
  obtain ⟨A1, c1, rfl, _⟩ := own_form ho1
  have HB1 := Lib.hid (HB0.out.trans (hb1.mono HB0.out.size))
  have HRO1 := Lib.hid (own_below HRO.out hb1)
  have HRD := Lib.hid (Rd.of_own ho1)
  have HOUT := Lib.hid hout
  obtain ⟨p, hp⟩ : ∃ p, out.length = p := ⟨_, rfl⟩
  rw [hp] at HRD hol ⊢
  have HP := Lib.hid hp
  have hsz := HB1.out.size
  clear ho1 hb1 hout hp
  go_wp2_with (refine wpList_appT rfl (.tmp 8) (.tmp 11) rfl w1 w.heap.size w1.heap.size _ 1 [a] HRO1.out A1 p c1 out HRD.out (by omega) (by omega) hsz rfl rfl ?_)
  intro A2 c2 w2 ho2 hb2 _
  have HB2 := Lib.hid (HB1.out.trans hb2)
  have HO2 : Hid (w2.ownsRow w.heap.size 9 1 (.slice A2 (1 + p) c2) (1 + p) (strs (a :: out))) := Lib.hid ho2
  have HLN : Hid ((a :: out).length = 1 + p) := Lib.hid (by rw [List.length_cons, HP.out]; omega)
  clear ho2 hb2 HRO1 HRD HRO hsz
  obtain ⟨q, hq⟩ : ∃ q, 1 + p = q := ⟨_, rfl⟩
  rw [hq] at HO2 HLN ⊢
  have hqb : q ≤ 50000001 := by omega
  clear hq
  go_wp2
  go_loopw [6, 14] (fun _ v14 wr => ∃ j : Nat, v14 = .int .i64 j ∧ j ≤ q ∧ Below w.heap.size w wr ∧ wr.ownsRow w.heap.size 9 1 (.slice A2 q c2) q (strs (a :: out)) ∧ Hid (∀ s ∈ (a :: out).take j, ¬ ReP L s s)) (fun _ j _ => q - (intOf j).toNat)
  case atStart => exact ⟨0, rfl, Nat.zero_le _, HB2.out, HO2.out, Lib.hid (fun s hs => by simp at hs)⟩
  case round =>
    obtain ⟨j, rfl, hj, hbw, ho, hno⟩ := hrel
    by_cases hlt : j < q
    · obtain ⟨s, hs⟩ := get_of (l := a :: out) (k := j) (by rw [HLN.out]; exact hlt)
      obtain ⟨g, o, rfl, hg, c0⟩ := (Rd.of_own ho).strk hs
      have i1 : (0 : Int) ≤ (j : Int) := by omega
      have i2 : (j : Int) < (q : Int) := by omega
      have HR := Lib.hid (HREA.out s wr hbw)
      have HBW := Lib.hid hbw
      have HO := Lib.hid ho
      have HS := Lib.hid hs
      have HNO := Lib.hid hno.out
      clear hbw ho hs hno
      go_wp2_with fail
      refine HR.out.mono ?_
      rintro e w3 ⟨v3, ot, rfl, ho3, hb3, hot, hol3⟩
      obtain ⟨A3, c3, rfl, _⟩ := own_form ho3
      have HNE := Lib.hid (needs_any A3 ot.length c3 ot s w3 (Rd.of_own ho3) (by omega))
      have HB3 := Lib.hid (HBW.out.trans (hb3.mono HBW.out.size))
      have HO3 := Lib.hid (own_below HO.out hb3)
      by_cases hc : s ∈ ot
      · have x1 : decide (s ∈ ot) = true := decide_eq_true hc
        rw [x1] at HNE
        have HCY : Hid (CycV L a) := Lib.hid ⟨s, by
          rcases List.mem_cons.1 (List.mem_of_getElem? HS.out) with h | h
          · exact .inl h
          · exact .inr ((HOUT.out s).1 h), (hot s).1 hc⟩
        clear hc x1 ho3 hb3 hot hol3
        go_wp2_with fail
        refine HNE.out.mono ?_
        rintro e wx ⟨rfl, rfl⟩
        go_wp2
        go_ret
        exact ⟨true, rfl, ⟨fun _ => HCY.out, fun _ => rfl⟩, HB3.out⟩
      · have x1 : decide (s ∈ ot) = false := decide_eq_false hc
        rw [x1] at HNE
        have HNX : Hid (∀ x ∈ (a :: out).take (j + 1), ¬ ReP L x x) := Lib.hid (all_take HNO.out (fun h => hc ((hot s).2 h)) HS.out)
        clear hc x1 ho3 hb3 hot hol3
        go_wp2_with fail
        refine HNE.out.mono ?_
        rintro e wx ⟨rfl, rfl⟩
        go_wp2
        go_roundw
        case rel => exact ⟨j + 1, by go_num, by omega, HB3.out, HO3.out, HNX⟩
        case measure => simp [intOf]; omega
    · obtain rfl : j = q := by omega
      have HN : Hid (¬ CycV L a) := Lib.hid (by
        rintro ⟨s, hs, hc⟩
        have h := hno.out
        rw [List.take_of_length_le (by rw [HLN.out]; exact Nat.le_refl _)] at h
        refine h s ?_ hc
        rcases hs with hs | hs
        · rw [hs]; exact List.mem_cons_self
        · exact List.mem_cons_of_mem _ ((HOUT.out s).2 hs))
      have HBW := Lib.hid hbw
      clear hbw ho hno
      go_wp2
      go_ret
      exact ⟨false, rfl, ⟨fun h => Bool.noConfusion h, fun h => absurd h HN.out⟩, HBW.out⟩
end Go.Proofs.Ytbikldmhfaecpaa
