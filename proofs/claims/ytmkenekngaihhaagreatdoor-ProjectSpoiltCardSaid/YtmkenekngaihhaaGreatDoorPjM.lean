/-
  Layer 49 (project): the names that have occurred.
-/
import Derived.Test.YtmkenekngaihhaaGreatDoorNMap
import Derived.Test.YtmkenekngaihhaaGreatDoorPjA
namespace Go.Proofs.YtmkenekngaihhaaGreatDoor
open Go.RowKit
set_option linter.unusedVariables false
set_option linter.unusedSimpArgs false
attribute [local go_sem] B_data B_size

theorem zeroB (w : World) : (zeroValue 4).run Tryz.prog w = .ok (.bool false) w := by kernel_rfl
theorem add_no (b : Nat) (ks : List (List UInt8)) (k : List UInt8) (w : World) (h : NMap w b ks) (hk : k ∈ ks) :
    Calls Tryz.prog 52 #[.map (some b), .string (B k)] w fun e w' => e = .returned (.bool false) ∧ w = w' := by
  have hl := h.look (T := 44) Tryz.underlying44 Tryz.underlying9 k (zeroB w)
  have hd : decide (k ∈ ks) = true := by simpa using hk
  rw [hd] at hl
  clear hd hk h
  go_enter Tryz.func52, Tryz.ntmps52
  go_wp2
  go_ret
  exact ⟨rfl, rfl⟩
theorem add_yes (b : Nat) (ks : List (List UInt8)) (k : List UInt8) (w : World) (h : NMap w b ks) (hk : k ∉ ks) :
    Calls Tryz.prog 52 #[.map (some b), .string (B k)] w fun e w' => e = .returned (.bool true) ∧ NMap w' b (ks ++ [k]) ∧ w.grownBy w' (some b) := by
  have hl := h.look (T := 44) Tryz.underlying44 Tryz.underlying9 k (zeroB w)
  have hd : decide (k ∈ ks) = false := by simpa using hk
  rw [hd] at hl
  obtain ⟨w1, hp, h1, h2⟩ := h.put (T := 44) Tryz.underlying44 Tryz.underlying9 k hk
  clear hd hk h
  go_enter Tryz.func52, Tryz.ntmps52
  go_wp2
  go_ret
  exact ⟨rfl, h1, h2⟩
theorem grown_new {a b c : World} {row : Option Nat} {r : Nat} (h : a.grownBy b row) (k : b.grownBy c (some r)) (hr : a.heap.size ≤ r) : a.grownBy c row :=
  ⟨k.os.trans h.os, k.tape.trans h.tape, k.output.trans h.output, Nat.le_trans h.size k.size, fun i hi hne => (k.block i (Nat.lt_of_lt_of_le hi h.size) (fun e => by injection e with e; omega)).trans (h.block i hi hne)⟩
theorem forget_any (b : Nat) (ks : List (List UInt8)) (w : World) (h : NMap w b ks) :
    Calls Tryz.prog 22 #[.map (some b)] w fun e w' => e = .returned (.tuple #[]) ∧ NMap w' b [] ∧ w.grownBy w' (some b) := by
  have hlt := h.lt
  obtain ⟨w1, hr, hit, hb1, hz⟩ := h.range (P := Tryz.prog) (T := 44) Tryz.underlying44
  have hg1 := grown_of_below hb1 (some b)
  clear h hb1
  go_enter Tryz.func22, Tryz.ntmps22
  go_wp2
  go_loopw [2] (fun _ wr => ∃ ks', Hid (NIter wr b w.heap.size ks') ∧ Hid (w.grownBy wr (some b))) (fun _ wr => mapLen wr b)
  case atStart => exact ⟨ks, hit, hg1⟩
  case round =>
    obtain ⟨ks', hi, hg⟩ := hrel
    have HL := Lib.hid hi.out.len
    rcases hi.out.next (P := Tryz.prog) (by omega) with ⟨rfl, hn⟩ | ⟨k, w2, hk, hn, hm, hg2, _⟩
    · clear hr hit hg1
      go_wp2
      go_end0
      exact ⟨rfl, hi.out.nmap, hg.out⟩
    · obtain ⟨w3, ks2, hd, hi3, hlen, hg3, _⟩ := hm.delete (P := Tryz.prog) (T := 44) (S := 9) Tryz.underlying44 Tryz.underlying9 (by omega)
      have he := hm.entry (P := Tryz.prog)
      have hg4 := Lib.hid (grown_trans (grown_new hg.out hg2 (Nat.le_refl _)) hg3)
      have hi4 := Lib.hid hi3
      have HM := Lib.hid hi3.len
      clear hr hit hg1 hi hg hm hg2 hg3 hi3 hk
      go_wp2
      go_roundw
      case rel => exact ⟨ks2, hi4, hg4⟩
      case measure => rw [HM.out, HL.out]; exact hlen
end Go.Proofs.YtmkenekngaihhaaGreatDoor
