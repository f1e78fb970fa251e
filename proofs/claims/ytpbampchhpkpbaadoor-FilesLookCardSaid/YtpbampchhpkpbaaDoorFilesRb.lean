/-
  Layer 16 (files): the chapter's Drop.
-/
import Derived.Test.YtpbampchhpkpbaaDoorFilesRa
import Derived.Deep.RegionLaw
namespace Go.Proofs.YtpbampchhpkpbaaDoor
open Go.RowKit
set_option linter.unusedVariables false
set_option linter.unusedSimpArgs false
attribute [local go_sem] B_data B_size

set_option maxHeartbeats 4000000 in
set_option maxRecDepth 100000 in
theorem rdrop_any (A : Option Addr) (n c : Nat) (fs : List (List UInt8 × List UInt8)) (name : ByteArray) (w : World) (hx : Rd w w.heap.size 2 A n (fls fs)) (hn : n ≤ 900000) (hnc : n ≤ c) :
    Calls Tryd.prog 29 #[.slice A n c, .string name] w fun e w' => ∃ v, e = .returned v ∧ Lst w' v (dropL fs name.toList) ∧ Below w.heap.size w w' := by
  have HL := Lib.hid hx.fls_length
  have HC := Lib.hid (rfind_any A n c fs name w hx (by omega))
  rcases findL_cases name.toList fs 0 with h | ⟨k, hk, h, hnm⟩
  · have HS : Hid (dropL fs name.toList = fs) := by unfold dropL; rw [if_pos (by omega)]; rfl
    rw [h] at HC
    clear h
    go_enter Tryd.func29, Tryd.ntmps29
    go_wp2_with fail
    refine HC.out.mono ?_
    rintro e w3 ⟨rfl, hb3⟩
    go_wp2
    go_ret
    refine ⟨_, rfl, ?_, hb3⟩
    rw [HS.out]
    exact ⟨_, _, _, rfl, hnc, (hx.below hb3).more hb3.size⟩
  · have hkn : k < n := by rw [← HL.out]; exact hk
    have HS : Hid (dropL fs name.toList = fs.take k ++ fs.drop (k + 1)) := by unfold dropL; rw [h, if_neg (by omega)]; simp [Hid]
    rw [h] at HC
    have e0 : ((0 : Nat) : Int) + (k : Int) = (k : Int) := by omega
    simp only [Int.natCast_add, e0] at HC
    clear h hnm e0 hk
    go_enter Tryd.func29, Tryd.ntmps29
    go_wp2_with fail
    refine HC.out.mono ?_
    rintro e w3 ⟨rfl, hb3⟩
    have hs3 := hb3.size
    obtain ⟨b, o, rfl, hm, _, _⟩ := hx.file hkn
    have hd : decide ((k : Int) < 0) = false := by simp
    have HXT := Lib.hid (fun (W : World) (hb : Below w.heap.size w W) => (by have := (hx.below hb).take (k := k) (by omega); rwa [fls_take] at this : Rd W w.heap.size 2 (some ⟨b, o, none⟩) k (fls (fs.take k))))
    have HXD := Lib.hid (fun (W : World) (hb : Below w.heap.size w W) => (by have := (hx.below hb).cut (k := k + 1) (by omega) hnc; rw [fls_drop] at this; simpa only [Option.map_some, addr_lit] using this : Rd W w.heap.size 2 (if c = k + 1 then some ⟨b, o, none⟩ else some ⟨b, o + (k + 1) * 2, none⟩) (n - (k + 1)) (fls (fs.drop (k + 1)))))
    clear HC hx
    go_upto_region 4 with fail
    have hw1 : IntKind.i64.wrap ((k : Int) + 1) = (k : Int) + 1 := IntWalk.i64_in _ (by omega)
    have hw2 : ((k : Int) + 1).toNat = k + 1 := by omega
    have hw3 : (0 : Int) ≤ (k : Int) + 1 := by omega
    have hw4 : (k : Int) + 1 ≤ (n : Int) := by omega
    have hw5 : (k : Int) ≤ (n : Int) := by omega
    have hw6 : (0 : Int) ≤ (k : Int) := by omega
    have hw7 : k ≤ c := by omega
    go_region_law
      (first
        | (refine step_appF (by rfl) (.tmp 12) (.tmp 15) (by rfl) _ w3.heap.size w.heap.size _ 0 [] (by first | exact lit_own w3.drew w3.heap.size (Nat.le_refl _) | exact (lit_own w3 w3.heap.size (Nat.le_refl _)).drew) _ k _ (fs.take k) (HXT.out _ (by first | exact hb3.drew.alloc hs3 _ | exact (hb3.alloc hs3 _).drew)) (by omega) (by omega) (by simp) (by rfl) (by rfl) ?_; intro A5 c5 w5 ho5 hb5 _; simp only [Nat.zero_add, List.nil_append] at ho5; have hB5 := Lib.hid (Below.trans (by first | exact hb3.drew.alloc hs3 _ | exact (hb3.alloc hs3 _).drew) (hb5.mono hs3)); have hs5 : w3.heap.size ≤ w5.heap.size := by have := hb5.size; simp at this; omega)
        | (refine step_appF (by rfl) (.tmp 16) (.tmp 20) (by rfl) _ w3.heap.size w.heap.size (.slice A5 k c5) k (fs.take k) (by first | exact ho5 | exact ho5.drew) _ _ _ (fs.drop (k + 1)) (HXD.out _ (by first | exact hB5.out | exact hB5.out.drew)) (by omega) (by omega) (by first | exact hs5 | (simp; omega)) (by rfl) (by rfl) ?_; intro A6 c6 w6 ho6 hb6 _; have hB6 := Lib.hid (Below.trans (by first | exact hB5.out | exact hB5.out.drew) (hb6.mono hs3))))
    all_goals (go_wp2)
    all_goals
      go_ret
      refine ⟨_, rfl, ?_, hB6.out⟩
      rw [HS.out]
      exact Lst.of_own (by simpa using ho6)
    done
end Go.Proofs.YtpbampchhpkpbaaDoor
