/-
  Layer 28 (locale): the page's examples.
-/
import Derived.Test.YtkndgkiglaacnaaDoorLocC
import Derived.Test.YtkndgkiglaacnaaDoorLocE
import Derived.Test.YtkndgkiglaacnaaDoorLocF
import Derived.Test.YtkndgkiglaacnaaDoorLocHes
namespace Go.Proofs.YtkndgkiglaacnaaDoor
set_option linter.unusedSimpArgs false
open Go.RowKit
set_option linter.unusedVariables false
attribute [local go_sem] B_data B_size

theorem ls_ext {xs ys : List (List UInt8)} (hl : xs.length = ys.length) (h : ∀ j, j < xs.length → xs.getD j [] = ys.getD j []) : xs = ys := by
  apply List.ext_getElem hl
  intro i h1 h2
  have := h i h1
  simpa [h1, h2] using this
theorem ret_ls_true {xs ys : List (List UInt8)} (h : xs = ys) : Ending.returned (.bool true) = .returned (.bool (xs == ys)) := by simp [h]
theorem ret_ls_false {xs ys : List (List UInt8)} (h : xs ≠ ys) : Ending.returned (.bool false) = .returned (.bool (xs == ys)) := by
  have : (xs == ys) = false := by simpa using h
  rw [this]
set_option maxHeartbeats 1000000 in
theorem texts_any (A A' : Option Addr) (n n' c c' : Nat) (xs ys : List (List UInt8)) (w : World) (M : Nat) (hx : Rd w M 1 A n (strs xs)) (hy : Rd w M 1 A' n' (strs ys)) (hn : n ≤ 1000000) (hn' : n' ≤ 1000000) :
    Calls Tryd.prog 29 #[.slice A n c, .slice A' n' c'] w fun e w' => e = .returned (.bool (xs == ys)) ∧ ∃ q, w' = w.drewN q := by
  have lx := hx.strs_length
  have ly := hy.strs_length
  by_cases he : n = n'
  · subst he
    have HL := Lib.hid (And.intro lx ly); clear lx ly
    have hne : ((n : Int) != (n : Int)) = false := by simp
    go_enter Tryd.func29, Tryd.ntmps29
    go_wp2
    go_loopw [5] (fun i wr => ∃ k q : Nat, k ≤ n ∧ i = .int .i64 k ∧ wr = w.drewN q ∧ Hid (∀ j, j < k → xs.getD j [] = ys.getD j [])) (fun i _ => n - (intOf i).toNat)
    case atStart => exact ⟨0, 0, Nat.zero_le _, rfl, rfl, fun j h => absurd h (by omega)⟩
    case round =>
      obtain ⟨k, q, hk, rfl, rfl, hr⟩ := hrel
      by_cases hlt : k < n
      · obtain ⟨b, o, rfl, hm, h0⟩ := rd_strb hx hlt
        obtain ⟨b', o', rfl, hm', h0'⟩ := rd_strb hy hlt
        generalize hf : xs.getD k [] = f at h0
        generalize hg : ys.getD k [] = g at h0'
        have HFG := Lib.hid (And.intro hf hg); clear hf hg
        have hd1 : decide (k < n) = true := by simpa using hlt
        by_cases hfg : f = g
        · have eb : (!(f == g)) = false := by simp [hfg]
          have HN := Lib.hid hfg
          clear hfg
          go_wp2
          go_quiet (fail)
          go_wp2
          go_roundw
          case rel =>
            refine ⟨k + 1, _, by omega, by go_num, rfl, fun j hj => ?_⟩
            by_cases e : j = k
            · rw [e, HFG.out.1, HFG.out.2, HN.out]
            · exact hr.out j (by omega)
          case measure => simp [intOf]; omega
        · have eb : (!(f == g)) = true := by simpa using hfg
          have HN := Lib.hid hfg
          clear hfg
          go_wp2
          go_quiet (fail)
          go_wp2
          go_ret
          exact ⟨ret_ls_false (fun e => HN.out (by rw [← HFG.out.1, ← HFG.out.2, e])), _, World.drewN_drewN ..⟩
      · have hd1 : decide (k < n) = false := by simpa using hlt
        go_wp2
        go_ret
        exact ⟨ret_ls_true (ls_ext (by rw [HL.out.1, HL.out.2]) (fun j hj => hr.out j (by have := HL.out.1; omega))), _, rfl⟩
  · have hne : ((n : Int) != (n' : Int)) = true := by simp; omega
    go_enter Tryd.func29, Tryd.ntmps29
    go_wp2
    go_ret
    exact ⟨ret_ls_false (fun e => he (by rw [← lx, ← ly, e])), 0, rfl⟩

theorem d1 : Lib.decDigits 1 = [49] := dec_small 1 (by omega)
theorem d3 : Lib.decDigits 3 = [51] := dec_small 3 (by omega)
theorem d5 : Lib.decDigits 5 = [53] := dec_small 5 (by omega)
theorem d112 : Lib.decDigits 112 = [49, 49, 50] := by rw [dec_big 112 (by omega), dec_big (112 / 10) (by omega), dec_small (112 / 10 / 10) (by omega)]; rfl
theorem d121 : Lib.decDigits 121 = [49, 50, 49] := by rw [dec_big 121 (by omega), dec_big (121 / 10) (by omega), dec_small (121 / 10 / 10) (by omega)]; rfl
theorem d2001 : Lib.decDigits 2001 = [50, 48, 48, 49] := by rw [dec_big 2001 (by omega), dec_big (2001 / 10) (by omega), dec_big (2001 / 10 / 10) (by omega), dec_small (2001 / 10 / 10 / 10) (by omega)]; rfl
theorem ex1 : TermRet [100, 101] [112, 97, 103, 101] 2 = .returned (.tuple #[.string (B [83, 101, 105, 116, 101, 110]), .bool true]) := by kernel_rfl
theorem ex2 : TermRet [120, 120] [112, 97, 103, 101] 2 = .returned (.tuple #[.string (B []), .bool false]) := by kernel_rfl
theorem ex3 : OrdRet [101, 110] 112 = .returned (.tuple #[.string (B [49, 49, 50, 116, 104]), .int .i64 0]) := by
  have := ord_some (l := [101, 110]) (n := 112) rfl (by omega) (by omega)
  rw [d112] at this
  exact this.trans (by kernel_rfl)
theorem ex4 : OrdRet [101, 110] 121 = .returned (.tuple #[.string (B [49, 50, 49, 115, 116]), .int .i64 0]) := by
  have := ord_some (l := [101, 110]) (n := 121) rfl (by omega) (by omega)
  rw [d121] at this
  exact this.trans (by kernel_rfl)
theorem ex5 : DateRet [102, 114] 2001 3 1 = .returned (.tuple #[.string (B [49, 101, 114, 32, 109, 97, 114, 115, 32, 50, 48, 48, 49]), .int .i64 0]) := by
  have := date_some (l := [102, 114]) (y := 2001) (m := 3) (d := 1) rfl (by kernel_rfl)
  rw [show dateL (lang4 [102, 114]) 2001 3 1 = [49, 101, 114] ++ [32] ++ monL 2 3 ++ [32] ++ Lib.decDigits 2001 from rfl, d2001] at this
  exact this.trans (by kernel_rfl)
theorem ex6 : DateRet [101, 110] 2001 3 5 = .returned (.tuple #[.string (B [77, 97, 114, 99, 104, 32, 53, 44, 32, 50, 48, 48, 49]), .int .i64 0]) := by
  have := date_some (l := [101, 110]) (y := 2001) (m := 3) (d := 5) rfl (by kernel_rfl)
  rw [show dateL (lang4 [101, 110]) 2001 3 5 = monL 0 3 ++ [32] ++ Lib.decDigits 5 ++ [44, 32] ++ Lib.decDigits 2001 from rfl, d2001, d5] at this
  exact this.trans (by kernel_rfl)
theorem ex7 : DateRet [101, 110] 2001 2 29 = .returned (.tuple #[.string (B []), .int .i64 9]) := date_out rfl (by kernel_rfl)
theorem ex8 : RomRet 1994 = .returned (.tuple #[.string (B [109, 99, 109, 120, 99, 105, 118]), .int .i64 0]) := by kernel_rfl
theorem ex9 : (digT ++ letK true 26).length = 37 ∧ (digT ++ letK true 26).getD 24 [] = [195, 177, 195, 145] := by constructor <;> kernel_rfl
theorem ex10 : listL [101, 110] [[97], [98], [99]] = [97, 44, 32, 98, 32, 97, 110, 100, 32, 99] := by kernel_rfl
def langL : List (List UInt8) := [[101, 110], [100, 101], [102, 114], [101, 115]]
theorem rd_cells (w : World) (C : Array Value) (L : List (List UInt8)) (n : Nat) (h : C.toList = strs L) (hn : L.length = n) : Rd (w.alloc (.cells C 9)) (w.alloc (.cells C 9)).heap.size 1 (some ⟨w.heap.size, 0, none⟩) n (strs L) := by
  refine ⟨by rw [strs_len, hn, Nat.mul_one], fun _ => ⟨_, rfl, by simp, fun j u hj => ?_⟩⟩
  rw [addr_lit, cell_of_row _ w.heap.size _ C 9 (0, 0) (heap_alloc_new w _)]
  rw [← h] at hj
  simpa using hj

set_option maxHeartbeats 8000000 in
set_option maxRecDepth 100000 in
theorem awake_any (w : World) (hG : GlobL w) : Calls Tryd.prog 12 #[] w fun e w' => e = .returned (.bool true) ∧ Below w.heap.size w w' := by
  go_enter Tryd.func12, Tryd.ntmps12
  go_wp2_with fail
  have C := term_any [100, 101] [112, 97, 103, 101] 2 w
  rw [ex1] at C
  refine C.mono ?_
  rintro e w1 ⟨rfl, hb1⟩
  clear C
  go_wp2_with fail
  have C := term_any [120, 120] [112, 97, 103, 101] 2 w1
  rw [ex2] at C
  refine C.mono ?_
  rintro e w2 ⟨rfl, hb2'⟩
  have hb2 := hb1.trans (hb2'.mono hb1.size)
  clear C hb1 hb2'
  have hG2 := hG.below hb2
  go_wp2_with fail
  have C := ordinal_any [101, 110] 112 w2 hG2
  rw [ex3] at C
  refine C.mono ?_
  rintro e w3 ⟨rfl, hb3'⟩
  have hb3 := hb2.trans (hb3'.mono hb2.size)
  clear C hb2 hb3' hG2
  have hG3 := hG.below hb3
  go_wp2_with fail
  have C := ordinal_any [101, 110] 121 w3 hG3
  rw [ex4] at C
  refine C.mono ?_
  rintro e w4 ⟨rfl, hb4'⟩
  have hb4 := hb3.trans (hb4'.mono hb3.size)
  clear C hb3 hb4' hG3
  have hG4 := hG.below hb4
  go_wp2_with fail
  have C := date_any [102, 114] 2001 3 1 w4 hG4
  rw [ex5] at C
  refine C.mono ?_
  rintro e w5 ⟨rfl, hb5'⟩
  have hb5 := hb4.trans (hb5'.mono hb4.size)
  clear C hb4 hb5' hG4
  have hG5 := hG.below hb5
  go_wp2_with fail
  have C := date_any [101, 110] 2001 3 5 w5 hG5
  rw [ex6] at C
  refine C.mono ?_
  rintro e w6 ⟨rfl, hb6'⟩
  have hb6 := hb5.trans (hb6'.mono hb5.size)
  clear C hb5 hb6' hG5
  have hG6 := hG.below hb6
  go_wp2_with fail
  have C := date_any [101, 110] 2001 2 29 w6 hG6
  rw [ex7] at C
  refine C.mono ?_
  rintro e w7 ⟨rfl, hb7'⟩
  have hb7 := hb6.trans (hb7'.mono hb6.size)
  clear C hb6 hb7' hG6
  go_wp2_with fail
  have C := roman_any 1994 w7
  rw [ex8] at C
  refine C.mono ?_
  rintro e w8 ⟨rfl, hb8'⟩
  have hb8 := hb7.trans (hb8'.mono hb7.size)
  clear C hb7 hb8'
  have hG8 := hG.below hb8
  go_wp2_with fail
  refine (coll_es w8 hG8).mono ?_
  rintro e w9 ⟨⟨A, n, c, A2, n2, c2, rfl, hr, _⟩, hb9'⟩
  have hb9 := hb8.trans (hb9'.mono hb8.size)
  clear hb8 hb9' hG8
  obtain rfl : 37 = n := by rw [← hr.strs_length]; exact ex9.1.symm
  have hE := ex9.2
  obtain ⟨b, o, rfl, hbm, hc24⟩ := rd_strb hr (k := 24) (by omega)
  rw [hE] at hc24
  clear hE hr
  obtain ⟨wa, hwa⟩ : ∃ wa, wa = w9.alloc (.cells #[.slice A2 n2 c2, .slice (some ⟨b, o, none⟩) 37 c, .string ⟨#[]⟩] 42) := ⟨_, rfl⟩
  have hba : Below w.heap.size w wa := by rw [hwa]; exact hb9.alloc hb9.size _
  have q1 : wa.cell? ⟨w9.heap.size, 1, none⟩ = some (.slice (some ⟨b, o, none⟩) 37 c) := by rw [hwa]; simp
  have q2 : wa.cell? ⟨b, o + 24, none⟩ = some (.string (B [195, 177, 195, 145])) := by rw [hwa, World.cell?_alloc_lt _ _ _ hbm]; exact hc24
  have l1 : w9.heap.size < wa.heap.size := by rw [hwa]; simp
  have l2 : b < wa.heap.size := by omega
  have HWA := Lib.hid hwa
  clear hwa hc24
  go_wp2_with fail
  change Calls _ _ _ (w9.alloc (.cells #[.slice A2 n2 c2, .slice (some ⟨b, o, none⟩) 37 c, .string ⟨#[]⟩] 42)) _
  rw [← HWA.out]
  clear HWA
  refine (langs_any wa).mono ?_
  rintro e wb ⟨rfl, hwb⟩
  have hrb := rd_cells wa langC langL 4 rfl rfl
  rw [hwb] at hrb
  have hbb' : Below wa.heap.size wa wb := by rw [← hwb]; exact below_alloc _ _
  clear hwb
  have hrd := rd_cells wb langC langL 4 rfl rfl
  have hre := (hrb.below (below_alloc wb (.cells langC 9))).more (below_alloc wb (.cells langC 9)).size
  have HT := Lib.hid (texts_any _ _ 4 4 4 4 langL langL _ _ hre hrd (by omega) (by omega))
  rw [show (langL == langL) = true from by kernel_rfl] at HT
  have hbd' := hbb'.trans ((below_alloc wb (.cells langC 9)).mono hbb'.size)
  clear hrb hrd hre
  have HT2 := Lib.hid (HT.out.mono (fun e w' h => And.intro h.1 (show Below (wb.alloc (.cells langC 9)).heap.size (wb.alloc (.cells langC 9)) w' from by obtain ⟨_, q, rfl⟩ := h; exact below_of_drewN _ _ _)))
  clear HT
  go_wp2_with fail
  refine HT2.out.mono ?_
  rintro e wd ⟨rfl, hbd2⟩
  have hbe' : Below wa.heap.size wa wd := hbd'.trans (hbd2.mono hbd'.size)
  have hbe : Below w.heap.size w wd := hba.trans (hbe'.mono hba.size)
  have q1d : wd.cell? ⟨w9.heap.size, 1, none⟩ = some (.slice (some ⟨b, o, none⟩) 37 c) := by rw [hbe'.cell (p := ⟨w9.heap.size, 1, none⟩) l1]; exact q1
  have q2d : wd.cell? ⟨b, o + 24, none⟩ = some (.string (B [195, 177, 195, 145])) := by rw [hbe'.cell (p := ⟨b, o + 24, none⟩) l2]; exact q2
  have l1d : w9.heap.size < wd.heap.size := Nat.lt_of_lt_of_le l1 hbe'.size
  have l2d : b < wd.heap.size := Nat.lt_of_lt_of_le l2 hbe'.size
  clear HT2 hbd2 hbd' hbb' q1 q2 l1 l2 hba
  have hrl := rd_cells wd #[.string ⟨#[97]⟩, .string ⟨#[98]⟩, .string ⟨#[99]⟩] [[97], [98], [99]] 3 rfl rfl
  have C := list_any [101, 110] _ 3 3 [[97], [98], [99]] _ hrl (by omega) (by omega) (by decide)
  rw [ex10] at C
  have HC := Lib.hid C
  have hbf' := below_alloc wd (.cells #[.string ⟨#[97]⟩, .string ⟨#[98]⟩, .string ⟨#[99]⟩] 9)
  clear C hrl
  go_wp2_with fail
  refine HC.out.mono ?_
  rintro e we ⟨rfl, hbg2⟩
  have hbg' : Below wd.heap.size wd we := hbf'.trans (hbg2.mono hbf'.size)
  have q1e : we.cell? ⟨w9.heap.size, 1, none⟩ = some (.slice (some ⟨b, o, none⟩) 37 c) := by rw [hbg'.cell (p := ⟨w9.heap.size, 1, none⟩) l1d]; exact q1d
  have q2e : we.cell? ⟨b, o + 24, none⟩ = some (.string (B [195, 177, 195, 145])) := by rw [hbg'.cell (p := ⟨b, o + 24, none⟩) l2d]; exact q2d
  have hbf := hbe.trans (hbg'.mono hbe.size)
  clear HC hbg2 hbf' q1d q2d
  go_wp2
  go_ret
  exact ⟨rfl, hbf⟩
end Go.Proofs.YtkndgkiglaacnaaDoor
