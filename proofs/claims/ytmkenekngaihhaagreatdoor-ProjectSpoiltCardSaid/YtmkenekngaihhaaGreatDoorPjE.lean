/-
  Layer 49 (project): the errors of a project.
-/
import Derived.Test.YtmkenekngaihhaaGreatDoorPjD
namespace Go.Proofs.YtmkenekngaihhaaGreatDoor
open Go.RowKit
set_option linter.unusedVariables false
set_option linter.unusedSimpArgs false
attribute [local go_sem] B_data B_size

def Bx8 (w : World) (b : Nat) (p : Pj) (c : PC) : Prop := w.heap[b]? = some (.cells #[.string (B p.ti), .string (B p.la), .string (B p.ma), .string (B p.so), .string (B p.st), .slice c.A c.na c.ca, .slice c.F c.nf c.cf, .slice c.T c.nt c.ct] 26 (0, 0))
theorem Bx8.new (w : World) (p : Pj) (c : PC) : Bx8 (w.alloc (.cells #[.string (B p.ti), .string (B p.la), .string (B p.ma), .string (B p.so), .string (B p.st), .slice c.A c.na c.ca, .slice c.F c.nf c.cf, .slice c.T c.nt c.ct] 26)) w.heap.size p c := heap_alloc_new w _
theorem Bx8.lt {w : World} {b : Nat} {p : Pj} {c : PC} (h : Bx8 w b p c) : b < w.heap.size := (Array.getElem?_eq_some_iff.1 h).1
theorem Bx8.below {w w' : World} {b M : Nat} {p : Pj} {c : PC} (h : Bx8 w b p c) (hb : Below M w w') (hM : b < M) : Bx8 w' b p c := (hb.block b hM).trans h
theorem Bx8.alloc {w : World} {b : Nat} {p : Pj} {c : PC} (h : Bx8 w b p c) (o : Obj) : Bx8 (w.alloc o) b p c := h.below (below_alloc w o) h.lt
theorem Bx8.grown {w w' : World} {b row : Nat} {p : Pj} {c : PC} (h : Bx8 w b p c) (hg : w.grownBy w' (some row)) (hne : b ≠ row) : Bx8 w' b p c := (hg.block b h.lt (fun e => hne (Option.some.inj e))).trans h
theorem Bx8.c0 {w : World} {b : Nat} {p : Pj} {c : PC} (h : Bx8 w b p c) : w.cell? ⟨b, 0, none⟩ = some (.string (B p.ti)) := by unfold Bx8 at h; simp [World.cell?, h]
theorem Bx8.c1 {w : World} {b : Nat} {p : Pj} {c : PC} (h : Bx8 w b p c) : w.cell? ⟨b, 1, none⟩ = some (.string (B p.la)) := by unfold Bx8 at h; simp [World.cell?, h]
theorem Bx8.c2 {w : World} {b : Nat} {p : Pj} {c : PC} (h : Bx8 w b p c) : w.cell? ⟨b, 2, none⟩ = some (.string (B p.ma)) := by unfold Bx8 at h; simp [World.cell?, h]
theorem Bx8.c3 {w : World} {b : Nat} {p : Pj} {c : PC} (h : Bx8 w b p c) : w.cell? ⟨b, 3, none⟩ = some (.string (B p.so)) := by unfold Bx8 at h; simp [World.cell?, h]
theorem Bx8.c4 {w : World} {b : Nat} {p : Pj} {c : PC} (h : Bx8 w b p c) : w.cell? ⟨b, 4, none⟩ = some (.string (B p.st)) := by unfold Bx8 at h; simp [World.cell?, h]
theorem Bx8.c5 {w : World} {b : Nat} {p : Pj} {c : PC} (h : Bx8 w b p c) : w.cell? ⟨b, 5, none⟩ = some (.slice c.A c.na c.ca) := by unfold Bx8 at h; simp [World.cell?, h]
theorem Bx8.c6 {w : World} {b : Nat} {p : Pj} {c : PC} (h : Bx8 w b p c) : w.cell? ⟨b, 6, none⟩ = some (.slice c.F c.nf c.cf) := by unfold Bx8 at h; simp [World.cell?, h]
theorem Bx8.c7 {w : World} {b : Nat} {p : Pj} {c : PC} (h : Bx8 w b p c) : w.cell? ⟨b, 7, none⟩ = some (.slice c.T c.nt c.ct) := by unfold Bx8 at h; simp [World.cell?, h]
def langL : List (List UInt8) := [[101, 110], [100, 101], [102, 114], [101, 115]]
def knownB (l : List UInt8) (k : Nat) : Bool := (langL.take k).contains l
theorem known_succ (l : List UInt8) (k : Nat) (h : k < 4) : knownB l (k + 1) = (knownB l k || (langL.getD k [] == l)) := by
  unfold knownB
  have e : langL.take (k + 1) = langL.take k ++ [langL.getD k []] := take_getD (l := langL) h
  rw [e, List.contains_eq_any_beq, List.contains_eq_any_beq, List.any_append]
  simp only [List.any_cons, List.any_nil, Bool.or_false]
  congr 1
  rw [Bool.eq_iff_iff, beq_iff_eq, beq_iff_eq]
  exact ⟨fun h => h.symm, fun h => h.symm⟩
theorem known_all (l : List UInt8) : knownB l 4 = langB l := by
  unfold knownB langB langL
  rw [Bool.eq_iff_iff]
  simp [or_assoc]
theorem langs_rd (w : World) : Rd (w.alloc (.cells langC 9)) (w.alloc (.cells langC 9)).heap.size 1 (some ⟨w.heap.size, 0, none⟩) 4 (strs langL) := by
  refine ⟨rfl, fun _ => ⟨_, rfl, by simp, fun j u hj => ?_⟩⟩
  rw [addr_lit, Nat.zero_add, cell_of_row _ w.heap.size j langC 9 (0, 0) (heap_alloc_new w _)]
  have : langC = (strs langL).toArray := rfl
  rw [this]; simpa using hj
theorem head17 {p : Pj} (h : trimB p.ti = false) : headE pkG p = 17 := by unfold headE; exact if_pos h
theorem head6 {p : Pj} (h : trimB p.ti = true) (h2 : langB p.la = false ∨ pathB p.ma = false ∨ (p.so ≠ [] ∧ pathB p.so = false) ∨ (p.st ≠ [] ∧ pathB p.st = false)) : headE pkG p = 6 := by
  unfold headE; rw [if_neg (by show ¬ trimB p.ti = false; simp [h])]; exact if_pos h2
theorem head0 {p : Pj} (h : trimB p.ti = true) (h1 : langB p.la = true) (h2 : pathB p.ma = true) (h3 : p.so = [] ∨ pathB p.so = true) (h4 : p.st = [] ∨ pathB p.st = true) : headE pkG p = 0 := by
  unfold headE; rw [if_neg (by show ¬ trimB p.ti = false; simp [h]), if_neg]
  show ¬ (langB p.la = false ∨ pathB p.ma = false ∨ (p.so ≠ [] ∧ pathB p.so = false) ∨ (p.st ≠ [] ∧ pathB p.st = false))
  rw [h1, h2]
  rintro (h | h | ⟨h, h'⟩ | ⟨h, h'⟩)
  · cases h
  · cases h
  · rcases h3 with h3 | h3
    · exact h h3
    · rw [h3] at h'; cases h'
  · rcases h4 with h4 | h4
    · exact h h4
    · rw [h4] at h'; cases h'
set_option maxHeartbeats 8000000 in
set_option maxRecDepth 100000 in
theorem rheads_any (p : Pj) (c : PC) (w : World) (hs : PjSm p) :
    Calls Tryz.prog 25 #[.agg #[.string (B p.ti), .string (B p.la), .string (B p.ma), .string (B p.so), .string (B p.st), .slice c.A c.na c.ca, .slice c.F c.nf c.cf, .slice c.T c.nt c.ct]] w (IPost (headE pkG p) w) := by
  have hbx := Bx8.new w p c
  have hbw := below_alloc w (.cells #[.string (B p.ti), .string (B p.la), .string (B p.ma), .string (B p.so), .string (B p.st), .slice c.A c.na c.ca, .slice c.F c.nf c.cf, .slice c.T c.nt c.ct] 26)
  have s0 := hs.ti
  have s2 := hs.ma
  have s3 := hs.so
  have s4 := hs.st
  go_enter Tryz.func25, Tryz.ntmps25
  go_wp2_with fail
  refine (rtrimmed_any (B p.ti) _ (by rw [B_size]; omega)).mono ?_
  rintro e w1 ⟨rfl, hbn⟩
  rw [B_data]
  have hbx := hbx.below hbn hbx.lt
  have hbw := hbw.trans (hbn.mono hbw.size)
  clear hbn
  cases h1 : trimB p.ti
  · have HX := Lib.hid (head17 h1)
    go_wp2
    go_ret
    exact ⟨ret_int HX.out.symm, hbw⟩
  go_wp2_with fail
  refine (rlangs_any _).mono ?_
  rintro e w2 ⟨rfl, rfl⟩
  have hbx := hbx.alloc (.cells langC 9)
  have hbw := hbw.alloc hbw.size (.cells langC 9)
  have hrd := langs_rd w1
  generalize hq : w1.heap.size = q0 at *
  generalize hW : w1.alloc (.cells langC 9) = W at *
  clear hq hW
  go_wp2
  go_loopw [4, 5] (fun kn i wr => ∃ (k : Nat), k ≤ 4 ∧ i = .int .i64 k ∧ kn = .bool (knownB p.la k) ∧ Hid (Bx8 wr w.heap.size p c) ∧ Hid (Rd wr wr.heap.size 1 (some ⟨q0, 0, none⟩) 4 (strs langL)) ∧ Hid (Below w.heap.size w wr)) (fun _ i _ => 4 - (intOf i).toNat)
  case atStart => exact ⟨0, by omega, rfl, rfl, hbx, hrd, hbw⟩
  case round =>
    clear hbx hrd hbw
    obtain ⟨k, hk, rfl, rfl, hbx, hrd, hbw⟩ := hrel
    have l1 := hbx.out.c1
    by_cases hlt : k < 4
    · obtain ⟨ad, hae, e0⟩ := hrd.out.str hlt
      obtain rfl : ad = ⟨q0, 0, none⟩ := by injection hae with h; exact h.symm
      rw [addr_lit, Nat.zero_add] at e0
      have HK := Lib.hid (known_succ p.la k hlt)
      generalize langL.getD k [] = x at e0 HK
      have i1 : (0 : Int) ≤ (k : Int) := by omega
      have i2 : (k : Int) < 4 := by omega
      cases hkb : knownB p.la k
      · have HK2 : Hid (knownB p.la (k + 1) = (x == p.la)) := by rw [HK.out, hkb]; rfl
        clear hae HK
        go_wp2
        go_quiet (fail)
        go_wp2
        go_roundw
        case rel => exact ⟨k + 1, by omega, by go_num, by rw [HK2.out], hbx, hrd, below_drewN hbw.out _⟩
        case measure => simp [intOf]; omega
      · have HK2 : Hid (knownB p.la (k + 1) = true) := by rw [HK.out, hkb]; rfl
        clear hae HK
        go_wp2
        go_quiet (fail)
        go_wp2
        go_roundw
        case rel => exact ⟨k + 1, by omega, by go_num, by rw [HK2.out], hbx, hrd, below_drewN hbw.out _⟩
        case measure => simp [intOf]; omega
    · obtain rfl : k = 4 := by omega
      have hkl := known_all p.la
      rw [hkl]
      clear hkl
      have hbx := hbx.out
      have hbw := hbw.out
      have l2 := hbx.c2
      have l3 := hbx.c3
      have l4 := hbx.c4
      cases hl : langB p.la
      · have HX : Hid (headE pkG p = 6) := head6 h1 (.inl hl)
        go_wp2
        go_ret
        exact ⟨ret_int HX.out.symm, hbw⟩
      · go_wp2_with fail
        refine (rpath_any (B p.ma) _ (by rw [B_size]; omega)).mono ?_
        rintro e w4 ⟨rfl, hbn⟩
        rw [B_data]
        have hbx := hbx.below hbn hbx.lt
        have hbw := hbw.trans (hbn.mono hbw.size)
        have l2 := hbx.c2
        have l3 := hbx.c3
        have l4 := hbx.c4
        clear hbn
        cases hma : pathB p.ma
        · have HX : Hid (headE pkG p = 6) := head6 h1 (.inr (.inl hma))
          go_wp2
          go_ret
          exact ⟨ret_int HX.out.symm, hbw⟩
        · by_cases hso0 : p.so = []
          · have e3 : (p.so == []) = true := by simp [hso0]
            have e3n : (p.so != []) = false := by simp [hso0]
            have hso' : p.so = [] ∨ pathB p.so = true := .inl hso0
            clear hso0
            by_cases hst0 : p.st = []
            · have e4 : (p.st == []) = true := by simp [hst0]
              have e4n : (p.st != []) = false := by simp [hst0]
              have HX : Hid (headE pkG p = 0) := head0 h1 hl hma hso' (.inl hst0)
              clear hst0
              go_wp2
              go_ret
              exact ⟨ret_int HX.out.symm, hbw⟩
            · have e4 : (p.st == []) = false := by simpa using hst0
              have e4n : (p.st != []) = true := by simpa using hst0
              go_wp2_with fail
              refine (rpath_any (B p.st) _ (by rw [B_size]; omega)).mono ?_
              rintro e w6 ⟨rfl, hbn⟩
              rw [B_data]
              have hbx := hbx.below hbn hbx.lt
              have hbw := hbw.trans (hbn.mono hbw.size)
              have l2 := hbx.c2
              have l3 := hbx.c3
              have l4 := hbx.c4
              clear hbn
              cases hst : pathB p.st
              · have HX : Hid (headE pkG p = 6) := head6 h1 (.inr (.inr (.inr ⟨hst0, hst⟩)))
                go_wp2
                go_ret
                exact ⟨ret_int HX.out.symm, hbw⟩
              · have HX : Hid (headE pkG p = 0) := head0 h1 hl hma hso' (.inr hst)
                go_wp2
                go_ret
                exact ⟨ret_int HX.out.symm, hbw⟩
          · have e3 : (p.so == []) = false := by simpa using hso0
            have e3n : (p.so != []) = true := by simpa using hso0
            go_wp2_with fail
            refine (rpath_any (B p.so) _ (by rw [B_size]; omega)).mono ?_
            rintro e w5 ⟨rfl, hbn⟩
            rw [B_data]
            have hbx := hbx.below hbn hbx.lt
            have hbw := hbw.trans (hbn.mono hbw.size)
            have l2 := hbx.c2
            have l3 := hbx.c3
            have l4 := hbx.c4
            clear hbn
            cases hso : pathB p.so
            · have HX : Hid (headE pkG p = 6) := head6 h1 (.inr (.inr (.inl ⟨hso0, hso⟩)))
              go_wp2
              go_ret
              exact ⟨ret_int HX.out.symm, hbw⟩
            · have hso' : p.so = [] ∨ pathB p.so = true := .inr hso
              by_cases hst0 : p.st = []
              · have e4 : (p.st == []) = true := by simp [hst0]
                have e4n : (p.st != []) = false := by simp [hst0]
                have HX : Hid (headE pkG p = 0) := head0 h1 hl hma hso' (.inl hst0)
                clear hst0
                go_wp2
                go_ret
                exact ⟨ret_int HX.out.symm, hbw⟩
              · have e4 : (p.st == []) = false := by simpa using hst0
                have e4n : (p.st != []) = true := by simpa using hst0
                go_wp2_with fail
                refine (rpath_any (B p.st) _ (by rw [B_size]; omega)).mono ?_
                rintro e w6 ⟨rfl, hbn⟩
                rw [B_data]
                have hbx := hbx.below hbn hbx.lt
                have hbw := hbw.trans (hbn.mono hbw.size)
                have l2 := hbx.c2
                have l3 := hbx.c3
                have l4 := hbx.c4
                clear hbn
                cases hst : pathB p.st
                · have HX : Hid (headE pkG p = 6) := head6 h1 (.inr (.inr (.inr ⟨hst0, hst⟩)))
                  go_wp2
                  go_ret
                  exact ⟨ret_int HX.out.symm, hbw⟩
                · have HX : Hid (headE pkG p = 0) := head0 h1 hl hma hso' (.inr hst)
                  go_wp2
                  go_ret
                  exact ⟨ret_int HX.out.symm, hbw⟩
theorem chk_head {p : Pj} (h : headE pkG p ≠ 0) : checkE pkG p = headE pkG p := by unfold checkE; rw [if_pos h]
theorem chk_vars {p : Pj} (h : headE pkG p = 0) (h1 : varsT pkG p.vs ≠ 0) : checkE pkG p = varsT pkG p.vs := by unfold checkE; rw [if_neg (by simpa using h), if_pos h1]
theorem chk_flags {p : Pj} (h : headE pkG p = 0) (h1 : varsT pkG p.vs = 0) (h2 : flagsT pkG p.fs ≠ 0) : checkE pkG p = flagsT pkG p.fs := by unfold checkE; rw [if_neg (by simpa using h), if_neg (by simpa using h1), if_pos h2]
theorem chk_targets {p : Pj} (h : headE pkG p = 0) (h1 : varsT pkG p.vs = 0) (h2 : flagsT pkG p.fs = 0) : checkE pkG p = targetsT pkG p.ts := by unfold checkE; rw [if_neg (by simpa using h), if_neg (by simpa using h1), if_neg (by simpa using h2)]
set_option maxHeartbeats 8000000 in
set_option maxRecDepth 100000 in
theorem rcheck_any (p : Pj) (c : PC) (w : World) (hs : PjSm p) (hp : PjAt w w.heap.size p c) :
    Calls Tryz.prog 10 #[.agg #[.string (B p.ti), .string (B p.la), .string (B p.ma), .string (B p.so), .string (B p.st), .slice c.A c.na c.ca, .slice c.F c.nf c.cf, .slice c.T c.nt c.ct]] w (IPost (checkE pkG p) w) := by
  have n1 := hp.vs.count prF 2 prF_len (by omega)
  have n2 := hp.fs.strs_length
  have n3 := hp.ts.count tgF 4 tgF_len (by omega)
  have n4 := hs.nv
  have n5 := hs.nf
  have n6 := hs.nt
  rw [n1] at n4
  rw [n2] at n5
  rw [n3] at n6
  clear n1 n2 n3
  have hbx := Bx8.new w p c
  have hbw := below_alloc w (.cells #[.string (B p.ti), .string (B p.la), .string (B p.ma), .string (B p.so), .string (B p.st), .slice c.A c.na c.ca, .slice c.F c.nf c.cf, .slice c.T c.nt c.ct] 26)
  have hpa := hp.step hbw
  have HH := Lib.hid (rheads_any p c (w.alloc (.cells #[.string (B p.ti), .string (B p.la), .string (B p.ma), .string (B p.so), .string (B p.st), .slice c.A c.na c.ca, .slice c.F c.nf c.cf, .slice c.T c.nt c.ct] 26)) hs)
  go_enter Tryz.func10, Tryz.ntmps10
  go_wp2_with fail
  refine HH.out.mono ?_
  rintro e w1 ⟨rfl, hbn⟩
  have hbx := hbx.below hbn hbx.lt
  have hpa := hpa.step hbn
  have hbw := hbw.trans (hbn.mono hbw.size)
  have l5 := hbx.c5
  have l6 := hbx.c6
  have l7 := hbx.c7
  clear hbn HH
  by_cases h1 : headE pkG p = 0
  · rw [h1]
    go_wp2_with fail
    refine (rvars_any c.A c.na c.ca p.vs _ hpa.vs (by omega) hs.vs).mono ?_
    rintro e w2 ⟨rfl, hbn⟩
    have hbx := hbx.below hbn hbx.lt
    have hpa := hpa.step hbn
    have hbw := hbw.trans (hbn.mono hbw.size)
    have l6 := hbx.c6
    have l7 := hbx.c7
    clear hbn l5
    by_cases h2 : varsT pkG p.vs = 0
    · rw [h2]
      go_wp2_with fail
      refine (rflags_any c.F c.nf c.cf p.fs _ hpa.fs (by omega) hs.fs).mono ?_
      rintro e w3 ⟨rfl, rfl⟩
      by_cases h3 : flagsT pkG p.fs = 0
      · have HX := Lib.hid (chk_targets h1 h2 h3)
        rw [h3]
        go_wp2_with fail
        refine (rtargets_any c.T c.nt c.ct p.ts _ hpa.ts (by omega) hs.ts).mono ?_
        rintro e w4 ⟨rfl, hbn⟩
        have hbw := hbw.trans (hbn.mono hbw.size)
        clear h1 h2 h3
        go_wp2
        go_ret
        exact ⟨ret_int HX.out.symm, hbw⟩
      · have HX := Lib.hid (chk_flags h1 h2 h3)
        have z1 : (flagsT pkG p.fs == 0) = false := by simpa using h3
        clear h1 h2 h3
        go_wp2
        go_ret
        exact ⟨ret_int HX.out.symm, hbw⟩
    · have HX := Lib.hid (chk_vars h1 h2)
      have z1 : (varsT pkG p.vs == 0) = false := by simpa using h2
      clear h1 h2
      go_wp2
      go_ret
      exact ⟨ret_int HX.out.symm, hbw⟩
  · have HX := Lib.hid (chk_head h1)
    have z1 : (headE pkG p == 0) = false := by simpa using h1
    clear h1
    go_wp2
    go_ret
    exact ⟨ret_int HX.out.symm, hbw⟩
end Go.Proofs.YtmkenekngaihhaaGreatDoor
