/-
  Layer 16 (files): the walk of the law FilesLook.
-/
import Derived.Test.YtpbampchhpkpbaaDoorFilesY
import Derived.Test.YtpbampchhpkpbaaDoorFilesRc
import Derived.Deep.RegionHeld3
namespace Go.Proofs.YtpbampchhpkpbaaDoor
open Go.RowKit
set_option linter.unusedVariables false
set_option linter.unusedSimpArgs false
attribute [local go_sem] B_data B_size

/-- the lists that lie in memory -/
structure DL (w0 W : World) (Ls : List (Option Addr × Nat × List (List UInt8 × List UInt8))) : Prop where
  b : Below w0.heap.size w0 W
  r : ∀ x ∈ Ls, Rd W W.heap.size 2 x.1 x.2.1 (fls x.2.2)
theorem DL.step {w0 W W' : World} {Ls : List (Option Addr × Nat × List (List UInt8 × List UInt8))} (h : DL w0 W Ls) (hb : Below W.heap.size W W') : DL w0 W' Ls :=
  ⟨h.b.trans (hb.mono h.b.size), fun x hx => ((h.r x hx).below hb).more hb.size⟩
theorem DL.add {w0 W : World} {Ls : List (Option Addr × Nat × List (List UInt8 × List UInt8))} (h : DL w0 W Ls) {A : Option Addr} {n : Nat} {L : List (List UInt8 × List UInt8)} (hr : Rd W W.heap.size 2 A n (fls L)) : DL w0 W ((A, n, L) :: Ls) :=
  ⟨h.b, fun x hx => by
    rcases List.mem_cons.1 hx with rfl | hx
    · exact hr
    · exact h.r x hx⟩
theorem DL.drewN {w0 W : World} {Ls : List (Option Addr × Nat × List (List UInt8 × List UInt8))} (h : DL w0 W Ls) (q : Nat) : DL w0 (W.drewN q) Ls := ⟨below_drewN h.b q, h.r⟩
theorem DL.drew {w0 W : World} {Ls : List (Option Addr × Nat × List (List UInt8 × List UInt8))} (h : DL w0 W Ls) : DL w0 W.drew Ls := ⟨h.b.drew, h.r⟩
theorem DL.rd {w0 W : World} {Ls : List (Option Addr × Nat × List (List UInt8 × List UInt8))} (h : DL w0 W Ls) (A : Option Addr) (n : Nat) (L : List (List UInt8 × List UInt8)) (hm : (A, n, L) ∈ Ls) : Rd W W.heap.size 2 A n (fls L) := h.r _ hm
theorem DL.keep {w0 W : World} {Ls : List (Option Addr × Nat × List (List UInt8 × List UInt8))} (h : DL w0 W Ls) {p : Addr} {v : Value} (hp : p.block < w0.heap.size) (hc : w0.cell? p = some v) : W.cell? p = some v := by rw [h.b.cell hp]; exact hc

theorem setL_le (fs : List (List UInt8 × List UInt8)) (f : List UInt8 × List UInt8) : (setL fs f).length ≤ fs.length + 1 := by
  unfold setL
  split
  · rw [List.length_append, List.length_cons, List.length_take, List.length_drop]; omega
  · rw [List.length_set]; omega
theorem dropL_le (fs : List (List UInt8 × List UInt8)) (name : List UInt8) : (dropL fs name).length ≤ fs.length := by
  unfold dropL
  split
  · exact Nat.le_refl _
  · rw [List.length_append, List.length_take, List.length_drop]; omega
theorem get_form (fs : List (List UInt8 × List UInt8)) (name : List UInt8) : ∃ s b, GetRet fs name = .returned (.tuple #[.string (B s), .bool b]) := by
  unfold GetRet
  split
  · exact ⟨[], _, rfl⟩
  · exact ⟨_, _, rfl⟩

theorem get_anyB (A : Option Addr) (n c : Nat) (fs : List (List UInt8 × List UInt8)) (x : List UInt8) (w : World) (hx : Rd w w.heap.size 2 A n (fls fs)) (hn : n ≤ 1000000) (s : List UInt8) (b : Bool) (hg : GetRet fs x = .returned (.tuple #[.string (B s), .bool b])) :
    Calls Tryd.prog 23 #[.slice A n c, .string (B x)] w fun e w' => e = .returned (.tuple #[.string (B s), .bool b]) ∧ Below w.heap.size w w' := by
  have C := get_any A n c fs (B x) w hx hn
  rwa [B_data, hg] at C
theorem rget_anyB (A : Option Addr) (n c : Nat) (fs : List (List UInt8 × List UInt8)) (x : List UInt8) (w : World) (hx : Rd w w.heap.size 2 A n (fls fs)) (hn : n ≤ 1000000) (s : List UInt8) (b : Bool) (hg : GetRet fs x = .returned (.tuple #[.string (B s), .bool b])) :
    Calls Tryd.prog 24 #[.slice A n c, .string (B x)] w fun e w' => e = .returned (.tuple #[.string (B s), .bool b]) ∧ Below w.heap.size w w' := by
  have C := rget_any A n c fs (B x) w hx hn
  rwa [B_data, hg] at C
theorem drop_anyB (A : Option Addr) (n c : Nat) (fs : List (List UInt8 × List UInt8)) (x : List UInt8) (w : World) (hx : Rd w w.heap.size 2 A n (fls fs)) (hn : n ≤ 900000) (hnc : n ≤ c) :
    Calls Tryd.prog 28 #[.slice A n c, .string (B x)] w fun e w' => ∃ v, e = .returned v ∧ Lst w' v (dropL fs x) ∧ Below w.heap.size w w' := by
  have C := drop_any A n c fs (B x) w hx hn hnc
  rwa [B_data] at C
theorem rdrop_anyB (A : Option Addr) (n c : Nat) (fs : List (List UInt8 × List UInt8)) (x : List UInt8) (w : World) (hx : Rd w w.heap.size 2 A n (fls fs)) (hn : n ≤ 900000) (hnc : n ≤ c) :
    Calls Tryd.prog 29 #[.slice A n c, .string (B x)] w fun e w' => ∃ v, e = .returned v ∧ Lst w' v (dropL fs x) ∧ Below w.heap.size w w' := by
  have C := rdrop_any A n c fs (B x) w hx hn hnc
  rwa [B_data] at C

set_option maxHeartbeats 8000000 in
set_option maxRecDepth 100000 in
theorem look_any (w : World) (A : Option Addr) (n c : Nat) (fs : List (List UInt8 × List UInt8)) (hx : Rd w w.heap.size 2 A n (fls fs)) (hnc : n ≤ c) (hcm : c ≤ maxLen) (A' : Option Addr) (n' c' : Nat) (gs : List (List UInt8 × List UInt8)) (hy : Rd w w.heap.size 2 A' n' (fls gs)) (hnc' : n' ≤ c') (hcm' : c' ≤ maxLen) (f : List UInt8 × List UInt8) (hG : Glob w) :
    Calls Tryd.prog 8 #[.slice A n c, .slice A' n' c', .agg #[.string (B f.1), .string (B f.2)]] w fun e w' => e = .returned (.bool true) ∧ Below w.heap.size w w' := by
  have hmx : maxLen ≤ 9223372036854775807 := by decide
  obtain ⟨W0, hW0⟩ : ∃ W0, W0 = w.alloc (.cells #[.string (B f.1), .string (B f.2)] 36) := ⟨_, rfl⟩
  have hB0 : Below w.heap.size w W0 := by rw [hW0]; exact (Below.refl _ _).alloc (Nat.le_refl _) _
  have hs0 : w.heap.size < W0.heap.size := by rw [hW0]; simp
  have q0 : W0.cell? ⟨w.heap.size, 0, none⟩ = some (.string (B f.1)) := by rw [hW0]; simp
  have q1 : W0.cell? ⟨w.heap.size, 1, none⟩ = some (.string (B f.2)) := by rw [hW0]; simp
  have hF : DL W0 W0 [(A, n, fs), (A', n', gs)] := ⟨Below.refl _ _, fun x hm => by
    rcases List.mem_cons.1 hm with rfl | hm
    · exact (hx.below hB0).more hB0.size
    · rcases List.mem_cons.1 hm with rfl | hm
      · exact (hy.below hB0).more hB0.size
      · cases hm⟩
  have HG := Lib.hid (fun (W : World) (hb : Below W0.heap.size W0 W) => (hG.below hB0 (Nat.le_refl _)).below hb (Nat.le_refl _))
  have HL := Lib.hid hx.fls_length
  have HB := Lib.hid (fun (W : World) (hb : Below W0.heap.size W0 W) => hB0.trans (hb.mono hB0.size))
  have C0 := Lib.hid (few_any A n c fs W0 (hF.rd A n fs (by simp)) (by omega))
  have C1 := Lib.hid (fun (W : World) (h : Rd W W.heap.size 2 A' n' (fls gs)) => few_any A' n' c' gs W h (by omega))
  have HF := Lib.hid hF
  clear hx hy hB0 hF
  go_enter Tryd.func8, Tryd.ntmps8
  go_upto_region 1 with fail
  rw [← hW0]
  clear hW0
  by_cases h : Few n fs
  · rw [(few_iff n fs).2 h] at C0
    by_cases h' : Few n' gs
    · rw [(few_iff n' gs).2 h'] at C1
      obtain ⟨hn, _⟩ := h
      obtain ⟨hn', _⟩ := h'
      obtain ⟨s, b, hget⟩ := get_form fs f.1
      have HC2 := Lib.hid (fun (W : World) (hr : Rd W W.heap.size 2 A n (fls fs)) => get_anyB A n c fs f.1 W hr (by omega) s b hget)
      have HC3 := Lib.hid (fun (W : World) (hr : Rd W W.heap.size 2 A n (fls fs)) => rget_anyB A n c fs f.1 W hr (by omega) s b hget)
      have HD : Hid (n ≤ 900000 ∧ n' ≤ 900000) := ⟨by omega, by omega⟩
      have HSS : Hid ((setL fs f == setL fs f) = true) := beq_self_eq_true _
      have HDD : Hid ((dropL fs f.1 == dropL fs f.1) = true) := beq_self_eq_true _
      have HLS := Lib.hid (setL_le fs f)
      have HLD := Lib.hid (dropL_le fs f.1)
      have es : (s == s) = true := by simp
      have eb : (b == b) = true := by simp
      obtain ⟨bb, hbb⟩ : ∃ bb, (fs == gs) = bb := ⟨_, rfl⟩
      have HBB := Lib.hid hbb
      have ebb : (bb == bb) = true := by simp
      clear hget hbb
      go_wp2_with fail
      refine C0.out.mono ?_
      rintro e w1 ⟨rfl, hb1⟩
      have hF := HF.out.step hb1
      clear hb1 C0 HF
      go_wp2_with fail
      refine (C1.out _ (hF.rd A' n' gs (by simp))).mono ?_
      rintro e w2 ⟨rfl, hb2⟩
      replace hF := hF.step hb2
      have k0 := hF.keep (p := ⟨w.heap.size, 0, none⟩) hs0 q0
      clear hb2 C1
      go_wp2_with fail
      refine (HC2.out _ (hF.rd A n fs (by simp))).mono ?_
      rintro e w3 ⟨rfl, hb3⟩
      replace hF := hF.step hb3
      clear k0
      have k0 := hF.keep (p := ⟨w.heap.size, 0, none⟩) hs0 q0
      clear hb3 HC2
      go_wp2_with fail
      refine (HC3.out _ (hF.rd A n fs (by simp))).mono ?_
      rintro e w4 ⟨rfl, hb4⟩
      replace hF := hF.step hb4
      clear k0
      have k0 := hF.keep (p := ⟨w.heap.size, 0, none⟩) hs0 q0
      have k1 := hF.keep (p := ⟨w.heap.size, 1, none⟩) hs0 q1
      clear hb4 HC3
      have Q0 := Lib.hid q0
      have Q1 := Lib.hid q1
      clear q0 q1
      go_upto_region 5 with fail
      replace hF := hF.drew
      go_region_held3 (fun W => W.cell? ⟨w.heap.size, 0, none⟩ = some (.string (B f.1)) ∧ W.cell? ⟨w.heap.size, 1, none⟩ = some (.string (B f.2))) (exact ⟨hF.keep (p := ⟨w.heap.size, 0, none⟩) hs0 Q0.out, hF.keep (p := ⟨w.heap.size, 1, none⟩) hs0 Q1.out⟩)
        (first
          | (go_at_call 26; (with_reducible refine (set_any A n c fs f _ (hF.rd A n fs (by simp)) HD.out.1 hnc).mono ?_); rintro e w' ⟨v, rfl, hv, hb⟩; obtain ⟨A1, n1, c1, rfl, hc1, hr1⟩ := Lst.of_own hv; have hn1 : n1 ≤ 1000000 := (by have := hr1.fls_length; have := HLS.out; have := HL.out; have := HD.out.1; omega); have hF' := (hF.step hb).add hr1; clear hF hb hv hr1; have hF := hF'; clear hF')
          | (go_at_call 27; (with_reducible refine (rset_any A n c fs f _ (hF.rd A n fs (by simp)) HD.out.1 hnc).mono ?_); rintro e w' ⟨v, rfl, hv, hb⟩; obtain ⟨A2, n2, c2, rfl, hc2, hr2⟩ := Lst.of_own hv; have hn2 : n2 ≤ 1000000 := (by have := hr2.fls_length; have := HLS.out; have := HL.out; have := HD.out.1; omega); have hF' := (hF.step hb).add hr2; clear hF hb hv hr2; have hF := hF'; clear hF')
          | (go_at_call 28; (with_reducible refine (drop_anyB A n c fs f.1 _ (hF.rd A n fs (by simp)) HD.out.1 hnc).mono ?_); rintro e w' ⟨v, rfl, ⟨A3, n3, c3, rfl, hc3, hr3⟩, hb⟩; have hn3 : n3 ≤ 1000000 := (by have := hr3.fls_length; have := HLD.out; have := HL.out; have := HD.out.1; omega); have hF' := (hF.step hb).add hr3; clear hF hb hr3; have hF := hF'; clear hF')
          | (go_at_call 29; (with_reducible refine (rdrop_anyB A n c fs f.1 _ (hF.rd A n fs (by simp)) HD.out.1 hnc).mono ?_); rintro e w' ⟨v, rfl, ⟨A4, n4, c4, rfl, hc4, hr4⟩, hb⟩; have hn4 : n4 ≤ 1000000 := (by have := hr4.fls_length; have := HLD.out; have := HL.out; have := HD.out.1; omega); have hF' := (hF.step hb).add hr4; clear hF hb hr4; have hF := hF'; clear hF')
          | (go_at_call 22; (with_reducible refine (same_any A A' n n' c c' fs gs _ _ (hF.rd A n fs (by simp)) (hF.rd A' n' gs (by simp)) (Nat.le_trans HD.out.1 (by decide)) (Nat.le_trans HD.out.2 (by decide))).mono ?_); rintro e w' ⟨rfl, q, hq⟩; rw [HBB.out]; have hF' := hF.drewN q; rw [← hq] at hF'; clear hF hq; have hF := hF'; clear hF')
          | (go_at_call 25; (with_reducible refine (rsame_any A1 A2 n1 n2 c1 c2 (setL fs f) (setL fs f) _ _ (hF.rd A1 n1 (setL fs f) (by simp)) (hF.rd A2 n2 (setL fs f) (by simp)) hn1 hn2).mono ?_); rintro e w' ⟨rfl, q, hq⟩; rw [HSS.out]; have hF' := hF.drewN q; rw [← hq] at hF'; clear hF hq; have hF := hF'; clear hF')
          | (go_at_call 25; (with_reducible refine (rsame_any A3 A4 n3 n4 c3 c4 (dropL fs f.1) (dropL fs f.1) _ _ (hF.rd A3 n3 (dropL fs f.1) (by simp)) (hF.rd A4 n4 (dropL fs f.1) (by simp)) hn3 hn4).mono ?_); rintro e w' ⟨rfl, q, hq⟩; rw [HDD.out]; have hF' := hF.drewN q; rw [← hq] at hF'; clear hF hq; have hF := hF'; clear hF')
          | (go_at_call 25; (with_reducible refine (rsame_any A A' n n' c c' fs gs _ _ (hF.rd A n fs (by simp)) (hF.rd A' n' gs (by simp)) (Nat.le_trans HD.out.1 (by decide)) (Nat.le_trans HD.out.2 (by decide))).mono ?_); rintro e w' ⟨rfl, q, hq⟩; rw [HBB.out]; have hF' := hF.drewN q; rw [← hq] at hF'; clear hF hq; have hF := hF'; clear hF')
          | (go_at_call 10; (with_reducible refine (awake_any _ (HG.out _ hF.b)).mono ?_); rintro e w' ⟨rfl, hb⟩; have hF' := hF.step hb; clear hF hb; have hF := hF'; clear hF'))
      all_goals
        go_wp2
      all_goals
        go_ret
      all_goals
        exact ⟨rfl, HB.out _ hF.b⟩
    · rw [fewB_no h'] at C1
      go_wp2_with fail
      refine C0.out.mono ?_
      rintro e w1 ⟨rfl, hb1⟩
      have hF := HF.out.step hb1
      clear hb1 C0 HF
      go_wp2_with fail
      refine (C1.out _ (hF.rd A' n' gs (by simp))).mono ?_
      rintro e w2 ⟨rfl, hb2⟩
      replace hF := hF.step hb2
      clear hb2 C1
      go_wp2_with fail
      refine (awake_any _ (HG.out _ hF.b)).mono ?_
      rintro e w3 ⟨rfl, hb3⟩
      replace hF := hF.step hb3
      clear hb3
      go_wp2
      go_ret
      exact ⟨rfl, HB.out _ hF.b⟩
  · rw [fewB_no h] at C0
    go_wp2_with fail
    refine C0.out.mono ?_
    rintro e w1 ⟨rfl, hb1⟩
    have hF := HF.out.step hb1
    clear hb1 C0 HF
    go_wp2_with fail
    refine (awake_any _ (HG.out _ hF.b)).mono ?_
    rintro e w3 ⟨rfl, hb3⟩
    replace hF := hF.step hb3
    clear hb3
    go_wp2
    go_ret
    exact ⟨rfl, HB.out _ hF.b⟩
theorem filesLook_walk (w : World) (A : Option Addr) (n c : Nat) (fs : List (List UInt8 × List UInt8)) (hx : Rd w w.heap.size 2 A n (fls fs)) (hl : n ≤ c ∧ c ≤ maxLen) (A' : Option Addr) (n' c' : Nat) (gs : List (List UInt8 × List UInt8)) (hy : Rd w w.heap.size 2 A' n' (fls gs)) (hl' : n' ≤ c' ∧ c' ≤ maxLen) (s t : ByteArray) (hG : Glob w) :
    Calls Tryd.prog 8 #[.slice A n c, .slice A' n' c', .agg #[.string s, .string t]] w fun e w' => e = .returned (.bool true) ∧ Below w.heap.size w w' := by
  have h := look_any w A n c fs hx hl.1 hl.2 A' n' c' gs hy hl'.1 hl'.2 (s.toList, t.toList) hG
  simp only [B_self] at h
  exact h
end Go.Proofs.YtpbampchhpkpbaaDoor
