/-
  Layer 44 (links): the walk of LinksFiles.
-/
import Derived.Test.YtejjidbodfoiiaaGreatDoorLkFab
namespace Go.Proofs.YtejjidbodfoiiaaGreatDoor
open Go.RowKit
set_option linter.unusedVariables false
set_option linter.unusedSimpArgs false

theorem ft_rows (w : World) (x : Ft) : Rd (w.alloc (.cells #[.string (B x.1), .string (B x.2.1), .string (B x.2.2)] 36)) (w.alloc (.cells #[.string (B x.1), .string (B x.2.1), .string (B x.2.2)] 36)).heap.size 3 (some ⟨w.heap.size, 0, none⟩) 1 ([x].flatMap ftC) := by
  have h := rd_newN w (ftC x) 36 3 1 rfl
  have e : (w.alloc (.cells #[.string (B x.1), .string (B x.2.1), .string (B x.2.2)] 36)).heap.size = w.heap.size + 1 := by simp
  rw [e]
  exact h
theorem file_own (w : World) (base : Nat) (hb : base ≤ w.heap.size) (a b : Bs) : (w.alloc (.cells #[.string (B a), .string (B b)] 39)).ownsRow base 39 2 (.slice (some ⟨w.heap.size, 0, none⟩) 1 1) 1 (flv [(a, b)]) := World.ownsRow_lit w #[.string (B a), .string (B b)] 1 hb (by decide) rfl
theorem row2 (w : World) (a b c d : Bs) (zs : Array Value) : Rd ((w.alloc (.cells (#[.string (B a), .string (B b)] ++ (#[.string (B c), .string (B d)] ++ zs)) 39)).drew) ((w.alloc (.cells (#[.string (B a), .string (B b)] ++ (#[.string (B c), .string (B d)] ++ zs)) 39)).drew).heap.size 2 (some ⟨w.heap.size, 0, none⟩) 2 ([(a, b), (c, d)].flatMap flC) := by
  have hq := heap_alloc_new w (.cells (#[.string (B a), .string (B b)] ++ (#[.string (B c), .string (B d)] ++ zs)) 39)
  generalize hW : w.alloc (.cells (#[.string (B a), .string (B b)] ++ (#[.string (B c), .string (B d)] ++ zs)) 39) = W at hq ⊢
  have hl := (Array.getElem?_eq_some_iff.1 hq).1
  refine ⟨rfl, fun _ => ⟨_, rfl, hl, fun j u hj => ?_⟩⟩
  show W.cell? _ = _
  rw [addr_lit, cell_of_row W w.heap.size _ _ _ _ hq]
  have hj4 : j < 4 := (List.getElem?_eq_some_iff.1 hj).1
  rw [Nat.zero_add, ← Array.getElem?_toList, Array.toList_append, Array.toList_append]
  obtain rfl | rfl | rfl | rfl : j = 0 ∨ j = 1 ∨ j = 2 ∨ j = 3 := by omega
  all_goals simpa [flC] using hj
attribute [local go_sem] B_data B_size
set_option maxHeartbeats 20000000 in
set_option maxRecDepth 100000 in
theorem linksFiles_walk (W : World) (id : ByteArray) (hid : id.size ≤ maxLen) (to' : ByteArray) (hto : to'.size ≤ maxLen) (there : Bool) (hG : Fil.Glob W) :
    Calls Tryz.prog 6 #[.string id, .string to', .bool there] W (fun e W' => e = .returned (.bool true) ∧ Below W.heap.size W W') := by
  have hml : maxLen ≤ 9223372036854775807 := by decide
  obtain ⟨x, rfl⟩ : ∃ x, id = B x := ⟨id.toList, (B_self _).symm⟩
  obtain ⟨y, rfl⟩ : ∃ y, to' = B y := ⟨to'.toList, (B_self _).symm⟩
  have HN1 := Lib.hid (fun V => aname_any (B x) V (by omega))
  have HN2 := Lib.hid (fun V => aname_any (B y) V (by omega))
  rw [B_data] at HN1 HN2
  have HAW := Lib.hid (fun V (hV : Fil.Glob V) => lawake_any V hV)
  go_enter Tryz.func6, Tryz.ntmps6
  go_wp2_with fail
  refine (HN1.out _).mono ?_
  rintro e w1 ⟨rfl, rfl⟩
  cases h1 : nm3 x
  · go_wp2_with fail
    refine (HAW.out _ hG).mono ?_
    rintro e w9 ⟨rfl, hb9⟩
    go_wp2
    go_ret
    exact ⟨rfl, hb9⟩
  · go_wp2_with fail
    refine (HN2.out _).mono ?_
    rintro e w1 ⟨rfl, rfl⟩
    cases h2 : nm3 y
    · go_wp2_with fail
      refine (HAW.out _ hG).mono ?_
      rintro e w9 ⟨rfl, hb9⟩
      go_wp2
      go_ret
      exact ⟨rfl, hb9⟩
    · have l1 := nm3_len h1
      have l2 := nm3_len h2
      have HP1 : Hid (∀ V, Calls Tryz.prog 19 #[.string ⟨#[113]⟩, .string (⟨#[121, 46, 104, 116, 109, 108, 35]⟩ ++ B y)] V fun e w' => e = .returned (.tuple #[.string (B (t1F y)), .int .i64 0]) ∧ Below V.heap.size V w') := fun V => by
        have e0 : (⟨#[121, 46, 104, 116, 109, 108, 35]⟩ : ByteArray) ++ B y = B (hT y) := B_app [121, 46, 104, 116, 109, 108, 35] y
        rw [e0]
        refine (page_any [113] (hT y) V (by decide) (by simp [hT, yH]; omega)).mono fun e w' h => ?_
        have hc : chk (pgN [113] (hT y)) = 0 := chk_pg _ _ (by decide +kernel) (valid_hT h2)
        obtain ⟨h1, h2⟩ := h
        rw [if_pos hc, hc] at h1
        exact ⟨h1, h2⟩
      have HP2 : Hid (∀ V, Calls Tryz.prog 19 #[.string (B x), .string (⟨#[35]⟩ ++ B x)] V fun e w' => e = .returned (.tuple #[.string (B (t2F x)), .int .i64 0]) ∧ Below V.heap.size V w') := fun V => by
        have e0 : (⟨#[35]⟩ : ByteArray) ++ B x = B (35 :: x) := B_app [35] x
        rw [e0]
        refine (page_any x (35 :: x) V (by omega) (by simp; omega)).mono fun e w' h => ?_
        have hc : chk (pgN x (35 :: x)) = 0 := chk_pg _ _ (valid_nm h1) (valid_sh h1)
        obtain ⟨h1, h2⟩ := h
        rw [if_pos hc, hc] at h1
        exact ⟨h1, h2⟩
      have HF1 := Lib.hid (faults_f1 h2)
      have HF2 := Lib.hid (faults_f2 h1 h2)
      have HT := Lib.hid (t_lens h1 h2)
      generalize ht1 : t1F y = d1 at *
      generalize ht2 : t2F x = d2 at *
      go_wp2_with fail
      refine (HP1.out _).mono ?_
      rintro e w1 ⟨rfl, hb1⟩
      go_wp2_with fail
      refine (HP2.out _).mono ?_
      rintro e w2 ⟨rfl, hb2⟩
      have hB2 := hb1.trans (hb2.mono hb1.size)
      have hba := below_alloc w2 (.cells #[.string ⟨#[98, 47, 120, 46, 104, 116, 109, 108]⟩, .string (B d1)] 39)
      have hB3 := hB2.trans (hba.mono hB2.size)
      have hr1 := file_row w2 bxN d1
      have G1 : fileK = [102, 105, 108, 101] := rfl
      have G2 : anchorK = [97, 110, 99, 104, 111, 114] := rfl
      have ehT : (⟨#[121, 46, 104, 116, 109, 108, 35]⟩ : ByteArray) ++ B y = B (hT y) := B_app [121, 46, 104, 116, 109, 108, 35] y
      cases there
      · go_wp2_with fail
        refine (lcheck_any [(bxN, d1)] _ 1 1 _ hr1 (by omega) (fun f hf => by rw [List.mem_singleton] at hf; subst hf; exact ⟨show bxN.length ≤ 900000 from by decide, HT.out.1⟩) (hG.below hB3 (Nat.le_refl _))).mono ?_
        rintro e w3 ⟨A3, c3, rfl, hf3, hb3⟩
        rw [HF1.out] at hf3
        rw [HF1.out]
        have hB4 := hB3.trans (hb3.mono hB3.size)
        go_wp2_with fail
        have hba4 := below_alloc w3 (.cells #[.string (B fileK), .string (B bxN), .string (B (hT y))] 36)
        have hf4 := (hf3.below hba4).more hba4.size
        have hB5 := hB4.trans (hba4.mono hB4.size)
        have hr4 := ft_rows w3 (fileK, bxN, hT y)
        refine (same_any [(fileK, bxN, hT y)] [(fileK, bxN, hT y)] _ _ _ _ _ _ _ hf4 hr4 (by simp) (by simp)).mono ?_
        rintro e w5 ⟨rfl, hb5⟩
        rw [decide_eq_true rfl]
        have hB6 := hB5.trans (hb5.mono hB5.size)
        go_wp2_with fail
        refine (HAW.out _ (hG.below hB6 (Nat.le_refl _))).mono ?_
        rintro e w6 ⟨rfl, hb6⟩
        have hB7 := hB6.trans (hb6.mono hB6.size)
        go_wp2
        go_ret
        exact ⟨rfl, hB7⟩
      · by_cases hxy : x = y
        · subst hxy
          have dxy : (x == x) = true := by simp
          go_wp2_with fail
          have e1 : (w2.alloc (.cells #[.string (B bxN), .string (B d1)] 39)).heap.size = w2.heap.size + 1 := by simp
          have e2 : ((w2.alloc (.cells #[.string (B bxN), .string (B d1)] 39)).alloc (.cells #[.string (B byN), .string (B d2)] 39)).heap.size = w2.heap.size + 1 + 1 := by simp
          generalize Builtin.zeroCells _ _ = zs
          have hr3 := row2 ((w2.alloc (.cells #[.string (B bxN), .string (B d1)] 39)).alloc (.cells #[.string (B byN), .string (B d2)] 39)) bxN d1 byN d2 zs
          have hbq := below_dr (below_alloc ((w2.alloc (.cells #[.string (B bxN), .string (B d1)] 39)).alloc (.cells #[.string (B byN), .string (B d2)] 39)) (.cells (#[.string (B bxN), .string (B d1)] ++ (#[.string (B byN), .string (B d2)] ++ zs)) 39))
          have hb4 := hB3.alloc hB3.size (.cells #[.string (B byN), .string (B d2)] 39)
          have hB4 := hb4.trans (hbq.mono hb4.size)
          rw [e2] at hr3
          refine (lcheck_any [(bxN, d1), (byN, d2)] _ 2 _ _ hr3 (by omega) (fun f hf => by simp only [List.mem_cons, List.not_mem_nil, or_false] at hf; exact hf.elim (fun e => e ▸ ⟨show bxN.length ≤ 900000 from by decide, HT.out.1⟩) (fun e => e ▸ ⟨show byN.length ≤ 900000 from by decide, HT.out.2⟩)) (hG.below hB4 (Nat.le_refl _))).mono ?_
          rintro e w3 ⟨A3, c3, rfl, hf3, hb3⟩
          rw [HF2.out] at hf3
          rw [HF2.out]
          have hB5 := hB4.trans (hb3.mono hB4.size)
          rw [if_pos trivial]
          go_wp2_with fail
          refine (HAW.out _ (hG.below hB5 (Nat.le_refl _))).mono ?_
          rintro e w6 ⟨rfl, hb6⟩
          have hB6 := hB5.trans (hb6.mono hB5.size)
          go_wp2
          go_ret
          exact ⟨rfl, hB6⟩
        · have dxy : (x == y) = false := by simpa using hxy
          go_wp2_with fail
          have e1 : (w2.alloc (.cells #[.string (B bxN), .string (B d1)] 39)).heap.size = w2.heap.size + 1 := by simp
          have e2 : ((w2.alloc (.cells #[.string (B bxN), .string (B d1)] 39)).alloc (.cells #[.string (B byN), .string (B d2)] 39)).heap.size = w2.heap.size + 1 + 1 := by simp
          generalize Builtin.zeroCells _ _ = zs
          have hr3 := row2 ((w2.alloc (.cells #[.string (B bxN), .string (B d1)] 39)).alloc (.cells #[.string (B byN), .string (B d2)] 39)) bxN d1 byN d2 zs
          have hbq := below_dr (below_alloc ((w2.alloc (.cells #[.string (B bxN), .string (B d1)] 39)).alloc (.cells #[.string (B byN), .string (B d2)] 39)) (.cells (#[.string (B bxN), .string (B d1)] ++ (#[.string (B byN), .string (B d2)] ++ zs)) 39))
          have hb4 := hB3.alloc hB3.size (.cells #[.string (B byN), .string (B d2)] 39)
          have hB4 := hb4.trans (hbq.mono hb4.size)
          rw [e2] at hr3
          refine (lcheck_any [(bxN, d1), (byN, d2)] _ 2 _ _ hr3 (by omega) (fun f hf => by simp only [List.mem_cons, List.not_mem_nil, or_false] at hf; exact hf.elim (fun e => e ▸ ⟨show bxN.length ≤ 900000 from by decide, HT.out.1⟩) (fun e => e ▸ ⟨show byN.length ≤ 900000 from by decide, HT.out.2⟩)) (hG.below hB4 (Nat.le_refl _))).mono ?_
          rintro e w3 ⟨A3, c3, rfl, hf3, hb3⟩
          rw [HF2.out] at hf3
          rw [HF2.out]
          have hB5 := hB4.trans (hb3.mono hB4.size)
          rw [if_neg hxy] at hf3 ⊢
          go_wp2_with fail
          have hba4 := below_alloc w3 (.cells #[.string (B anchorK), .string (B bxN), .string (B (hT y))] 36)
          have hf4 := (hf3.below hba4).more hba4.size
          have hB6 := hB5.trans (hba4.mono hB5.size)
          have hr4 := ft_rows w3 (anchorK, bxN, hT y)
          refine (same_any [(anchorK, bxN, hT y)] [(anchorK, bxN, hT y)] _ _ _ _ _ _ _ hf4 hr4 (by simp) (by simp)).mono ?_
          rintro e w5 ⟨rfl, hb5⟩
          rw [decide_eq_true rfl]
          have hB7 := hB6.trans (hb5.mono hB6.size)
          go_wp2_with fail
          refine (HAW.out _ (hG.below hB7 (Nat.le_refl _))).mono ?_
          rintro e w6 ⟨rfl, hb6⟩
          have hB8 := hB7.trans (hb6.mono hB7.size)
          go_wp2
          go_ret
          exact ⟨rfl, hB8⟩
end Go.Proofs.YtejjidbodfoiiaaGreatDoor
