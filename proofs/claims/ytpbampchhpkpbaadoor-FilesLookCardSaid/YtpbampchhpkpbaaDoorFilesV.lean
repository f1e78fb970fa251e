/-
  Layer 16 (files): Set.
-/
import Derived.Test.YtpbampchhpkpbaaDoorFilesU
import Derived.StillTailTactics
import Derived.IntWalk
namespace Go.Proofs.YtpbampchhpkpbaaDoor
set_option linter.unusedSimpArgs false
open Go.RowKit
set_option linter.unusedVariables false
attribute [local go_sem] B_data B_size

theorem fls_append (a b : List (List UInt8 × List UInt8)) : fls (a ++ b) = fls a ++ fls b := by simp [fls]
theorem fls_take (a : List (List UInt8 × List UInt8)) (k : Nat) : (fls a).take (k * 2) = fls (a.take k) := by
  induction a generalizing k with
  | nil => simp [fls]
  | cons f r ih =>
    cases k with
    | zero => simp [fls]
    | succ k =>
      have e : fls (f :: r) = [.string (B f.1), .string (B f.2)] ++ fls r := by simp [fls]
      have e2 : fls (f :: r.take k) = [.string (B f.1), .string (B f.2)] ++ fls (r.take k) := by simp [fls]
      rw [List.take_succ_cons, e, e2, ← ih k, show (k + 1) * 2 = 2 + k * 2 from by omega, List.take_append, List.take_of_length_le (by simp)]
      simp
theorem fls_drop (a : List (List UInt8 × List UInt8)) (k : Nat) : (fls a).drop (k * 2) = fls (a.drop k) := by
  have h := List.take_append_drop (k * 2) (fls a)
  rw [fls_take] at h
  have h2 : fls (a.take k) ++ fls (a.drop k) = fls a := by rw [← fls_append, List.take_append_drop]
  exact List.append_cancel_left (h.trans h2.symm)
/-- the list ys laid over xs from k on -/
def layF (xs : List (List UInt8 × List UInt8)) (k : Nat) (ys : List (List UInt8 × List UInt8)) : List (List UInt8 × List UInt8) := xs.take k ++ (ys ++ xs.drop (k + ys.length))
theorem lay_fls (xs : List (List UInt8 × List UInt8)) (k : Nat) (ys : List (List UInt8 × List UInt8)) : lay (fls xs) (k * 2) (fls ys) = fls (layF xs k ys) := by
  unfold lay layF
  rw [fls_take, fls_len, show k * 2 + 2 * ys.length = (k + ys.length) * 2 from by omega, fls_drop, fls_append, fls_append]
theorem fls_set (xs : List (List UInt8 × List UInt8)) (k : Nat) (f : List UInt8 × List UInt8) (h : k < xs.length) : ((fls xs).set (k * 2) (.string (B f.1))).set (k * 2 + 1) (.string (B f.2)) = fls (xs.set k f) := by
  induction xs generalizing k with
  | nil => simp at h
  | cons x r ih =>
    have e : ∀ (y : List UInt8 × List UInt8) (q : List (List UInt8 × List UInt8)), fls (y :: q) = .string (B y.1) :: .string (B y.2) :: fls q := fun y q => by simp [fls]
    cases k with
    | zero => rw [e]; simp [e]
    | succ k =>
      rw [List.set_cons_succ, e, e, ← ih k (by simpa using h), show (k + 1) * 2 = k * 2 + 1 + 1 from by omega, show k * 2 + 1 + 1 + 1 = (k * 2 + 1) + 1 + 1 from rfl]
      simp
theorem fls_one (fs : List (List UInt8 × List UInt8)) : ∀ u ∈ fls fs, u.oneCell' = true := by
  intro u hu
  simp only [fls, List.mem_flatMap] at hu
  obtain ⟨f, _, h⟩ := hu
  simp at h
  rcases h with rfl | rfl <;> rfl

/-- a string is not greater than another -/
def leB (a b : List UInt8) : Bool := Op.bytesLess a b || a == b
/-- how many names at the beginning are not greater -/
def atGo (name : List UInt8) : List (List UInt8 × List UInt8) → Nat
  | [] => 0
  | f :: r => if leB f.1 name = true then atGo name r + 1 else 0
def setL (fs : List (List UInt8 × List UInt8)) (f : List UInt8 × List UInt8) : List (List UInt8 × List UInt8) :=
  if findL f.1 fs 0 < 0 then fs.take (atGo f.1 fs) ++ f :: fs.drop (atGo f.1 fs) else fs.set (findL f.1 fs 0).toNat f
theorem atGo_le (name : List UInt8) (fs : List (List UInt8 × List UInt8)) : atGo name fs ≤ fs.length := by
  induction fs with
  | nil => simp [atGo]
  | cons f r ih => simp only [atGo]; split <;> simp; omega

theorem heap_set {w : World} {g : Nat} {cs : List Value} {t : TypeId} (h : w.heap[g]? = some (.cells cs.toArray t (0, 0))) (i : Nat) (u : Value) : (w.setCell ⟨g, i, none⟩ u).heap[g]? = some (.cells (cs.set i u).toArray t (0, 0)) := by
  simp [World.setCell, Array.getElem?_modify, h]
theorem own_of_row {w : World} {base g n : Nat} {xs : List (List UInt8 × List UInt8)} (h : w.heap[g]? = some (.cells (fls xs).toArray 36 (0, 0))) (hb : base ≤ g) (hn : xs.length = n) (hm : n ≤ 1000001) :
    w.ownsRow base 36 2 (.slice (some ⟨g, 0, none⟩) n n) n (fls xs) :=
  ⟨by rw [fls_len]; omega, .inr ⟨g, n, _, rfl, hb, h, Nat.le_refl _, by unfold maxLen; omega, by simp [fls_len]; omega, by rw [List.take_of_length_le (by simp [fls_len]; omega)]⟩⟩

theorem lay_end (fs : List (List UInt8 × List UInt8)) (f : List UInt8 × List UInt8) (n k : Nat) (hl : fs.length = n) (hk : k ≤ n) :
    layF (fs.take k ++ f :: List.replicate (n - k) ([], [])) (k + 1) (fs.drop k) = fs.take k ++ f :: fs.drop k := by
  unfold layF
  have e1 : (fs.take k ++ f :: List.replicate (n - k) ([], [])) = (fs.take k ++ [f]) ++ List.replicate (n - k) ([], []) := by simp
  have l1 : (fs.take k ++ [f]).length = k + 1 := by simp; omega
  have e2 : ((fs.take k ++ [f]) ++ List.replicate (n - k) (([], []) : List UInt8 × List UInt8)).drop (k + 1 + (fs.drop k).length) = [] := by
    apply List.drop_of_length_le
    rw [List.length_append, l1, List.length_replicate, List.length_drop, hl]; omega
  rw [e1, e2, List.take_append_of_le_length (by omega), List.take_of_length_le (by omega)]
  simp
theorem set_mid (fs : List (List UInt8 × List UInt8)) (f : List UInt8 × List UInt8) (n k : Nat) (hl : fs.length = n) (hk : k ≤ n) :
    (fs.take k ++ List.replicate (n + 1 - k) ([], [])).set k f = fs.take k ++ f :: List.replicate (n - k) ([], []) := by
  have e : n + 1 - k = (n - k) + 1 := by omega
  rw [e, List.replicate_succ, List.set_append_right _ _ (by rw [List.length_take]; omega), List.length_take, hl, Nat.min_eq_left hk]
  simp

set_option maxHeartbeats 4000000 in
set_option maxRecDepth 100000 in
theorem set_any (A : Option Addr) (n c : Nat) (fs : List (List UInt8 × List UInt8)) (f : List UInt8 × List UInt8) (w : World) (hx : Rd w w.heap.size 2 A n (fls fs)) (hn : n ≤ 900000) (hnc : n ≤ c) :
    Calls Tryd.prog 26 #[.slice A n c, .agg #[.string (B f.1), .string (B f.2)]] w fun e w' => ∃ v, e = .returned v ∧ w'.ownsRow w.heap.size 36 2 v (setL fs f).length (fls (setL fs f)) ∧ Below w.heap.size w w' := by
  have HL := Lib.hid hx.fls_length
  have hx1 : Rd (w.alloc (.cells #[.string (B f.1), .string (B f.2)] 36)) (w.alloc (.cells #[.string (B f.1), .string (B f.2)] 36)).heap.size 2 A n (fls fs) :=
    (hx.below ((Below.refl _ _).alloc (Nat.le_refl _) _)).more (by simp)
  have C := find_any A n c fs (B f.1) _ hx1 (by omega)
  rw [B_data] at C
  have HC := Lib.hid C
  clear C hx1
  rcases findL_cases f.1 fs 0 with h | ⟨k, hk, h, hnm⟩
  · have HS : Hid (setL fs f = fs.take (atGo f.1 fs) ++ f :: fs.drop (atGo f.1 fs)) := by unfold setL; rw [if_pos (by omega)]; rfl
    rw [h] at HC
    clear h
    have hmk := run_makeFiles (n + 1) (by omega)
    simp only [Int.natCast_add, Int.cast_ofNat_Int] at hmk
    go_enter Tryd.func26, Tryd.ntmps26
    go_wp2_with fail
    refine HC.out.mono ?_
    rintro e w1 ⟨rfl, hb1⟩
    have hB1 : Below w.heap.size w w1 := ((Below.refl _ _).alloc (Nat.le_refl _) _).trans (hb1.mono (by simp))
    have hs1 := hb1.size
    simp at hs1
    have q0 : w1.cell? ⟨w.heap.size, 0, none⟩ = some (.string (B f.1)) := by rw [hb1.cell (p := ⟨w.heap.size, 0, none⟩) (by simp)]; simp
    have q1 : w1.cell? ⟨w.heap.size, 1, none⟩ = some (.string (B f.2)) := by rw [hb1.cell (p := ⟨w.heap.size, 1, none⟩) (by simp)]; simp
    clear HC hb1
    go_wp2
    go_loopw [7] (fun i wr => ∃ k q : Nat, k ≤ n ∧ i = .int .i64 k ∧ wr = w1.drewN q ∧ Hid (atGo f.1 fs = k + atGo f.1 (fs.drop k))) (fun i _ => n - (intOf i).toNat)
    case atStart => exact ⟨0, 0, Nat.zero_le _, rfl, rfl, by simp [Hid]⟩
    case round =>
      obtain ⟨k, q, hk, rfl, rfl, hr⟩ := hrel
      have hcase : (k < n ∧ leB (fs[k]?.getD ([], [])).1 f.1 = true) ∨ (atGo f.1 fs = k ∧ ((k < n ∧ leB (fs[k]?.getD ([], [])).1 f.1 = false) ∨ ¬ k < n)) := by
        by_cases hlt : k < n
        · have hd := fdrop fs k (by rw [HL.out]; exact hlt)
          by_cases hle : leB (fs[k]?.getD ([], [])).1 f.1 = true
          · exact .inl ⟨hlt, hle⟩
          · refine .inr ⟨?_, .inl ⟨hlt, by simpa using hle⟩⟩
            rw [hr.out, hd, atGo, if_neg hle]; rfl
        · refine .inr ⟨?_, .inr hlt⟩
          rw [hr.out, List.drop_of_length_le (by rw [HL.out]; omega)]; rfl
      rcases hcase with ⟨hlt, hle⟩ | ⟨hat, hcase⟩
      · obtain ⟨b, o, rfl, hm, h0, h1⟩ := (hx.below hB1).file hlt
        have HN : Hid (atGo f.1 fs = (k + 1) + atGo f.1 (fs.drop (k + 1))) := by
          rw [hr.out, fdrop fs k (by rw [HL.out]; exact hlt), atGo, if_pos hle]; simp [Hid]; omega
        unfold leB at hle
        have hd : decide (k < n) = true := by simpa using hlt
        generalize fs[k]?.getD ([], []) = g at *
        go_wp2
        go_quiet (fail)
        go_wp2
        go_roundw
        case rel => exact ⟨k + 1, _, by omega, by go_num, rfl, HN.out⟩
        case measure => simp [intOf]; omega
      · have HAT := Lib.hid hat
        clear hat hr
        have hxt := (hx.below hB1).take hk
        have hxd := (hx.below hB1).cut hk hnc
        rw [fls_take] at hxt
        rw [fls_drop] at hxd
        have hlay1 : lay (fls (List.replicate (n + 1) ([], []))) 0 (fls (fs.take k)) = fls (fs.take k ++ List.replicate (n + 1 - k) ([], [])) := by
          have := lay_fls (List.replicate (n + 1) ([], [])) 0 (fs.take k)
          rw [Nat.zero_mul] at this
          rw [this]
          unfold layF
          rw [List.length_take, HL.out, Nat.min_eq_left hk]
          simp
        have HLAY := Lib.hid hlay1; clear hlay1
        rcases hcase with ⟨hlt, hle⟩ | hlt
        · obtain ⟨b, o, rfl, hm, h0, h1⟩ := (hx.below hB1).file hlt
          unfold leB at hle
          have hd : decide (k < n) = true := by simpa using hlt
          generalize fs[k]?.getD ([], []) = g at *
          go_wp2
          go_quiet (fail)
          go_wp2_with (with_reducible refine wpList_copyN rfl _ _ 31 31 rfl 36 _ 2 32 Tryd.underlying31 Tryd.infoFile _ _ (n + 1) (n + 1) k k k rfl rfl (Nat.min_eq_left (by omega)) w1.heap.size 0 (fls (List.replicate (n + 1) ([], []))) 36 ?hg (fls (fs.take k)) ?c1 (fun _ => rfl) w.heap.size ?hr ?c2 (fls_one _) w.heap.size w ?c3 ?c4 ?_)
          case hg => exact heap_alloc_new (w1.drewN _) _
          case hr => exact hxt.below ((below_of_drewN w.heap.size w1 _).alloc (by show _ ≤ w1.heap.size; omega) _)
          case c1 => rw [fls_len, List.length_take, HL.out, Nat.min_eq_left hk]; omega
          case c2 => rw [fls_len, fls_len, List.length_take, HL.out]; simp; omega
          case c3 => exact (below_drewN hB1 _).alloc (by show _ ≤ w1.heap.size; omega) _
          case c4 => omega
          intro w2 hg2 hb2 hgr2
          rw [HLAY.out] at hg2
          have q0' : w2.cell? ⟨w.heap.size, 0, none⟩ = some (.string (B f.1)) := by
            rw [World.cell?_of_block (w := (w1.drewN _).alloc _) (hgr2.block w.heap.size (by simp; omega) (by simp; omega)), World.cell?_alloc_lt _ _ _ (by show w.heap.size < w1.heap.size; omega)]; exact q0
          have q1' : w2.cell? ⟨w.heap.size, 1, none⟩ = some (.string (B f.2)) := by
            rw [World.cell?_of_block (w := (w1.drewN _).alloc _) (hgr2.block w.heap.size (by simp; omega) (by simp; omega)), World.cell?_alloc_lt _ _ _ (by show w.heap.size < w1.heap.size; omega)]; exact q1
          have hs2 : w1.heap.size < w2.heap.size := by have := hgr2.size; simp at this; omega
          obtain ⟨l1, l2⟩ := fls_at (fs.take k ++ List.replicate (n + 1 - k) ([], [])) k (by rw [List.length_append, List.length_take, HL.out]; simp; omega)
          have c0 : w2.cell? ⟨w1.heap.size, k * 2, none⟩ = some (.string (B ((fs.take k ++ List.replicate (n + 1 - k) ([], []))[k]?.getD ([], [])).1)) := by rw [Lib.cell_of_heap hg2.out]; simpa using l1
          have c1 : w2.cell? ⟨w1.heap.size, k * 2 + 1, none⟩ = some (.string (B ((fs.take k ++ List.replicate (n + 1 - k) ([], []))[k]?.getD ([], [])).2)) := by rw [Lib.cell_of_heap hg2.out]; simpa using l2
          have z0 : w2.frozen? ⟨w1.heap.size, k * 2, none⟩ = false := Lib.frozen_of_heap hg2.out _
          have z1 : w2.frozen? ⟨w1.heap.size, k * 2 + 1, none⟩ = false := Lib.frozen_of_heap hg2.out _
          have HG3 : Hid (((w2.setCell ⟨w1.heap.size, k * 2, none⟩ (.string (B f.1))).setCell ⟨w1.heap.size, k * 2 + 1, none⟩ (.string (B f.2))).heap[w1.heap.size]? = some (.cells (fls (fs.take k ++ f :: List.replicate (n - k) ([], []))).toArray 36 (0, 0))) := by
            have := heap_set (heap_set hg2.out (k * 2) (.string (B f.1))) (k * 2 + 1) (.string (B f.2))
            rw [fls_set _ k f (by rw [List.length_append, List.length_take, HL.out]; simp; omega), set_mid fs f n k HL.out hk] at this
            exact this
          have hb3 : Below w.heap.size w ((w2.setCell ⟨w1.heap.size, k * 2, none⟩ (.string (B f.1))).setCell ⟨w1.heap.size, k * 2 + 1, none⟩ (.string (B f.2))) := (hb2.setCell (p := ⟨w1.heap.size, k * 2, none⟩) (by show _ ≤ w1.heap.size; omega) _).setCell (p := ⟨w1.heap.size, k * 2 + 1, none⟩) (by show _ ≤ w1.heap.size; omega) _
          clear q0 q1 l1 l2
          generalize (fs.take k ++ List.replicate (n + 1 - k) ([], []))[k]?.getD ([], []) = old at *
          go_wp2
          have hxd3 : Rd ((w2.setCell ⟨w1.heap.size, k * 2, none⟩ (.string (B f.1))).setCell ⟨w1.heap.size, k * 2 + 1, none⟩ (.string (B f.2))) w.heap.size 2 (if c = k then some ⟨b, o, none⟩ else some ⟨b, o + k * 2, none⟩) (n - k) (fls (fs.drop k)) := by
            have := (hx.cut hk hnc).below hb3
            rw [fls_drop] at this
            simpa only [Option.map_some, addr_lit] using this
          generalize ((w2.setCell ⟨w1.heap.size, k * 2, none⟩ (.string (B f.1))).setCell ⟨w1.heap.size, k * 2 + 1, none⟩ (.string (B f.2))) = w3 at *
          clear z0 z1 c0 c1 q0' q1'
          have hw1 : IntKind.i64.wrap ((k : Int) + 1) = (k : Int) + 1 := IntWalk.i64_in _ (by omega)
          have hw2 : ((k : Int) + 1).toNat = k + 1 := by omega
          have hw3 : (0 : Int) ≤ (k : Int) + 1 := by omega
          have hw4 : (k : Int) + 1 ≤ (n : Int) + 1 := by omega
          have hw5 : (k : Int) ≤ (n : Int) := by omega
          go_still_tail 7, (by kernel_rfl)
          clear hw1 hw2 hw3 hw4 hw5
          change wpList _ _ _ _ _ w3.drew
          refine wpList_copyN rfl _ _ 31 31 rfl 36 _ 2 32 Tryd.underlying31 Tryd.infoFile _ _ _ _ _ _ (n - k) rfl rfl ?hm w1.heap.size ((k + 1) * 2) (fls (fs.take k ++ f :: List.replicate (n - k) ([], []))) 36 HG3 (fls (fs.drop k)) ?c1 ?hdp w.heap.size ?hr ?c2 (fls_one _) w.heap.size w hb3.drew ?c4 ?_
          case hm => exact Nat.min_eq_left (by omega)
          case c1 => rw [fls_len, List.length_drop, HL.out]; omega
          case hdp => exact fun _ => if_neg (by omega)
          case hr => exact hxd3
          case c2 => rw [fls_len, fls_len, List.length_drop, HL.out, List.length_append, List.length_take, HL.out]; simp; omega
          case c4 => omega
          intro w4 hg4 hb4 _
          have hlay2 : lay (fls (fs.take k ++ f :: List.replicate (n - k) ([], []))) ((k + 1) * 2) (fls (fs.drop k)) = fls (setL fs f) := by
            rw [lay_fls, HS.out, HAT.out]
            exact congrArg fls (lay_end fs f n k HL.out hk)
          rw [hlay2] at hg4
          clear hlay2
          have HSL : Hid ((setL fs f).length = n + 1) := by rw [HS.out, HAT.out, List.length_append, List.length_cons, List.length_take, List.length_drop, HL.out]; simp [Hid]; omega
          go_wp2
          go_ret
          refine ⟨_, rfl, ?_, hb4⟩
          rw [HSL.out]
          exact own_of_row hg4.out (by omega) HSL.out (by omega)
        · obtain rfl : n = k := by omega
          have hd : decide (n < n) = false := by simp
          clear hlt
          have HZ : Hid (fls (fs.drop n) = []) := by rw [List.drop_of_length_le (by rw [HL.out]; omega)]; rfl
          go_wp2
          go_quiet (fail)
          go_wp2_with (with_reducible refine wpList_copyN rfl _ _ 31 31 rfl 36 _ 2 32 Tryd.underlying31 Tryd.infoFile _ _ (n + 1) (n + 1) n n n rfl rfl (Nat.min_eq_left (by omega)) w1.heap.size 0 (fls (List.replicate (n + 1) ([], []))) 36 ?hg (fls (fs.take n)) ?c1 (fun _ => rfl) w.heap.size ?hr ?c2 (fls_one _) w.heap.size w ?c3 ?c4 ?_)
          case hg => exact heap_alloc_new (w1.drewN _) _
          case hr => exact hxt.below ((below_of_drewN w.heap.size w1 _).alloc (by show _ ≤ w1.heap.size; omega) _)
          case c1 => rw [fls_len, List.length_take, HL.out, Nat.min_eq_left hk]; omega
          case c2 => rw [fls_len, fls_len, List.length_take, HL.out]; simp; omega
          case c3 => exact (below_drewN hB1 _).alloc (by show _ ≤ w1.heap.size; omega) _
          case c4 => omega
          intro w2 hg2 hb2 hgr2
          rw [HLAY.out] at hg2
          have q0' : w2.cell? ⟨w.heap.size, 0, none⟩ = some (.string (B f.1)) := by
            rw [World.cell?_of_block (w := (w1.drewN _).alloc _) (hgr2.block w.heap.size (by simp; omega) (by simp; omega)), World.cell?_alloc_lt _ _ _ (by show w.heap.size < w1.heap.size; omega)]; exact q0
          have q1' : w2.cell? ⟨w.heap.size, 1, none⟩ = some (.string (B f.2)) := by
            rw [World.cell?_of_block (w := (w1.drewN _).alloc _) (hgr2.block w.heap.size (by simp; omega) (by simp; omega)), World.cell?_alloc_lt _ _ _ (by show w.heap.size < w1.heap.size; omega)]; exact q1
          have hs2 : w1.heap.size < w2.heap.size := by have := hgr2.size; simp at this; omega
          obtain ⟨l1, l2⟩ := fls_at (fs.take n ++ List.replicate (n + 1 - n) ([], [])) n (by rw [List.length_append, List.length_take, HL.out]; simp)
          have c0 : w2.cell? ⟨w1.heap.size, n * 2, none⟩ = some (.string (B ((fs.take n ++ List.replicate (n + 1 - n) ([], []))[n]?.getD ([], [])).1)) := by rw [Lib.cell_of_heap hg2.out]; simpa using l1
          have c1 : w2.cell? ⟨w1.heap.size, n * 2 + 1, none⟩ = some (.string (B ((fs.take n ++ List.replicate (n + 1 - n) ([], []))[n]?.getD ([], [])).2)) := by rw [Lib.cell_of_heap hg2.out]; simpa using l2
          have z0 : w2.frozen? ⟨w1.heap.size, n * 2, none⟩ = false := Lib.frozen_of_heap hg2.out _
          have z1 : w2.frozen? ⟨w1.heap.size, n * 2 + 1, none⟩ = false := Lib.frozen_of_heap hg2.out _
          have HG3 : Hid (((w2.setCell ⟨w1.heap.size, n * 2, none⟩ (.string (B f.1))).setCell ⟨w1.heap.size, n * 2 + 1, none⟩ (.string (B f.2))).heap[w1.heap.size]? = some (.cells (fls (fs.take n ++ f :: List.replicate (n - n) ([], []))).toArray 36 (0, 0))) := by
            have := heap_set (heap_set hg2.out (n * 2) (.string (B f.1))) (n * 2 + 1) (.string (B f.2))
            rw [fls_set _ n f (by rw [List.length_append, List.length_take, HL.out]; simp), set_mid fs f n n HL.out hk] at this
            exact this
          have hb3 : Below w.heap.size w ((w2.setCell ⟨w1.heap.size, n * 2, none⟩ (.string (B f.1))).setCell ⟨w1.heap.size, n * 2 + 1, none⟩ (.string (B f.2))) := (hb2.setCell (p := ⟨w1.heap.size, n * 2, none⟩) (by show _ ≤ w1.heap.size; omega) _).setCell (p := ⟨w1.heap.size, n * 2 + 1, none⟩) (by show _ ≤ w1.heap.size; omega) _
          clear q0 q1 l1 l2
          generalize (fs.take n ++ List.replicate (n + 1 - n) ([], []))[n]?.getD ([], []) = old at *
          go_wp2
          generalize ((w2.setCell ⟨w1.heap.size, n * 2, none⟩ (.string (B f.1))).setCell ⟨w1.heap.size, n * 2 + 1, none⟩ (.string (B f.2))) = w3 at *
          clear z0 z1 c0 c1 q0' q1'
          have hw1 : IntKind.i64.wrap ((n : Int) + 1) = (n : Int) + 1 := IntWalk.i64_in _ (by omega)
          have hw2 : ((n : Int) + 1).toNat = n + 1 := by omega
          have hw3 : (0 : Int) ≤ (n : Int) + 1 := by omega
          have hw4 : (n : Int) + 1 ≤ (n : Int) + 1 := by omega
          have hw5 : (n : Int) ≤ (n : Int) := by omega
          go_still_tail 7, (by kernel_rfl)
          clear hw1 hw2 hw3 hw4 hw5
          change wpList _ _ _ _ _ w3.drew
          refine wpList_copyN rfl _ _ 31 31 rfl 36 _ 2 32 Tryd.underlying31 Tryd.infoFile _ _ _ _ _ _ (n - n) rfl rfl ?hm w1.heap.size ((n + 1) * 2) (fls (fs.take n ++ f :: List.replicate (n - n) ([], []))) 36 HG3 (fls (fs.drop n)) ?c1 ?hdp w.heap.size ?hr ?c2 (fls_one _) w.heap.size w hb3.drew ?c4 ?_
          case hm => simp
          case c1 => rw [fls_len, List.length_drop, HL.out]; omega
          case hdp => exact fun h => absurd h (by omega)
          case hr => rw [HZ.out, show n - n = 0 from by omega]; exact Rd.nil
          case c2 => rw [fls_len, fls_len, List.length_drop, HL.out, List.length_append, List.length_take, HL.out]; simp; omega
          case c4 => omega
          intro w4 hg4 hb4 _
          have hlay2 : lay (fls (fs.take n ++ f :: List.replicate (n - n) ([], []))) ((n + 1) * 2) (fls (fs.drop n)) = fls (setL fs f) := by
            rw [lay_fls, HS.out, HAT.out]
            exact congrArg fls (lay_end fs f n n HL.out hk)
          rw [hlay2] at hg4
          clear hlay2
          have HSL : Hid ((setL fs f).length = n + 1) := by rw [HS.out, HAT.out, List.length_append, List.length_cons, List.length_take, List.length_drop, HL.out]; simp [Hid]
          go_wp2
          go_ret
          · exact ⟨_, rfl, by rw [HSL.out]; exact own_of_row hg4.out (by omega) HSL.out (by omega), hb4⟩
          · go_ret
            exact ⟨_, rfl, by rw [HSL.out]; exact own_of_row hg4.out (by omega) HSL.out (by omega), hb4⟩
  · have hkn : k < n := by rw [← HL.out]; exact hk
    have HS : Hid (setL fs f = fs.set k f) := by unfold setL; rw [h, if_neg (by omega)]; simp [Hid]
    rw [h] at HC
    have e0 : ((0 : Nat) : Int) + (k : Int) = (k : Int) := by omega
    simp only [Int.natCast_add, e0] at HC
    clear h hnm e0 hk
    have hmk := run_makeFiles n (by omega)
    go_enter Tryd.func26, Tryd.ntmps26
    go_wp2_with fail
    refine HC.out.mono ?_
    rintro e w1 ⟨rfl, hb1⟩
    have hB1 : Below w.heap.size w w1 := ((Below.refl _ _).alloc (Nat.le_refl _) _).trans (hb1.mono (by simp))
    have hs1 := hb1.size
    simp at hs1
    have q0 : w1.cell? ⟨w.heap.size, 0, none⟩ = some (.string (B f.1)) := by rw [hb1.cell (p := ⟨w.heap.size, 0, none⟩) (by simp)]; simp
    have q1 : w1.cell? ⟨w.heap.size, 1, none⟩ = some (.string (B f.2)) := by rw [hb1.cell (p := ⟨w.heap.size, 1, none⟩) (by simp)]; simp
    have hg0 : Hid ((w1.alloc (.cells (fls (List.replicate n ([], []))).toArray 36)).heap[w1.heap.size]? = some (.cells (fls (List.replicate n ([], []))).toArray 36 (0, 0))) := heap_alloc_new w1 _
    have hr2 := (hx.below hB1).below ((Below.refl w.heap.size w1).alloc (by omega) (.cells (fls (List.replicate n ([], []))).toArray 36))
    go_wp2_with (with_reducible refine wpList_copyN rfl _ _ 31 31 rfl 36 _ 2 32 Tryd.underlying31 Tryd.infoFile _ A n n n c n rfl rfl (Nat.min_self n) w1.heap.size 0 (fls (List.replicate n ([], []))) 36 hg0 (fls fs) ?c1 (fun _ => rfl) w.heap.size hr2 ?c2 (fls_one fs) w.heap.size w ?c3 ?c4 ?_)
    case c1 => rw [fls_len, HL.out]; omega
    case c2 => rw [fls_len, fls_len, HL.out]; simp
    case c3 => exact hB1.alloc (by omega) _
    case c4 => omega
    intro w2 hg2 hb2 hgr2
    have hlay : lay (fls (List.replicate n ([], []))) 0 (fls fs) = fls fs := by
      have := lay_fls (List.replicate n ([], [])) 0 fs
      rw [Nat.zero_mul] at this
      rw [this]
      unfold layF
      rw [HL.out]; simp
    rw [hlay] at hg2
    clear hlay
    have q0' : w2.cell? ⟨w.heap.size, 0, none⟩ = some (.string (B f.1)) := by
      rw [World.cell?_of_block (w := w1.alloc _) (hgr2.block w.heap.size (by simp; omega) (by simp; omega)), World.cell?_alloc_lt _ _ _ (by show w.heap.size < _; omega)]; exact q0
    have q1' : w2.cell? ⟨w.heap.size, 1, none⟩ = some (.string (B f.2)) := by
      rw [World.cell?_of_block (w := w1.alloc _) (hgr2.block w.heap.size (by simp; omega) (by simp; omega)), World.cell?_alloc_lt _ _ _ (by show w.heap.size < _; omega)]; exact q1
    obtain ⟨l1, l2⟩ := fls_at fs k (by rw [HL.out]; exact hkn)
    have c0 : w2.cell? ⟨w1.heap.size, k * 2, none⟩ = some (.string (B (fs[k]?.getD ([], [])).1)) := by rw [Lib.cell_of_heap hg2.out]; simpa using l1
    have c1 : w2.cell? ⟨w1.heap.size, k * 2 + 1, none⟩ = some (.string (B (fs[k]?.getD ([], [])).2)) := by rw [Lib.cell_of_heap hg2.out]; simpa using l2
    have z0 : w2.frozen? ⟨w1.heap.size, k * 2, none⟩ = false := Lib.frozen_of_heap hg2.out _
    have z1 : w2.frozen? ⟨w1.heap.size, k * 2 + 1, none⟩ = false := Lib.frozen_of_heap hg2.out _
    have HSL : Hid ((setL fs f).length = n) := by rw [HS.out, List.length_set]; exact HL.out
    clear q0 q1 l1 l2
    generalize fs[k]?.getD ([], []) = old at *
    go_wp2
    go_ret
    refine ⟨_, rfl, ?_, ?_⟩
    · rw [HSL.out]
      refine own_of_row ?_ (by omega) HSL.out (by omega)
      have := heap_set (heap_set hg2.out (k * 2) (.string (B f.1))) (k * 2 + 1) (.string (B f.2))
      rw [fls_set fs k f (by rw [HL.out]; exact hkn)] at this
      rw [HS.out]
      exact this
    · exact (hb2.setCell (p := ⟨w1.heap.size, k * 2, none⟩) (by show _ ≤ w1.heap.size; omega) _).setCell (p := ⟨w1.heap.size, k * 2 + 1, none⟩) (by show _ ≤ w1.heap.size; omega) _

end Go.Proofs.YtpbampchhpkpbaaDoor
