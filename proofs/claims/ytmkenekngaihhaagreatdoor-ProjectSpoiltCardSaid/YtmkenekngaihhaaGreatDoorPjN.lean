/-
  Layer 49 (project): a text divided at its spaces.
-/
import Derived.Test.YtmkenekngaihhaaGreatDoorPjL
namespace Go.Proofs.YtmkenekngaihhaaGreatDoor
open Go.RowKit
set_option linter.unusedVariables false
set_option linter.unusedSimpArgs false
attribute [local go_sem] B_data B_size

theorem wordsGo_cur (l : List UInt8) : ∀ cur : List UInt8, ∃ h t, wordsP l = h :: t ∧ wordsGo cur l = (cur ++ h) :: t := by
  induction l with
  | nil => intro cur; exact ⟨[], [], rfl, by simp [wordsGo]⟩
  | cons c r ih =>
    intro cur
    simp only [wordsP, wordsGo]
    by_cases e : c = 32
    · rw [if_pos e, if_pos e]; exact ⟨[], _, rfl, by simp⟩
    · rw [if_neg e, if_neg e]
      obtain ⟨h, t, h1, h2⟩ := ih (cur ++ [c])
      obtain ⟨h', t', h1', h2'⟩ := ih ([] ++ [c])
      rw [h1] at h1'
      injection h1' with e1 e2
      subst e1; subst e2
      exact ⟨[c] ++ h, t, by simpa using h2', by simpa using h2⟩
theorem words_cons (c : UInt8) (r : List UInt8) (h : ¬ c = 32) : ∃ x t, wordsP r = x :: t ∧ wordsP (c :: r) = (c :: x) :: t := by
  obtain ⟨x, t, h1, h2⟩ := wordsGo_cur r [c]
  exact ⟨x, t, h1, by simp only [wordsP, wordsGo]; rw [if_neg h]; simpa using h2⟩
theorem words_space (r : List UInt8) : wordsP (32 :: r) = [] :: wordsP r := by simp [wordsP, wordsGo]
theorem split_words (l : List UInt8) : Lib.split l [32] = wordsP l := by
  induction l with
  | nil => rfl
  | cons c r ih =>
    by_cases e : c = 32
    · subst e
      rw [words_space, ← ih]
      unfold Lib.split
      rw [Lib.count_cons_eq, Nat.add_comm, Lib.splitK]
      have hi : Lib.index (32 :: r) [32] = 0 := by simp [Lib.index, List.isPrefixOf]
      simp [hi]
    · obtain ⟨x, t, h1, h2⟩ := words_cons c r e
      rw [h2]
      rw [h1] at ih
      unfold Lib.split at ih ⊢
      rw [Lib.count_cons_ne c 32 r e]
      have hp : List.isPrefixOf [32] (c :: r) = false := by simp [List.isPrefixOf]; exact fun h => e h.symm
      have hi : Lib.index (c :: r) [32] = if Lib.index r [32] == -1 then -1 else Lib.index r [32] + 1 := by
        rw [Lib.index]; simp [hp]
      cases hk : Lib.count r [32] with
      | zero =>
        rw [hk, Lib.splitK] at ih
        rw [Lib.splitK]
        injection ih with e1 e2
        rw [← e1, ← e2]
      | succ k =>
        obtain ⟨i, hidx⟩ := Lib.index_of_count (s := r) (old := [32]) (by omega)
        rw [hk, Lib.splitK, hidx] at ih
        rw [Lib.splitK, hi, hidx]
        have n1 : ¬ (((i : Int) == -1) = true) := by simp
        rw [if_neg n1] at ih
        rw [if_neg n1]
        have n2 : ¬ ((((i : Int) + 1) == -1) = true) := by simp; omega
        rw [if_neg n2]
        injection ih with e1 e2
        rw [← e1, ← e2]
        have e3 : ((i : Int) + 1).toNat = i + 1 := by omega
        have e4 : ((i : Int)).toNat = i := by omega
        rw [e3, e4]
        simp
theorem words_len (l : List UInt8) : (wordsP l).length ≤ l.length + 1 := by
  induction l with
  | nil => simp [wordsP, wordsGo]
  | cons c r ih =>
    by_cases e : c = 32
    · subst e; rw [words_space]; simp; omega
    · obtain ⟨x, t, h1, h2⟩ := words_cons c r e
      rw [h2]; rw [h1] at ih; simp at ih ⊢; omega
theorem splitW_strs (s : ByteArray) : (Lib.splitB ⟨#[32]⟩ 0 (Lib.countB s ⟨#[32]⟩) s).map Value.string = strs (wordsP s.toList) := by
  have h := Lib.splitB_data ⟨#[32]⟩ 0 (Lib.countB s ⟨#[32]⟩) s
  have h2 : Lib.splitK [32] 0 (Lib.countB s ⟨#[32]⟩) s.data.toList = wordsP s.toList := by
    rw [← split_words, ByteArray.toList_eq]; rfl
  rw [h2] at h
  rw [← h]
  unfold strs
  rw [List.map_map]
  apply List.map_congr_left
  intro x _
  show Value.string x = Value.string (B x.data.toList)
  rw [← ByteArray.toList_eq, B_self]
theorem wsplit_any (s : ByteArray) (w : World) (hs : s.size ≤ 1000000000) (hG : Fil.Glob w) :
    Calls Tryz.prog 73 #[.string s, .string ⟨#[32]⟩] w fun e w' => ∃ v, e = .returned v ∧ w'.ownsRow w.heap.size 9 1 v (wordsP s.toList).length (strs (wordsP s.toList)) ∧ Below w.heap.size w w' := by
  obtain ⟨m, hm⟩ := hG
  refine (Tryz.strings_Split s ⟨#[32]⟩ m w (by omega) hm (by decide)).mono ?_
  rintro e w' ⟨rfl, rfl⟩
  have hl : (wordsP s.toList).length = Lib.countB s ⟨#[32]⟩ + 1 := by
    have h1 := Lib.splitB_all ⟨#[32]⟩ (by decide) 0 _ s rfl
    have h2 := congrArg List.length (splitW_strs s)
    rw [List.length_map, h1, strs_len] at h2
    exact h2.symm
  refine ⟨_, rfl, ⟨by rw [strs_len, Nat.mul_one], .inr ⟨w.heap.size, Lib.countB s ⟨#[32]⟩ + 1, _, by rw [hl], Nat.le_refl _, heap_alloc_new w _, by omega, ?_, ?_, ?_⟩⟩, (Below.refl _ _).alloc (Nat.le_refl _) _⟩
  · have := words_len s.toList; rw [len_toList] at this; unfold maxLen; omega
  · rw [splitW_strs, List.size_toArray, strs_len, hl, Nat.mul_one]
  · rw [splitW_strs]
    show (strs (wordsP s.toList)).take _ = _
    rw [List.take_of_length_le (by rw [strs_len, Nat.mul_one]; exact Nat.le_refl _)]
theorem words_yes (s : ByteArray) (f k : Nat) (done : List (List UInt8)) (hf : f ≤ k) (h : k < s.size) (hc : s[k].toNat = 32)
    (hr : wordsP s.toList = done ++ wordsGo ((s.toList.take k).drop f) (s.toList.drop k)) :
    wordsP s.toList = (done ++ [(s.toList.take k).drop f]) ++ wordsGo ((s.toList.take (k+1)).drop (k+1)) (s.toList.drop (k+1)) := by
  rw [hr, drop_byte s k h, wordsGo, if_pos (nat_32.2 hc), List.drop_of_length_le (l := s.toList.take (k + 1)) (i := k + 1) (by rw [List.length_take, len_toList]; omega)]
  simp
theorem words_no (s : ByteArray) (f k : Nat) (done : List (List UInt8)) (hf : f ≤ k) (h : k < s.size) (hc : s[k].toNat ≠ 32)
    (hr : wordsP s.toList = done ++ wordsGo ((s.toList.take k).drop f) (s.toList.drop k)) :
    wordsP s.toList = done ++ wordsGo ((s.toList.take (k+1)).drop f) (s.toList.drop (k+1)) := by
  rw [hr, drop_byte s k h, wordsGo, if_neg (fun e => hc (nat_32.1 e)), take_byte s k h, List.drop_append_of_le_length (by rw [List.length_take, len_toList]; omega)]
theorem words_last (s : ByteArray) (f : Nat) (done : List (List UInt8))
    (hr : wordsP s.toList = done ++ wordsGo ((s.toList.take s.size).drop f) (s.toList.drop s.size)) : wordsP s.toList = done ++ [s.toList.drop f] := by
  rw [List.take_of_length_le (by rw [len_toList]; omega), List.drop_of_length_le (l := s.toList) (i := s.size) (by rw [len_toList]; omega), wordsGo] at hr
  exact hr
theorem wordsGo_head (cur l : List UInt8) : ∃ h t, wordsGo cur l = (cur ++ h) :: t := by
  obtain ⟨h, t, _, h2⟩ := wordsGo_cur l cur
  exact ⟨h, t, h2⟩
def WPost (s : List UInt8) (w : World) (e : Ending) (w' : World) : Prop := ∃ v ok, e = .returned (.tuple #[v, .bool ok]) ∧ (if [] ∈ wordsP s then ok = false else ok = true ∧ w'.ownsRow w.heap.size 9 1 v (wordsP s).length (strs (wordsP s))) ∧ Below w.heap.size w w'
theorem wpost_no {s : List UInt8} {v : Value} {w w' : World} (h : Hid ([] ∈ wordsP s)) (hb : Below w.heap.size w w') : WPost s w (.returned (.tuple #[v, .bool false])) w' := ⟨v, false, rfl, by rw [if_pos h.out], hb⟩
theorem wpost_yes {s : List UInt8} {v : Value} {w w' : World} (h : Hid ([] ∉ wordsP s)) (ho : w'.ownsRow w.heap.size 9 1 v (wordsP s).length (strs (wordsP s))) (hb : Below w.heap.size w w') : WPost s w (.returned (.tuple #[v, .bool true])) w' := ⟨v, true, rfl, by rw [if_neg h.out]; exact ⟨rfl, ho⟩, hb⟩
theorem strs_app1 (a : List (List UInt8)) (x : List UInt8) : strs a ++ [.string (B x)] = strs (a ++ [x]) := by simp [strs]
set_option maxHeartbeats 4000000 in
set_option maxRecDepth 100000 in
theorem words_any (s : ByteArray) (w : World) (hs : s.size ≤ 1000000000) :
    Calls Tryz.prog 67 #[.string s] w (WPost s.toList w) := by
  have HL := Lib.hid (len_toList s)
  go_enter Tryz.func67, Tryz.ntmps67
  go_wp2
  go_loopw [4, 5, 6] (fun v f i wr => ∃ (k q : Nat) (done : List (List UInt8)), k ≤ s.size + 1 ∧ q ≤ k ∧ done.length ≤ k ∧ i = .int .i64 k ∧ f = .int .i64 q ∧ wr.ownsRow w.heap.size 9 1 v done.length (strs done) ∧ Below w.heap.size w wr ∧
      Hid ([] ∉ done) ∧ Hid (k ≤ s.size → wordsP s.toList = done ++ wordsGo ((s.toList.take k).drop q) (s.toList.drop k)) ∧ Hid (s.size < k → wordsP s.toList = done)) (fun _ _ i _ => s.size + 1 - (intOf i).toNat)
  case atStart => exact ⟨0, 0, [], by omega, Nat.zero_le _, Nat.zero_le _, rfl, rfl, World.ownsRow_nil .., Below.refl _ _, by simp [Hid], fun _ => rfl, fun h => by omega⟩
  case round =>
    obtain ⟨k, q, done, hk, hq, hd, rfl, rfl, hown, hb, hno, hr, hr2⟩ := hrel
    by_cases hle : k ≤ s.size
    · have HR := Lib.hid (hr.out hle)
      clear hr hr2
      by_cases hlt : k < s.size
      · by_cases hc : s[k].toNat = 32
        · have hcb : ((s[k].toNat : Int) == 32) = true := by simp [hc]
          have hkb : ((k : Int) == (s.size : Int)) = false := by simp; omega
          by_cases hkq : k = q
          · have HX : Hid ([] ∈ wordsP s.toList) := by
              rw [words_yes s q k done hq hlt hc HR.out]
              have : (s.toList.take k).drop q = [] := List.drop_of_length_le (by rw [List.length_take, HL.out]; omega)
              rw [this]; simp [Hid]
            have hb2 : ((k : Int) == (q : Int)) = true := by simp; omega
            clear hc hkq
            go_wp2
            go_ret2
            exact wpost_no HX hb
          · have hb2 : ((k : Int) == (q : Int)) = false := by simp; omega
            have HNE : Hid ([] ∉ done ++ [(s.toList.take k).drop q]) := by
              intro h
              rcases List.mem_append.1 h with h | h
              · exact hno.out h
              · have h := List.mem_singleton.1 h
                have := congrArg List.length h
                rw [List.length_drop, List.length_take, HL.out, List.length_nil] at this
                omega
            have HY := Lib.hid (words_yes s q k done hq hlt hc HR.out)
            clear hc hkq
            go_wp2_with (at_builtin; refine wpList_app rfl _ _ 23 rfl 9 (.string ⟨#[]⟩) 1 16 Tryz.underlying23 Tryz.info9 rfl (by decide) wr [.string (s.extract q k)] rfl ?c1 w.heap.size _ _ _ hown rfl rfl ?c2 (by decide) hb.size ?_)
            case c1 => intro u hu; simp at hu; subst hu; rfl
            case c2 => omega
            intro v' w1 hown1 hg1 hb1
            rw [B_extract, strs_app1] at hown1
            have hB := hb.trans hb1
            clear hg1 hb1
            go_wp2
            go_roundw
            case rel => exact ⟨k + 1, k + 1, done ++ [(s.toList.take k).drop q], by omega, by omega, by rw [List.length_append, List.length_singleton]; omega, by go_num, by go_num, by simpa using hown1, hB, HNE, fun _ => HY.out, fun h => by omega⟩
            case measure => simp [intOf]; omega
        · have hcb : ((s[k].toNat : Int) == 32) = false := by simp; omega
          have hkb : ((k : Int) == (s.size : Int)) = false := by simp; omega
          have HY := Lib.hid (words_no s q k done hq hlt hc HR.out)
          clear hc
          go_wp2
          go_roundw
          case rel => exact ⟨k + 1, q, done, by omega, by omega, by omega, by go_num, rfl, hown, hb, hno, fun _ => HY.out, fun h => by omega⟩
          case measure => simp [intOf]; omega
      · obtain rfl : k = s.size := by omega
        have HY := Lib.hid (words_last s q done HR.out)
        have hkb : ((s.size : Int) == (s.size : Int)) = true := by simp
        by_cases hkq : s.size = q
        · have HX : Hid ([] ∈ wordsP s.toList) := by
            rw [HY.out]
            have : s.toList.drop q = [] := List.drop_of_length_le (by rw [HL.out]; omega)
            rw [this]; simp [Hid]
          have hb2 : ((s.size : Int) == (q : Int)) = true := by simp; omega
          clear hkq
          go_wp2
          go_ret2
          exact wpost_no HX hb
        · have hb2 : ((s.size : Int) == (q : Int)) = false := by simp; omega
          have HNE : Hid ([] ∉ done ++ [s.toList.drop q]) := by
            intro h
            rcases List.mem_append.1 h with h | h
            · exact hno.out h
            · have h := List.mem_singleton.1 h
              have := congrArg List.length h
              rw [List.length_drop, HL.out, List.length_nil] at this
              omega
          clear hkq
          go_wp2_with (at_builtin; refine wpList_app rfl _ _ 23 rfl 9 (.string ⟨#[]⟩) 1 16 Tryz.underlying23 Tryz.info9 rfl (by decide) wr [.string (s.extract q s.size)] rfl ?c3 w.heap.size _ _ _ hown rfl rfl ?c4 (by decide) hb.size ?_)
          case c3 => intro u hu; simp at hu; subst hu; rfl
          case c4 => omega
          intro v' w1 hown1 hg1 hb1
          rw [B_drop, strs_app1] at hown1
          have hB := hb.trans hb1
          clear hg1 hb1
          go_wp2
          go_roundw
          case rel => exact ⟨s.size + 1, s.size + 1, done ++ [s.toList.drop q], by omega, by omega, by rw [List.length_append, List.length_singleton]; omega, by go_num, by go_num, by simpa using hown1, hB, HNE, fun h => by omega, fun _ => HY.out⟩
          case measure => first | (simp [intOf]; done) | (simp [intOf]; omega)
    · obtain rfl : k = s.size + 1 := by omega
      have HY := Lib.hid (hr2.out (by omega))
      have HN : Hid ([] ∉ wordsP s.toList) := by rw [HY.out]; exact hno.out
      clear hr hr2
      go_wp2
      go_ret2
      exact wpost_yes HN (by rw [HY.out]; exact hown) hb
/-- what a row of strings of the call's own reads -/
theorem own_cells {w : World} {base n : Nat} {v : Value} {ls : List (List UInt8)} (h : w.ownsRow base 9 1 v n (strs ls)) (h0 : 0 < n) : ∃ g c, v = .slice (some ⟨g, 0, none⟩) n c ∧ base ≤ g ∧ ∀ j, j < n → w.cell? ⟨g, j, none⟩ = some (.string (B (ls.getD j []))) := by
  have hl : ls.length = n := by have := h.1; rw [strs_len] at this; omega
  rcases h.2 with ⟨_, h1⟩ | ⟨g, cap, cur, hv, hb, hg, _⟩
  · omega
  · refine ⟨g, cap, hv, hb, fun j hj => ?_⟩
    have hc := h.cells (g := g) (by rw [hv]; rfl) j (.string (B (ls.getD j []))) (by
      unfold strs
      rw [List.getElem?_map, List.getElem?_eq_getElem (by omega)]
      simp [List.getD_eq_getElem?_getD, List.getElem?_eq_getElem (show j < ls.length by omega)])
    rw [addr_lit, Nat.zero_add] at hc
    exact hc
/-- a target, and whether it is one -/
def TRet (o : Option Tg) (w : World) (e : Ending) (w' : World) : Prop := (match o with
  | some t => e = .returned (.tuple #[.agg #[.string (B t.nm), .string (B t.kd), .int .i64 t.pg, .int .i64 t.wd], .bool true])
  | none => ∃ x y a b, e = .returned (.tuple #[.agg #[.string x, .string y, .int .i64 a, .int .i64 b], .bool false])) ∧ Below w.heap.size w w'
theorem tret_some {o : Option Tg} {n k : List UInt8} {a b : Int} {w w' : World} (h : Hid (o = some ⟨n, k, a, b⟩)) (hb : Below w.heap.size w w') : TRet o w (.returned (.tuple #[.agg #[.string (B n), .string (B k), .int .i64 a, .int .i64 b], .bool true])) w' := by unfold TRet; rw [h.out]; exact ⟨rfl, hb⟩
theorem tret_none {o : Option Tg} {x y : ByteArray} {a b : Int} {w w' : World} (h : Hid (o = none)) (hb : Below w.heap.size w w') : TRet o w (.returned (.tuple #[.agg #[.string x, .string y, .int .i64 a, .int .i64 b], .bool false])) w' := by unfold TRet; rw [h.out]; exact ⟨⟨x, y, a, b, rfl⟩, hb⟩
theorem tP_bad {s : List UInt8} (h : [] ∈ wordsP s) : targetP s = none := by unfold targetP; rw [if_pos h]
theorem tP_len {s : List UInt8} (h : (wordsP s).length ≠ 2 ∧ (wordsP s).length ≠ 4) : targetP s = none := by
  unfold targetP
  split
  · rfl
  · split
    · rename_i e; rw [e] at h; exact absurd rfl h.1
    · rename_i e; rw [e] at h; exact absurd rfl h.2
    · rfl
theorem tP_two {s : List UInt8} (h0 : [] ∉ wordsP s) (h : (wordsP s).length = 2) : targetP s = if (wordsP s).getD 1 [] = kPages then none else some ⟨(wordsP s).getD 0 [], (wordsP s).getD 1 [], 0, 0⟩ := by
  unfold targetP
  rw [if_neg h0]
  match hw : wordsP s, h with
  | [a, b], _ => rfl
theorem tP_four {s : List UInt8} (h0 : [] ∉ wordsP s) (h : (wordsP s).length = 4) : targetP s = if (wordsP s).getD 1 [] = kPages then (match numP ((wordsP s).getD 2 []), numP ((wordsP s).getD 3 []) with
    | some x, some y => some ⟨(wordsP s).getD 0 [], (wordsP s).getD 1 [], x, y⟩
    | _, _ => none) else none := by
  unfold targetP
  rw [if_neg h0]
  match hw : wordsP s, h with
  | [a, b, c, d], _ => rfl
end Go.Proofs.YtmkenekngaihhaaGreatDoor
