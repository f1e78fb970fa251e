/-
  Layer 16 (files): the names of paths and the directory of a path.
  Layer 16 (files): the plain functions: what the parts of a path, its names joined, its normal form are.
  Layer 16 (files): strings.Split and strings.Join at a slash, the names and parts of the reference, and Clean.
  Layer 16 (files): Clean: the normal form of a path.
  Layer 16 (files): the directory of a path, and Join.
-/
import Derived.Test.YtejjidbodfoiiaaGreatDoorBuilder
import Derived.Test.YtejjidbodfoiiaaGreatDoorShelf44
namespace Go.Proofs.YtejjidbodfoiiaaGreatDoor.Fil
set_option linter.unusedSimpArgs false
open Go.RowKit
set_option linter.unusedVariables false

/-- a byte of a path name -/
def okc (c : UInt8) : Bool := decide ((97 ≤ c.toNat ∧ c.toNat ≤ 122) ∨ (65 ≤ c.toNat ∧ c.toNat ≤ 90) ∨ (48 ≤ c.toNat ∧ c.toNat ≤ 57) ∨ c.toNat = 45 ∨ c.toNat = 95 ∨ c.toNat = 46)
def nameB (l : List UInt8) : Bool := l != [] && l != [46] && l != [46, 46] && l.all okc

theorem all_take (s : ByteArray) (k : Nat) (h : k < s.size) (hr : (s.toList.take k).all okc = true) (hc : okc s[k] = true) : (s.toList.take (k + 1)).all okc = true := by
  rw [take_byte s k h, List.all_append, hr]; simp [hc]
theorem all_not (s : ByteArray) (k : Nat) (h : k < s.size) (hc : okc s[k] = false) : s.toList.all okc = false := by
  rw [← List.take_append_drop k s.toList, drop_byte s k h]; simp [hc]
theorem nameB_no (l : List UInt8) (h : l.all okc = false) : false = nameB l := by unfold nameB; rw [h, Bool.and_false]
set_option maxHeartbeats 1000000 in
set_option maxRecDepth 100000 in
theorem pathName_any (s : ByteArray) (w : World) (hs : s.size ≤ 9223372036854775807) :
    Calls Tryz.prog 93 #[.string s] w fun e w' => e = .returned (.bool (nameB s.toList)) ∧ w = w' := by
  by_cases h0 : s.toList = []
  · have e0 : s.toList.isEmpty = true := by rw [h0]; rfl
    have HN : Hid (false = nameB s.toList) := by rw [h0]; rfl
    clear h0
    go_enter Tryz.func93, Tryz.ntmps93
    go_wp2
    go_ret
    exact ⟨ret_bool HN.out, rfl⟩
  · have e0 : s.toList.isEmpty = false := by cases h : s.toList with | nil => exact absurd h h0 | cons a b => rfl
    by_cases h1 : s.toList = [46]
    · have HN : Hid (false = nameB s.toList) := by rw [h1]; rfl
      go_enter Tryz.func93, Tryz.ntmps93
      go_wp2
      go_ret
      exact ⟨ret_bool HN.out, rfl⟩
    · have e1 : (s.toList == [46]) = false := by simpa using h1
      by_cases h2 : s.toList = [46, 46]
      · have HN : Hid (false = nameB s.toList) := by rw [h2]; rfl
        go_enter Tryz.func93, Tryz.ntmps93
        go_wp2
        go_ret
        exact ⟨ret_bool HN.out, rfl⟩
      · have e2 : (s.toList == [46, 46]) = false := by simpa using h2
        have HN : Hid (s.toList.all okc = true → true = nameB s.toList) := fun h => by simp [nameB, h0, h1, h2]; simpa using h
        clear h0 h1 h2
        go_enter Tryz.func93, Tryz.ntmps93
        go_wp2
        go_loop [3] (fun i => ∃ k : Nat, k ≤ s.size ∧ i = .int .i64 k ∧ Hid ((s.toList.take k).all okc = true)) (fun i => s.size - (intOf i).toNat)
        case atStart => exact ⟨0, Nat.zero_le _, rfl, rfl⟩
        case round =>
          obtain ⟨k, hk, rfl, hr⟩ := hrel
          by_cases hlt : k < s.size
          · go_wp2
            all_goals first
              | (go_round
                 case rel => exact ⟨k + 1, by omega, by go_num, all_take s k hlt hr.out (by unfold okc; simp only [beq_iff_eq, decide_eq_true_eq] at *; omega)⟩
                 case measure => simp [intOf]; omega)
              | (go_ret
                 exact ⟨ret_bool (nameB_no _ (all_not s k hlt (by unfold okc; simp only [beq_eq_false_iff_ne, decide_eq_false_iff_not, ne_eq] at *; omega))), rfl⟩)
          · go_wp2
            go_ret
            exact ⟨ret_bool (HN.out (by have := hr.out; rwa [List.take_of_length_le (by rw [len_toList]; omega)] at this)), rfl⟩

end Go.Proofs.YtejjidbodfoiiaaGreatDoor.Fil
namespace Go.Proofs.YtejjidbodfoiiaaGreatDoor.Fil
set_option linter.unusedSimpArgs false
set_option linter.unusedVariables false

/-- the parts of a path of which cur has been read since the last slash -/
def partsGo (cur : List UInt8) : List UInt8 → List (List UInt8)
  | [] => [cur]
  | c :: r => if c = 47 then cur :: partsGo [] r else partsGo (cur ++ [c]) r
def parts (l : List UInt8) : List (List UInt8) := partsGo [] l

theorem partsGo_cur (l : List UInt8) : ∀ cur : List UInt8, ∃ h t, parts l = h :: t ∧ partsGo cur l = (cur ++ h) :: t := by
  induction l with
  | nil => intro cur; exact ⟨[], [], rfl, by simp [partsGo]⟩
  | cons c r ih =>
    intro cur
    simp only [parts, partsGo]
    by_cases e : c = 47
    · rw [if_pos e, if_pos e]; exact ⟨[], _, rfl, by simp⟩
    · rw [if_neg e, if_neg e]
      obtain ⟨h, t, h1, h2⟩ := ih (cur ++ [c])
      obtain ⟨h', t', h1', h2'⟩ := ih ([] ++ [c])
      rw [h1] at h1'
      injection h1' with e1 e2
      subst e1; subst e2
      exact ⟨[c] ++ h, t, by simpa using h2', by simpa using h2⟩
theorem parts_cons (c : UInt8) (r : List UInt8) (h : ¬ c = 47) : ∃ x t, parts r = x :: t ∧ parts (c :: r) = (c :: x) :: t := by
  obtain ⟨x, t, h1, h2⟩ := partsGo_cur r [c]
  exact ⟨x, t, h1, by simp only [parts, partsGo]; rw [if_neg h]; simpa using h2⟩
theorem parts_slash (r : List UInt8) : parts (47 :: r) = [] :: parts r := by simp [parts, partsGo]

theorem split_parts (l : List UInt8) : Lib.split l [47] = parts l := by
  induction l with
  | nil => rfl
  | cons c r ih =>
    by_cases e : c = 47
    · subst e
      rw [parts_slash, ← ih]
      unfold Lib.split
      rw [Lib.count_cons_eq, Nat.add_comm, Lib.splitK]
      have hi : Lib.index (47 :: r) [47] = 0 := by simp [Lib.index, List.isPrefixOf]
      simp [hi]
    · obtain ⟨x, t, h1, h2⟩ := parts_cons c r e
      rw [h2]
      rw [h1] at ih
      unfold Lib.split at ih ⊢
      rw [Lib.count_cons_ne c 47 r e]
      have hp : List.isPrefixOf [47] (c :: r) = false := by simp [List.isPrefixOf]; exact fun h => e h.symm
      have hi : Lib.index (c :: r) [47] = if Lib.index r [47] == -1 then -1 else Lib.index r [47] + 1 := by
        rw [Lib.index]; simp [hp]
      cases hk : Lib.count r [47] with
      | zero =>
        rw [hk, Lib.splitK] at ih
        rw [Lib.splitK]
        injection ih with e1 e2
        rw [← e1, ← e2]
      | succ k =>
        obtain ⟨i, hidx⟩ := Lib.index_of_count (s := r) (old := [47]) (by omega)
        rw [hk, Lib.splitK, hidx] at ih
        rw [Lib.splitK, hi, hidx]
        have n1 : ¬ (((i : Int) == -1) = true) := by simp
        rw [if_neg n1] at ih
        rw [if_neg n1]
        have n2 : ¬ ((((i : Int) + 1) == -1) = true) := by simp; omega
        rw [if_neg n2]
        injection ih with e1 e2
        rw [← e1, ← e2]
        have e3 : ((i : Int) + 1).toNat = i + 1 := by omega
        have e4 : ((i : Int)).toNat = i := by omega
        rw [e3, e4]
        simp

/-- names, separated by slashes -/
def joinSl (ls : List (List UInt8)) : List UInt8 := Lib.join ls [47]

/-- the names that are left of the parts of a path; none: the path is not valid -/
def cleanGo (kept : List (List UInt8)) : List (List UInt8) → Option (List (List UInt8))
  | [] => some kept
  | p :: r =>
    if p = [] ∨ p = [46] then cleanGo kept r
    else if p = [46, 46] then (if kept = [] then none else cleanGo kept.dropLast r)
    else if nameB p = false then none
    else cleanGo (kept ++ [p]) r
/-- the normal form of a path; the empty list: there is none -/
def cleanK (k : Option (List (List UInt8))) : List UInt8 :=
  match k with
  | none => []
  | some ks => if (joinSl ks).length ≤ 200 then joinSl ks else []
def clean (l : List UInt8) : List UInt8 := cleanK (cleanGo [] (parts l))
def errK (l : List UInt8) : Int := if l = [] then 6 else 0

theorem lt_parts (l : List UInt8) : (parts l).length = l.count 47 + 1 := by
  induction l with
  | nil => rfl
  | cons c r ih =>
    by_cases e : c = 47
    · subst e; rw [parts_slash, List.length_cons, ih]; simp
    · obtain ⟨x, t, h1, h2⟩ := parts_cons c r e
      rw [h2, List.count_cons_of_ne (fun h => e h), ← ih, h1]; simp
theorem parts_le (l : List UInt8) : (parts l).length ≤ l.length + 1 := by
  rw [lt_parts]; have := List.count_le_length (a := (47 : UInt8)) (l := l); omega

end Go.Proofs.YtejjidbodfoiiaaGreatDoor.Fil
namespace Go.Proofs.YtejjidbodfoiiaaGreatDoor.Fil
set_option linter.unusedSimpArgs false
open Go.RowKit
set_option linter.unusedVariables false

/-- the library's variable bytealg.MaxLen holds some int -/
def Glob (w : World) : Prop := ∃ m, w.cell? ⟨0, 0, none⟩ = some (.int .i64 m)
theorem Glob.below {w w' : World} {M : Nat} (h : Glob w) (hb : Below M w w') (hM : w.heap.size ≤ M) : Glob w' := by
  obtain ⟨m, hm⟩ := h
  refine ⟨m, ?_⟩
  rw [hb.cell (p := ⟨0, 0, none⟩) (Nat.lt_of_lt_of_le (World.block_lt_of_cell? w _ hm) hM)]
  exact hm
theorem addr_lit (b o j : Nat) : (⟨b, o, none⟩ : Addr).add j = ⟨b, o + j, none⟩ := by unfold Addr.add; split <;> simp_all

theorem splitB_strs (s : ByteArray) : (Lib.splitB ⟨#[47]⟩ 0 (Lib.countB s ⟨#[47]⟩) s).map Value.string = strs (parts s.toList) := by
  have h := Lib.splitB_data ⟨#[47]⟩ 0 (Lib.countB s ⟨#[47]⟩) s
  have h2 : Lib.splitK [47] 0 (Lib.countB s ⟨#[47]⟩) s.data.toList = parts s.toList := by
    rw [← split_parts, ByteArray.toList_eq]; rfl
  rw [h2] at h
  rw [← h]
  unfold strs
  rw [List.map_map]
  apply List.map_congr_left
  intro x _
  show Value.string x = Value.string (B x.data.toList)
  rw [← ByteArray.toList_eq, B_self]

theorem ssplit_any (s : ByteArray) (w : World) (hs : s.size < 4294967281) (hG : Glob w) :
    Calls Tryz.prog 92 #[.string s, .string ⟨#[47]⟩] w fun e w' => ∃ v, e = .returned v ∧ w'.ownsRow w.heap.size 9 1 v (parts s.toList).length (strs (parts s.toList)) ∧ Below w.heap.size w w' := by
  obtain ⟨m, hm⟩ := hG
  refine (Tryz.strings_Split s ⟨#[47]⟩ m w hs hm (by decide)).mono ?_
  rintro e w' ⟨rfl, rfl⟩
  have hl : (parts s.toList).length = Lib.countB s ⟨#[47]⟩ + 1 := by
    have h1 := Lib.splitB_all ⟨#[47]⟩ (by decide) 0 _ s rfl
    have h2 := congrArg List.length (splitB_strs s)
    rw [List.length_map, h1, strs_len] at h2
    exact h2.symm
  refine ⟨_, rfl, ⟨by rw [strs_len, Nat.mul_one], .inr ⟨w.heap.size, Lib.countB s ⟨#[47]⟩ + 1, _, by rw [hl], Nat.le_refl _, heap_alloc_new w _, by omega, ?_, ?_, ?_⟩⟩, (Below.refl _ _).alloc (Nat.le_refl _) _⟩
  · have := parts_le s.toList; rw [len_toList] at this; unfold maxLen; omega
  · rw [splitB_strs, List.size_toArray, strs_len, hl, Nat.mul_one]
  · rw [splitB_strs]
    show (strs (parts s.toList)).take _ = _
    rw [List.take_of_length_le (by rw [strs_len, Nat.mul_one]; exact Nat.le_refl _)]

theorem sjoin_any (A : Option Addr) (n c : Nat) (ls : List (List UInt8)) (w : World) (hr : Rd w w.heap.size 1 A n (strs ls)) (hc : n ≤ c) (hn : n ≤ 140737488355328) (hlen : (joinSl ls).length ≤ 140737488355328) :
    Calls Tryz.prog 94 #[.slice A n c, .string ⟨#[47]⟩] w fun e w' => e = .returned (.string (B (joinSl ls))) ∧ Below w.heap.size w w' := by
  have hl := hr.strs_length
  rcases Nat.eq_zero_or_pos n with h0 | h0
  · subst h0
    have e : ls = [] := List.eq_nil_of_length_eq_zero hl
    subst e
    exact (Tryz.strings_Join_none A c ⟨#[47]⟩ w).mono fun _ _ ⟨h1, h2⟩ => ⟨h1, by rw [h2]; exact Below.refl _ _⟩
  · obtain ⟨ad, rfl, hb, hcell⟩ := hr.2 h0
    obtain ⟨bk, o, spot⟩ := ad
    have hx0 := hcell 0 _ (List.getElem?_eq_getElem (by rw [strs_len]; omega))
    have hsp : spot = none := by simpa [Addr.add] using World.cell?_spot hx0
    subst hsp
    have e1 : (ls.map B).map (·.data.toList) = ls := by rw [List.map_map]; conv => rhs; rw [← List.map_id ls]
                                                        apply List.map_congr_left; intro l _; simp [B]
    have h := Tryz.strings_Join bk o c (ls.map B) ⟨#[47]⟩ w (fun j x hj => ?_) hb (by rw [List.length_map, hl]; exact hn) (by rw [List.length_map, hl]; exact hc) (by rw [e1]; exact hlen)
    · rw [List.length_map, hl, e1] at h
      exact h
    · rw [← addr_lit]
      refine hcell j _ ?_
      unfold strs
      rw [List.getElem?_map] at hj ⊢
      cases hk : ls[j]? with
      | none => rw [hk] at hj; simp at hj
      | some l => rw [hk] at hj; simp at hj; simp [hj]

end Go.Proofs.YtejjidbodfoiiaaGreatDoor.Fil
namespace Go.Proofs.YtejjidbodfoiiaaGreatDoor.Fil
set_option linter.unusedSimpArgs false
open Go.RowKit
set_option linter.unusedVariables false
attribute [local go_sem] B_data B_size

theorem drop_getD (ls : List (List UInt8)) (k : Nat) (h : k < ls.length) : ls.drop k = ls[k]?.getD [] :: ls.drop (k + 1) := by
  rw [List.drop_eq_getElem_cons h]; simp [h]
theorem own_pop {w : World} {base : Nat} {A : Option Addr} {c : Nat} {ls : List (List UInt8)} (h : w.ownsRow base 9 1 (.slice A ls.length c) ls.length (strs ls)) (h0 : ls ≠ []) :
    w.ownsRow base 9 1 (.slice A (ls.length - 1) c) ls.dropLast.length (strs ls.dropLast) := by
  have hl : 0 < ls.length := List.length_pos_iff.2 h0
  rcases h.2 with ⟨_, h1⟩ | ⟨g, cap, cur, hv, hg, hh, hn, hcap, hsz, htake⟩
  · omega
  · cases hv
    refine ⟨by rw [strs_len, Nat.mul_one], .inr ⟨g, c, cur, by rw [List.length_dropLast], hg, hh, by rw [List.length_dropLast]; omega, hcap, hsz, ?_⟩⟩
    have e : strs ls.dropLast = (strs ls).take (ls.length - 1) := by unfold strs; rw [List.dropLast_eq_take, List.map_take]
    rw [e, ← htake, List.take_take, List.length_dropLast]
    congr 1
    omega

/-- one step of Clean, by the part's kind -/
theorem go_dot {kept r : List (List UInt8)} {p : List UInt8} (h : p = [] ∨ p = [46]) : cleanGo kept (p :: r) = cleanGo kept r := by rw [cleanGo, if_pos h]
theorem go_up {kept r : List (List UInt8)} {p : List UInt8} (h : p = [46, 46]) (h0 : kept ≠ []) : cleanGo kept (p :: r) = cleanGo kept.dropLast r := by
  subst h; rw [cleanGo, if_neg (by simp), if_pos rfl, if_neg h0]
theorem go_top {kept r : List (List UInt8)} {p : List UInt8} (h : p = [46, 46]) (h0 : kept = []) : cleanGo kept (p :: r) = none := by
  subst h; rw [cleanGo, if_neg (by simp), if_pos rfl, if_pos h0]
theorem go_bad {kept r : List (List UInt8)} {p : List UInt8} (h : ¬ (p = [] ∨ p = [46])) (h2 : p ≠ [46, 46]) (hn : nameB p = false) : cleanGo kept (p :: r) = none := by
  rw [cleanGo, if_neg h, if_neg h2, if_pos hn]
theorem go_name {kept r : List (List UInt8)} {p : List UInt8} (h : ¬ (p = [] ∨ p = [46])) (h2 : p ≠ [46, 46]) (hn : nameB p = true) : cleanGo kept (p :: r) = cleanGo (kept ++ [p]) r := by
  rw [cleanGo, if_neg h, if_neg h2, if_neg (by simp [hn])]

theorem parts_sum (l : List UInt8) : ∀ ls, parts l = ls → (ls.map List.length).sum + ls.length = l.length + 1 := by
  induction l with
  | nil => rintro ls rfl; rfl
  | cons c r ih =>
    rintro ls rfl
    have := ih _ rfl
    by_cases e : c = 47
    · subst e; rw [parts_slash]; simp; omega
    · obtain ⟨x, t, h1, h2⟩ := parts_cons c r e
      rw [h2]; rw [h1] at this; simp at this ⊢; omega
/-- how long the names are that are kept, with a slash each -/
def room (ls : List (List UInt8)) : Nat := (ls.map List.length).sum + ls.length
theorem room_snoc (ls : List (List UInt8)) (l : List UInt8) : room (ls ++ [l]) = room ls + l.length + 1 := by simp [room]; omega
theorem room_dropLast (ls : List (List UInt8)) : room ls.dropLast ≤ room ls := by
  rcases List.eq_nil_or_concat ls with rfl | ⟨a, b, rfl⟩
  · simp [room]
  · rw [List.concat_eq_append, List.dropLast_concat, room_snoc]; omega
theorem room_drop (ls : List (List UInt8)) (k : Nat) (h : k < ls.length) : room (ls.drop k) = room (ls.drop (k + 1)) + (ls[k]?.getD []).length + 1 := by
  rw [drop_getD ls k h]; simp [room]; omega
theorem join_room (ls : List (List UInt8)) : (joinSl ls).length ≤ room ls := by
  unfold joinSl
  induction ls with
  | nil => simp [Lib.join_nil, room]
  | cons a r ih =>
    cases r with
    | nil => rw [Lib.join_one]; simp [room]
    | cons b t =>
      have : Lib.join (a :: b :: t) [47] = a ++ [47] ++ Lib.join (b :: t) [47] := by simp [Lib.join, List.intercalate]
      rw [this]; simp [room] at ih ⊢; omega
theorem cleanK_long {ls : List (List UInt8)} (h : ¬ (joinSl ls).length ≤ 200) : cleanK (some ls) = [] := by simp only [cleanK]; rw [if_neg h]
theorem cleanK_short {ls : List (List UInt8)} (h : (joinSl ls).length ≤ 200) : cleanK (some ls) = joinSl ls := by simp only [cleanK]; rw [if_pos h]

/-- what Clean returns -/
def CleanRet (l : List UInt8) : Ending := .returned (.tuple #[.string (B (clean l)), .int .i64 (errK (clean l))])
theorem cleanRet_none {l : List UInt8} (h : clean l = []) : Ending.returned (.tuple #[.string ⟨#[]⟩, .int .i64 6]) = CleanRet l := by unfold CleanRet; rw [h]; rfl
theorem cleanRet_some {l s : List UInt8} (h : clean l = s) (h0 : s ≠ []) : Ending.returned (.tuple #[.string (B s), .int .i64 0]) = CleanRet l := by unfold CleanRet errK; rw [h, if_neg h0]

set_option maxHeartbeats 2000000 in
set_option maxRecDepth 100000 in
theorem clean_any (s : ByteArray) (w : World) (hs : s.size ≤ 1000000) (hG : Glob w) :
    Calls Tryz.prog 63 #[.string s] w fun e w' => e = CleanRet s.toList ∧ Below w.heap.size w w' := by
  have hps := parts_sum s.toList _ rfl
  rw [len_toList] at hps
  have hpr : room (parts s.toList) = s.size + 1 := hps
  clear hps
  have HP := Lib.hid hpr
  have hpl : (parts s.toList).length ≤ s.size + 1 := by rw [← hpr]; unfold room; omega
  clear hpr
  go_enter Tryz.func63, Tryz.ntmps63
  go_wp2_with fail
  with_reducible refine (ssplit_any s _ (by omega) hG).mono ?_
  rintro e w1 ⟨v1, rfl, hown1, hb1⟩
  obtain ⟨A1, c1, rfl, hc1⟩ := own_form hown1
  have hr1 := Rd.of_own hown1
  have hs1 := hb1.size
  clear hown1 hc1
  have HC : Hid (clean s.toList = cleanK (cleanGo [] (parts s.toList))) := rfl
  generalize parts s.toList = ps at *
  obtain ⟨n, hn⟩ : ∃ n, ps.length = n := ⟨_, rfl⟩
  have HL := Lib.hid hn
  rw [hn] at hr1 hpl
  rw [hn]
  clear hn
  go_wp2
  go_loopw [4, 11] (fun v i wr => ∃ (k : Nat) (kept : List (List UInt8)) (A : Option Addr) (c : Nat), k ≤ n ∧ kept.length ≤ k ∧ i = .int .i64 k ∧ v = .slice A kept.length c ∧ kept.length ≤ c ∧ wr.ownsRow w1.heap.size 9 1 (.slice A kept.length c) kept.length (strs kept) ∧ Below w1.heap.size w1 wr ∧
      Hid (cleanGo [] ps = cleanGo kept (ps.drop k) ∧ room kept + room (ps.drop k) ≤ s.size + 1)) (fun _ i _ => n - (intOf i).toNat)
  case atStart => exact ⟨0, [], none, 0, Nat.zero_le _, Nat.zero_le _, rfl, rfl, Nat.zero_le _, World.ownsRow_nil .., Below.refl _ _, rfl, by rw [List.drop_zero, HP.out]; simp [room]⟩
  case round =>
    obtain ⟨k, kept, A, c, hk, hkl, rfl, rfl, hkc, hown, hb, hr⟩ := hrel
    by_cases hlt : k < n
    · obtain ⟨ad, rfl, ha⟩ := (hr1.below hb).str hlt
      have HD := Lib.hid (drop_getD ps k (by rw [HL.out]; exact hlt))
      have HR := Lib.hid (room_drop ps k (by rw [HL.out]; exact hlt))
      have hbs := hb.size
      simp only [List.getD_eq_getElem?_getD] at ha
      generalize ps[k]?.getD [] = p at *
      by_cases h0 : p = [] ∨ p = [46]
      · have HS : Hid (cleanGo [] ps = cleanGo kept (ps.drop (k + 1)) ∧ room kept + room (ps.drop (k + 1)) ≤ s.size + 1) := by
          refine ⟨by rw [hr.out.1, HD.out, go_dot h0], ?_⟩
          have := hr.out.2; rw [HR.out] at this; omega
        rcases h0 with rfl | rfl
        all_goals
          go_wp2
          go_roundw
          case rel => exact ⟨k + 1, kept, A, c, by omega, by omega, by go_num, rfl, hkc, hown, hb, HS.out⟩
          case measure => simp [intOf]; omega
      · have e0 : p.isEmpty = false := by cases p with | nil => exact absurd (.inl rfl) h0 | cons a b => rfl
        have e1 : (p == [46]) = false := by simpa using fun h => h0 (.inr h)
        by_cases h2 : p = [46, 46]
        · by_cases hz : kept.length = 0
          · have hz0 : kept = [] := List.eq_nil_of_length_eq_zero hz
            have HN : Hid (clean s.toList = []) := by rw [HC.out, hr.out.1, HD.out, go_top h2 hz0]; rfl
            subst h2
            have e3 : ((kept.length : Int) == 0) = true := by simp [hz]
            clear hz hz0
            go_wp2
            go_ret2
            exact ⟨cleanRet_none HN.out, hb1.trans (hb.mono hs1)⟩
          · have hz0 : kept ≠ [] := fun e => hz (by rw [e]; rfl)
            have HS : Hid (cleanGo [] ps = cleanGo kept.dropLast (ps.drop (k + 1)) ∧ room kept.dropLast + room (ps.drop (k + 1)) ≤ s.size + 1) := by
              refine ⟨by rw [hr.out.1, HD.out, go_up h2 hz0], ?_⟩
              have := hr.out.2; rw [HR.out] at this; have := room_dropLast kept; omega
            have hown2 := own_pop hown hz0
            have HDL := Lib.hid (List.length_dropLast (xs := kept))
            subst h2
            have e3 : ((kept.length : Int) == 0) = false := by simp [hz]
            have hp1 : 1 ≤ kept.length := by omega
            clear hz hz0
            go_wp2
            go_roundw
            case rel => exact ⟨k + 1, kept.dropLast, A, c, by omega, by rw [HDL.out]; omega, by go_num, by rw [HDL.out], by rw [HDL.out]; omega, by rw [HDL.out] at hown2 ⊢; exact hown2, hb, HS.out⟩
            case measure => simp [intOf]; omega
        · have e2 : (p == [46, 46]) = false := by simpa using h2
          cases hnb : nameB p with
          | false =>
            have HN : Hid (clean s.toList = []) := by rw [HC.out, hr.out.1, HD.out, go_bad h0 h2 hnb]; rfl
            have HB := Lib.hid hnb
            clear h0 h2 hnb
            go_wp2_with fail
            with_reducible refine (pathName_any (B p) _ ?_).mono ?_
            · rw [B_size]; have := hr.out.2; rw [HR.out] at this; omega
            rintro e w2 ⟨rfl, rfl⟩
            rw [B_data, HB.out]
            go_wp2
            go_ret2
            exact ⟨cleanRet_none HN.out, hb1.trans (hb.mono hs1)⟩
          | true =>
            have HS : Hid (cleanGo [] ps = cleanGo (kept ++ [p]) (ps.drop (k + 1)) ∧ room (kept ++ [p]) + room (ps.drop (k + 1)) ≤ s.size + 1) := by
              refine ⟨by rw [hr.out.1, HD.out, go_name h0 h2 hnb], ?_⟩
              have := hr.out.2; rw [HR.out] at this; rw [room_snoc]; omega
            have HB := Lib.hid hnb
            clear h0 h2 hnb
            go_wp2_with fail
            with_reducible refine (pathName_any (B p) _ ?_).mono ?_
            · rw [B_size]; have := hr.out.2; rw [HR.out] at this; omega
            rintro e w2 ⟨rfl, rfl⟩
            rw [B_data, HB.out]
            go_wp2_with (at_builtin; refine wpList_app rfl _ _ 25 rfl 9 (.string ⟨#[]⟩) 1 16 Tryz.underlying25 Tryz.info9 rfl (by decide) wr [.string (B p)] rfl ?c1 w1.heap.size _ _ _ hown rfl rfl ?c2 (by decide) hbs ?_)
            case c1 => intro u hu; simp at hu; subst hu; rfl
            case c2 => omega
            intro v' w3 hown3 hg3 hb3
            rw [strs_snoc] at hown3
            have hl3 : (kept ++ [p]).length = kept.length + 1 := by simp
            rw [← hl3] at hown3
            obtain ⟨A3, c3, rfl, hc3⟩ := own_form hown3
            have HL3 := Lib.hid hl3; clear hl3
            go_wp2
            go_roundw
            case rel => exact ⟨k + 1, kept ++ [p], A3, c3, by omega, by rw [HL3.out]; omega, by go_num, rfl, hc3, hown3, hb.trans hb3, HS.out⟩
            case measure => simp [intOf]; omega
    · have hke : k = n := by omega
      have HE : Hid (cleanGo [] ps = some kept) := by rw [hr.out.1, List.drop_of_length_le (by rw [HL.out]; omega)]; rfl
      have hjr : (joinSl kept).length ≤ 1000001 := by have := join_room kept; have := hr.out.2; omega
      have HCK : Hid (clean s.toList = cleanK (some kept)) := by rw [HC.out, HE.out]; rfl
      have hbs := hb.size
      clear hke
      go_wp2_with fail
      with_reducible refine (sjoin_any A _ c kept _ (Rd.of_own hown) hkc (by omega) (by omega)).mono ?_
      rintro e w2 ⟨rfl, hb2⟩
      have hB2 : Below w.heap.size w w2 := (hb1.trans (hb.mono hs1)).trans (hb2.mono (by omega))
      by_cases hl : (joinSl kept).length ≤ 200
      · have HK : Hid (clean s.toList = joinSl kept) := by rw [HCK.out, cleanK_short hl]; rfl
        generalize joinSl kept = q at *
        by_cases hq : q = []
        · have HQ : Hid (clean s.toList = []) := by rw [HK.out, hq]; rfl
          subst hq
          go_wp2
          go_ret2
          exact ⟨cleanRet_none HQ.out, hB2⟩
        · have e0 : q.isEmpty = false := by cases q with | nil => exact absurd rfl hq | cons a b => rfl
          have HQ := Lib.hid hq; clear hq
          go_wp2
          go_ret2
          exact ⟨cleanRet_some HK.out HQ.out, hB2⟩
      · have HK : Hid (clean s.toList = []) := by rw [HCK.out, cleanK_long hl]; rfl
        generalize joinSl kept = q at *
        have e0 : q.isEmpty = false := by cases q with | nil => simp at hl | cons a b => rfl
        go_wp2
        go_ret2
        exact ⟨cleanRet_none HK.out, hB2⟩

end Go.Proofs.YtejjidbodfoiiaaGreatDoor.Fil
namespace Go.Proofs.YtejjidbodfoiiaaGreatDoor.Fil
set_option linter.unusedSimpArgs false
open Go.RowKit
set_option linter.unusedVariables false
attribute [local go_sem] B_data B_size

/-- the part ahead of the last byte c; all that is behind it -/
def ahead (c : UInt8) (l : List UInt8) : List UInt8 := ((l.reverse.dropWhile (· != c)).drop 1).reverse
def dirL (l : List UInt8) : List UInt8 := ahead 47 l

theorem dropWhile_all (c : UInt8) (l r : List UInt8) (h : c ∉ l) : (l ++ r).dropWhile (· != c) = r.dropWhile (· != c) := by
  induction l with
  | nil => rfl
  | cons a t ih =>
    have ha : ¬ a = c := fun e => h (by simp [e])
    rw [List.cons_append, List.dropWhile_cons]
    simp only [bne_iff_ne, ne_eq, ha, not_false_eq_true, if_true]
    exact ih fun e => h (by simp [e])
theorem ahead_hit (c : UInt8) (a b : List UInt8) (h : c ∉ b) : ahead c (a ++ c :: b) = a := by
  unfold ahead
  have e : (a ++ c :: b).reverse = b.reverse ++ (c :: a.reverse) := by simp
  rw [e, dropWhile_all c _ _ (by simpa using h)]
  simp
theorem ahead_miss (c : UInt8) (l : List UInt8) (h : c ∉ l) : ahead c l = [] := by
  unfold ahead
  have := dropWhile_all c l.reverse [] (by simpa using h)
  rw [List.append_nil] at this
  rw [this]; rfl
theorem data_at (s : ByteArray) (j : Nat) (h : j < s.size) : s.data[j]! = s[j] := by
  have h' : j < s.data.size := h
  rw [getElem!_pos s.data j h']; rfl
theorem toList_at (s : ByteArray) (k : Nat) (h : k < s.size) : s.toList[k]? = some s[k] := by
  have := congrArg List.head? (drop_byte s k h)
  simpa using this
theorem split_at (s : ByteArray) (k : Nat) (h : k < s.size) : s.toList = s.toList.take k ++ s[k] :: s.toList.drop (k + 1) := by
  conv => lhs; rw [← List.take_append_drop k s.toList, drop_byte s k h]
theorem not_mem_drop (s : ByteArray) (c : UInt8) (i : Nat) (h : ∀ j, i ≤ j → j < s.size → ((s.data[j]!).toNat : Int) ≠ c.toNat) : c ∉ s.toList.drop i := by
  intro hm
  obtain ⟨j, hj, e⟩ := List.mem_iff_getElem.1 hm
  rw [List.length_drop, len_toList] at hj
  rw [List.getElem_drop] at e
  have h1 := h (i + j) (by omega) (by omega)
  have h2 := toList_at s (i + j) (by omega)
  rw [List.getElem?_eq_getElem (by rw [len_toList]; omega), e] at h2
  injection h2 with h2
  rw [data_at s (i + j) (by omega), ← h2] at h1
  exact h1 rfl

theorem last_cases (s : ByteArray) (c : UInt8) : (Lib.lastIndexByte s c.toNat = -1 ∧ c ∉ s.toList) ∨
    (∃ i : Nat, i < s.size ∧ Lib.lastIndexByte s c.toNat = i ∧ s.toList = s.toList.take i ++ c :: s.toList.drop (i + 1) ∧ c ∉ s.toList.drop (i + 1)) := by
  rcases Lib.lastIndexByte_spec s c.toNat with ⟨h1, h2⟩ | ⟨i, hi, h1, h2, h3⟩
  · left
    refine ⟨h1, ?_⟩
    have := not_mem_drop s c 0 fun j _ hj => h2 j hj
    simpa using this
  · right
    have e : s[i] = c := by
      rw [data_at s i hi] at h2
      exact UInt8.toNat_inj.1 (by omega)
    refine ⟨i, hi, h1, ?_, not_mem_drop s c (i + 1) fun j hj hj' => h3 j (by omega) hj'⟩
    have := split_at s i hi
    rw [e] at this
    exact this

theorem directory_any (s : ByteArray) (w : World) (hs : s.size ≤ 1099511627776) :
    Calls Tryz.prog 64 #[.string s] w fun e w' => e = .returned (.string (B (dirL s.toList))) ∧ w = w' := by
  rcases last_cases s 47 with ⟨h1, h2⟩ | ⟨i, hi, h1, h2, h3⟩
  · have HD := Lib.hid (ahead_miss 47 _ h2)
    have C := Tryz.strings_LastIndexByte s 47 (by omega)
    rw [show (47 : Int) = ((47 : UInt8).toNat : Int) from rfl, h1] at C
    have HC := Lib.hid C
    clear C h1 h2
    go_enter Tryz.func64, Tryz.ntmps64
    go_wp2_with fail
    refine (HC.out _).mono ?_
    rintro e w' ⟨rfl, rfl⟩
    go_wp2
    go_ret
    exact ⟨ret_str (by unfold dirL; rw [HD.out]; exact B_take s 0), rfl⟩
  · have HD : Hid (dirL s.toList = s.toList.take i) := by
      unfold dirL
      have := ahead_hit 47 (s.toList.take i) _ h3
      rw [← h2] at this
      exact this
    have C := Tryz.strings_LastIndexByte s 47 (by omega)
    rw [show (47 : Int) = ((47 : UInt8).toNat : Int) from rfl, h1] at C
    have HC := Lib.hid C
    clear C h1 h2 h3
    go_enter Tryz.func64, Tryz.ntmps64
    go_wp2_with fail
    refine (HC.out _).mono ?_
    rintro e w' ⟨rfl, rfl⟩
    go_wp2
    go_ret
    exact ⟨ret_str (by rw [HD.out]; exact B_take s i), rfl⟩

theorem cat_toList (a b : ByteArray) (l : List UInt8) (h : b.toList = l) : (a ++ b).toList = a.toList ++ l := by
  rw [← h, ByteArray.toList_eq, ByteArray.toList_eq, ByteArray.toList_eq]; simp
theorem ahead_le (c : UInt8) (l : List UInt8) : (ahead c l).length ≤ l.length := by
  unfold ahead
  have := (List.dropWhile_sublist (fun x : UInt8 => x != c) (l := l.reverse)).length_le
  simp at this ⊢; omega
theorem clean_le (l : List UInt8) : (clean l).length ≤ 200 := by
  unfold clean cleanK
  split
  · simp
  · split
    · assumption
    · simp
/-- a path or the empty string, with the error -/
def PairRet (r : List UInt8) : Ending := .returned (.tuple #[.string (B r), .int .i64 (errK r)])
theorem pair_none {r : List UInt8} (h : r = []) : Ending.returned (.tuple #[.string ⟨#[]⟩, .int .i64 6]) = PairRet r := by rw [h]; rfl
/-- the path that is named in a file -/
def joinF (file path : List UInt8) : List UInt8 :=
  if clean file = [] then [] else if path = [] then [] else if path[0]? = some 47 then clean path else clean (dirL (clean file) ++ 47 :: path)

set_option maxHeartbeats 1000000 in
theorem fjoin_any (a b : ByteArray) (w : World) (ha : a.size ≤ 999000) (hb : b.size ≤ 990000) (hG : Glob w) :
    Calls Tryz.prog 37 #[.string a, .string b] w fun e w' => e = PairRet (joinF a.toList b.toList) ∧ Below w.heap.size w w' := by
  have H1 : Hid (joinF a.toList b.toList = if clean a.toList = [] then [] else if b.toList = [] then [] else if b.toList[0]? = some 47 then clean b.toList else clean (dirL (clean a.toList) ++ 47 :: b.toList)) := rfl
  have hcl := clean_le a.toList
  go_enter Tryz.func37, Tryz.ntmps37
  go_wp2_with fail
  with_reducible refine (clean_any a _ (by omega) hG).mono ?_
  rintro e w1 ⟨rfl, hb1⟩
  have hG1 := hG.below hb1 (Nat.le_refl _)
  have hs1 := hb1.size
  unfold CleanRet
  generalize clean a.toList = f at *
  by_cases hf : f = []
  · have HR : Hid (joinF a.toList b.toList = []) := by rw [H1.out, if_pos hf]; rfl
    subst hf
    have e0 : errK [] = 6 := rfl
    rw [e0]
    clear e0
    go_wp2
    go_ret2
    exact ⟨pair_none HR.out, hb1⟩
  · have e0 : errK f = 0 := by unfold errK; rw [if_neg hf]
    rw [e0]
    clear e0
    by_cases h0 : b.toList = []
    · have HR : Hid (joinF a.toList b.toList = []) := by rw [H1.out, if_neg hf, if_pos h0]; rfl
      have e1 : b.toList.isEmpty = true := by rw [h0]; rfl
      clear h0 hf
      go_wp2
      go_ret2
      exact ⟨pair_none HR.out, hb1⟩
    · have e1 : b.toList.isEmpty = false := by cases h : b.toList with | nil => exact absurd h h0 | cons x y => rfl
      have hbz : 0 < b.size := by rw [← len_toList]; exact List.length_pos_iff.2 h0
      have hg0 := toList_at b 0 hbz
      by_cases hc : ((b[0].toNat : Int) == 47) = true
      · have HR : Hid (joinF a.toList b.toList = clean b.toList) := by rw [H1.out, if_neg hf, if_neg h0, if_pos (by rw [hg0, byte_is (d := 47) hc])]; rfl
        clear h0 hf hg0
        go_wp2_with fail
        with_reducible refine (clean_any b _ (by omega) hG1).mono ?_
        rintro e w2 ⟨rfl, hb2⟩
        unfold CleanRet
        go_wp2
        go_ret2
        exact ⟨by rw [HR.out]; rfl, hb1.trans (hb2.mono hs1)⟩
      · have hc : ((b[0].toNat : Int) == 47) = false := by simpa using hc
        have HR : Hid (joinF a.toList b.toList = clean (dirL f ++ 47 :: b.toList)) := by
          rw [H1.out, if_neg hf, if_neg h0, if_neg (by rw [hg0]; intro h; injection h with h; exact byte_ne (d := 47) hc h)]; rfl
        clear h0 hf hg0
        have hdl := ahead_le 47 f
        have HT : Hid ((B (dirL f) ++ ⟨#[47]⟩ ++ b).toList = dirL f ++ 47 :: b.toList) := by
          have e1 := cat_toList (B (dirL f) ++ ⟨#[47]⟩) b _ rfl
          have e2 := cat_toList (B (dirL f)) ⟨#[47]⟩ [47] (B_data _)
          rw [e1, e2, B_data]; simp [Hid]
        have z1 : (⟨#[47]⟩ : ByteArray).size = 1 := rfl
        have hdl' : (dirL f).length ≤ 200 := Nat.le_trans hdl hcl
        go_wp2_with fail
        with_reducible refine (directory_any (B f) _ (by rw [B_size]; omega)).mono ?_
        rintro e w2 ⟨rfl, rfl⟩
        rw [B_data]
        go_wp2_with fail
        with_reducible refine (clean_any _ _ (by simp [B_size]; omega) hG1).mono ?_
        rintro e w2 ⟨rfl, hb2⟩
        rw [HT.out]
        unfold CleanRet
        go_wp2
        go_ret2
        exact ⟨by rw [HR.out]; rfl, hb1.trans (hb2.mono hs1)⟩

end Go.Proofs.YtejjidbodfoiiaaGreatDoor.Fil
