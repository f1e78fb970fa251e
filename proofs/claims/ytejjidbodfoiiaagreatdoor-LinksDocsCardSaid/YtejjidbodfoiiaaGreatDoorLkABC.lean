/-
  Layer 44 (links): is a path that of a page, does a reference lead to another place, the parts of a reference.
  Layer 44 (links): set, outside, references, anchors.
  Layer 44 (links): references, anchors of a page.
-/
import Derived.Test.YtejjidbodfoiiaaGreatDoorLkP
import Derived.Test.YtejjidbodfoiiaaGreatDoorMap
import Derived.Test.YtejjidbodfoiiaaGreatDoorShelf44
import Derived.Test.YtejjidbodfoiiaaGreatDoorLkM
namespace Go.Proofs.YtejjidbodfoiiaaGreatDoor
open Go.RowKit
set_option linter.unusedVariables false
set_option linter.unusedSimpArgs false
attribute [local go_sem] B_data B_size

theorem cut_hash : ∀ s : List UInt8, Lib.cut s [35] = (pathOf s, fragOf s, hasF s) := by
  intro s
  induction s with
  | nil => rfl
  | cons c l ih =>
    by_cases hc : c = 35
    · subst hc
      have e : Lib.index (35 :: l) [35] = 0 := by
        unfold Lib.index
        rw [if_pos (by simp [List.isPrefixOf])]
      unfold Lib.cut
      rw [e, if_pos (by omega)]
      simp [pathOf, fragOf, hasF]
    · have h0 : List.isPrefixOf [35] (c :: l) = false := by
        cases hq : List.isPrefixOf [35] (c :: l) with
        | false => rfl
        | true =>
          rw [List.isPrefixOf_iff_prefix] at hq
          obtain ⟨t, ht⟩ := hq
          injection ht with h1 h2
          exact absurd h1.symm hc
      have hp : pathOf (c :: l) = c :: pathOf l := by unfold pathOf; rw [List.takeWhile_cons]; simp [hc]
      have hf : fragOf (c :: l) = fragOf l := by unfold fragOf; rw [List.dropWhile_cons]; simp [hc]
      have hh : hasF (c :: l) = hasF l := by
        unfold hasF
        rw [List.contains_cons]
        have : (35 == c) = false := by rw [beq_eq_false_iff_ne]; exact fun e => hc e.symm
        rw [this, Bool.false_or]
      have hi : Lib.index (c :: l) [35] = if Lib.index l [35] == -1 then -1 else Lib.index l [35] + 1 := by
        rw [Lib.index, h0]; rfl
      rw [hp, hf, hh]
      unfold Lib.cut at ih ⊢
      have hge := Lib.index_ge l [35]
      by_cases hn : Lib.index l [35] = -1
      · rw [hn] at ih hi
        rw [if_neg (by omega)] at ih
        injection ih with i1 i2
        injection i2 with i2 i3
        rw [hi, if_neg (by decide), ← i1, ← i2, ← i3]
      · have hb : (Lib.index l [35] == -1) = false := by rw [beq_eq_false_iff_ne]; exact hn
        rw [hb] at hi
        simp only [Bool.false_eq_true, if_false] at hi
        rw [if_pos (by omega)] at ih
        injection ih with i1 i2
        injection i2 with i2 i3
        obtain ⟨k, hk⟩ : ∃ k : Nat, Lib.index l [35] = k := ⟨(Lib.index l [35]).toNat, by omega⟩
        rw [hk] at i1 i2 hi
        have ek : ((k : Int) + 1).toNat = k + 1 := by omega
        have ek0 : ((k : Int)).toNat = k := by omega
        rw [ek0] at i1 i2
        rw [hi, if_pos (by omega), ek, ← i1, ← i2, ← i3]
        simp
theorem suf_eq (s p : List UInt8) : Lib.hasSuffix s p = p.isSuffixOf s := rfl
theorem named_any (s : List UInt8) (w : World) (hs : s.length ≤ 1000000000) :
    Calls Tryz.prog 38 #[.string (B s)] w fun e w' => e = .returned (.bool (named s)) ∧ w' = w := by
  have e1 : (B s).data.toList = s := by simp [B]
  have H1 : Hid (∀ V, Calls Tryz.prog 65 #[.string (B s), .string ⟨#[46, 104, 116, 109, 108]⟩] V fun e w' => e = .returned (.bool (dotH.isSuffixOf s)) ∧ w' = V) := fun V => by
    have := Tryz.strings_HasSuffix (B s) ⟨#[46, 104, 116, 109, 108]⟩ V (by rw [B_size]; omega)
    rw [e1] at this
    exact this
  have H2 : Hid (∀ V, Calls Tryz.prog 65 #[.string (B s), .string ⟨#[46, 120, 104, 116, 109, 108]⟩] V fun e w' => e = .returned (.bool (dotX.isSuffixOf s)) ∧ w' = V) := fun V => by
    have := Tryz.strings_HasSuffix (B s) ⟨#[46, 120, 104, 116, 109, 108]⟩ V (by rw [B_size]; omega)
    rw [e1] at this
    exact this
  have HN : Hid (named s = (dotH.isSuffixOf s || dotX.isSuffixOf s)) := rfl
  clear e1
  generalize dotH.isSuffixOf s = x at *
  generalize dotX.isSuffixOf s = y at *
  cases x
  · go_enter Tryz.func38, Tryz.ntmps38
    go_wp2_with fail
    refine (H1.out _).mono ?_
    rintro e w1 ⟨rfl, rfl⟩
    go_wp2_with fail
    refine (H2.out _).mono ?_
    rintro e w2 ⟨rfl, rfl⟩
    go_wp2
    go_ret
    exact ⟨ret_bool (by rw [HN.out]; simp), rfl⟩
  · go_enter Tryz.func38, Tryz.ntmps38
    go_wp2_with fail
    refine (H1.out _).mono ?_
    rintro e w1 ⟨rfl, rfl⟩
    go_wp2
    go_ret
    exact ⟨ret_bool (by rw [HN.out]; simp), rfl⟩
end Go.Proofs.YtejjidbodfoiiaaGreatDoor
namespace Go.Proofs.YtejjidbodfoiiaaGreatDoor
open Go.RowKit
set_option linter.unusedVariables false
set_option linter.unusedSimpArgs false
attribute [local go_sem] B_data B_size
attribute [local go_sem] run_mkS

set_option maxHeartbeats 4000000 in
set_option maxRecDepth 100000 in
theorem set_any (ls : List Bs) (A : Option Addr) (c : Nat) (w : World) (h : Rd w w.heap.size 1 A ls.length (strs ls)) (hn : ls.length ≤ 1000000000) :
    Calls Tryz.prog 33 #[.slice A ls.length c] w (fun e w' => ∃ m, e = .returned (.map (some m)) ∧ w.heap.size ≤ m ∧ SMap w' m (seenM (addAll ls)) ∧ Below w.heap.size w w') := by
  have hS := SMap.made w
  have hb := below_alloc w (.map #[] 0)
  go_enter Tryz.func33, Tryz.ntmps33
  go_wp2
  generalize w.alloc (.map #[] 0) = W at *
  go_loopw [9] (fun i wr => ∃ j : Nat, j ≤ ls.length ∧ i = .int .i64 j ∧ SMap wr w.heap.size (seenM (addAll (ls.take j))) ∧ Below w.heap.size w wr) (fun i _ => ls.length - (intOf i).toNat)
  case atStart => exact ⟨0, Nat.zero_le _, rfl, hS, hb⟩
  case round =>
    obtain ⟨j, hj, rfl, hS, hb⟩ := hrel
    by_cases hlt : j < ls.length
    · obtain ⟨x, hx⟩ := get_of (l := ls) (k := j) hlt
      obtain ⟨ad, e, hc⟩ := (h.below hb).str hlt
      subst e
      rw [show ls.getD j [] = x by simp [List.getD, hx]] at hc
      have HT : Hid (addAll (ls.take (j + 1)) = addS (addAll (ls.take j)) x) := by rw [List.take_succ_eq_append_getElem hlt, addAll_snoc, (List.getElem?_eq_some_iff.1 hx).2]; rfl
      go_wp2_with (refine wpList_store rfl 73 9 4 _ _ _ rfl Tryz.underlying73 Tryz.underlying9 w.heap.size (seenM (addAll (ls.take j))) hS rfl x rfl (.bool true) rfl ?_)
      intro w2 hS2 hg2
      rw [putM_add, ← HT.out] at hS2
      have hb2 := hb.grown hg2 hb.size (fun k hk => by injection hk with hk; omega)
      clear hc hS
      go_wp2
      go_roundw
      case rel => exact ⟨j + 1, by omega, by go_num, hS2, hb2⟩
      case measure => simp [intOf]; omega
    · go_wp2
      go_ret
      exact ⟨_, rfl, Nat.le_refl _, by rw [List.take_of_length_le (by omega)] at hS; exact hS, hb⟩
theorem lets_step (s : ByteArray) (k : Nat) (h : k < s.size) (hr : lets s.toList = k + lets (s.toList.drop k)) : (letC s[k] = true → lets s.toList = k + 1 + lets (s.toList.drop (k + 1))) ∧ (letC s[k] = false → lets s.toList = k) := by
  rw [drop_byte s k h] at hr
  unfold lets at hr ⊢
  rw [List.takeWhile_cons] at hr
  refine ⟨fun e => ?_, fun e => ?_⟩
  · rw [e, if_pos rfl, List.length_cons] at hr; omega
  · rw [e] at hr; simpa using hr
theorem out_at (s : ByteArray) (k : Nat) (h : k < s.size) (hk : lets s.toList = k) (hp : Lib.hasPrefix s.data.toList [47, 47] = false) : outB s.toList = (decide ((1 : Int) ≤ (k : Int)) && decide ((k : Int) ≤ 20) && ((s[k].toNat : Int) == 58)) := by
  have hp : List.isPrefixOf [47, 47] s.toList = false := by rw [ByteArray.toList_eq]; exact hp
  unfold outB
  rw [hp, hk, Fil.toList_at s k h, Bool.false_or, Bool.eq_iff_iff]
  have e : (some s[k] = some (58 : UInt8)) ↔ s[k].toNat = 58 := by
    rw [Option.some.injEq, ← UInt8.toNat_inj]; rfl
  simp only [Bool.and_eq_true, decide_eq_true_eq, beq_iff_eq, e]
  omega
theorem out_end (s : ByteArray) (k : Nat) (h : ¬ k < s.size) (hk : lets s.toList = k) (hp : Lib.hasPrefix s.data.toList [47, 47] = false) : outB s.toList = false := by
  have hp : List.isPrefixOf [47, 47] s.toList = false := by rw [ByteArray.toList_eq]; exact hp
  unfold outB
  have e : s.toList[k]? = none := by rw [List.getElem?_eq_none_iff, len_toList]; omega
  rw [hp, hk, e]; simp
theorem out_pre (s : ByteArray) (hp : Lib.hasPrefix s.data.toList [47, 47] = true) : outB s.toList = true := by
  have hp : List.isPrefixOf [47, 47] s.toList = true := by rw [ByteArray.toList_eq]; exact hp
  unfold outB
  rw [hp]; rfl
set_option maxHeartbeats 4000000 in
set_option maxRecDepth 100000 in
theorem outside_b (s : ByteArray) (w : World) (hs : s.size ≤ 1000000000) :
    Calls Tryz.prog 22 #[.string s] w (fun e w' => e = .returned (.bool (outB s.toList)) ∧ w' = w) := by
  have HP := Lib.hid (fun V => Tryz.strings_HasPrefix s ⟨#[47, 47]⟩ V)
  have HL := Lib.hid (len_toList s)
  cases hp : Lib.hasPrefix s.data.toList [47, 47]
  · have hp' : Lib.hasPrefix s.data.toList (⟨#[47, 47]⟩ : ByteArray).data.toList = false := hp
    rw [hp'] at HP
    clear hp'
    have hp := Lib.hid hp
    go_enter Tryz.func22, Tryz.ntmps22
    go_wp2_with fail
    refine (HP.out _).mono ?_
    rintro e w1 ⟨rfl, rfl⟩
    go_wp2
    go_loop [3] (fun i => ∃ k : Nat, k ≤ s.size ∧ i = .int .i64 k ∧ Hid (lets s.toList = k + lets (s.toList.drop k))) (fun i => s.size - (intOf i).toNat)
    case atStart => exact ⟨0, Nat.zero_le _, rfl, by simp [Hid]⟩
    case round =>
      obtain ⟨k, hk, rfl, hr⟩ := hrel
      by_cases hlt : k < s.size
      · have HY := Lib.hid (lets_step s k hlt hr.out)
        have HV := Lib.hid (fun e => out_at s k hlt e hp.out)
        go_wp2
        all_goals first
          | (go_round
             case rel => exact ⟨k + 1, by omega, by go_num, HY.out.1 (by unfold letC; simp only [Bool.or_eq_true, Bool.and_eq_true, decide_eq_true_eq]; omega)⟩
             case measure => simp [intOf]; omega)
          | (go_ret
             refine ⟨ret_bool ?_, rfl⟩
             rw [HV.out (HY.out.2 (by unfold letC; simp only [Bool.or_eq_false_iff, Bool.and_eq_false_iff, decide_eq_false_iff_not]; omega)), Bool.eq_iff_iff]
             simp only [Bool.and_eq_true, decide_eq_true_eq, beq_iff_eq, Bool.false_eq_true, false_iff]
             omega)
      · have HE := Lib.hid (out_end s k hlt (by rw [hr.out, List.drop_of_length_le (by rw [HL.out]; omega)]; rfl) hp.out)
        go_wp2
        all_goals
          go_ret
          exact ⟨ret_bool HE.out.symm, rfl⟩
  · have hp' : Lib.hasPrefix s.data.toList (⟨#[47, 47]⟩ : ByteArray).data.toList = true := hp
    rw [hp'] at HP
    have hp := Lib.hid (out_pre s hp)
    clear hp'
    go_enter Tryz.func22, Tryz.ntmps22
    go_wp2_with fail
    refine (HP.out _).mono ?_
    rintro e w1 ⟨rfl, rfl⟩
    go_wp2
    go_ret
    exact ⟨ret_bool hp.out.symm, rfl⟩
theorem outside_any (s : Bs) (w : World) (hs : s.length ≤ 1000000000) :
    Calls Tryz.prog 22 #[.string (B s)] w (fun e w' => e = .returned (.bool (outB s)) ∧ w' = w) := by
  have h := outside_b (B s) w (by rw [B_size]; exact hs)
  have e : (B s).toList = s := by simp [B]
  rw [e] at h
  exact h
end Go.Proofs.YtejjidbodfoiiaaGreatDoor
namespace Go.Proofs.YtejjidbodfoiiaaGreatDoor
open Go.RowKit
set_option linter.unusedVariables false
set_option linter.unusedSimpArgs false
attribute [local go_sem] B_data B_size

set_option maxHeartbeats 4000000 in
set_option maxRecDepth 100000 in
theorem values_own (n : Nd) (c : NC) (key : List UInt8) (w : World) (h : NdB w w.heap.size n c) (hok : okN 1000000000 n) (hsz : szN n ≤ 1000000000) :
    Calls Tryz.prog 43 #[.agg #[.string (B c.nm), .string (B c.tx), .slice c.A c.na c.ca, .slice c.K c.nk c.ck], .string (B key)] w (OPost (vals key n) w) := by
  have hb1 := below_alloc w (.cells #[.string (B c.nm), .string (B c.tx), .slice c.A c.na c.ca, .slice c.K c.nk c.ck] 65)
  obtain ⟨W1, hW1⟩ : ∃ W1, W1 = w.alloc (.cells #[.string (B c.nm), .string (B c.tx), .slice c.A c.na c.ca, .slice c.K c.nk c.ck] 65) := ⟨_, rfl⟩
  have hs1 : W1.heap.size = w.heap.size + 1 := by rw [hW1]; simp
  rw [← hW1] at hb1
  have q2 := heap_alloc_new W1 (.cells #[.string (B key)] 9)
  have hb2 := hb1.alloc hb1.size (.cells #[.string (B key)] 9)
  obtain ⟨W2, hW2⟩ : ∃ W2, W2 = W1.alloc (.cells #[.string (B key)] 9) := ⟨_, rfl⟩
  have hs2 : W2.heap.size = w.heap.size + 1 + 1 := by rw [hW2]; simp [hs1]
  rw [← hW2] at hb2 q2
  rw [hs1] at q2
  have q3 := heap_alloc_new W2 (.cells #[.slice none 0 0] 25)
  have q23 := (below_alloc W2 (.cells #[.slice none 0 0] 25)).block _ (show w.heap.size + 1 < W2.heap.size by omega)
  have hb3 := hb2.alloc hb2.size (.cells #[.slice none 0 0] 25)
  obtain ⟨W3, hW3⟩ : ∃ W3, W3 = W2.alloc (.cells #[.slice none 0 0] 25) := ⟨_, rfl⟩
  have hs3 : W3.heap.size = w.heap.size + 1 + 1 + 1 := by rw [hW3]; simp [hs2]
  rw [← hW3] at hb3 q3 q23
  rw [hs2] at q3
  have hb4 := hb3.alloc hb3.size (.cells #[.func (.func 71) #[] #[.pointer (some ⟨w.heap.size + 1, 0, none⟩), .pointer (some ⟨w.heap.size + 1 + 1, 0, none⟩), .pointer (some ⟨w.heap.size + 1 + 1 + 1, 0, none⟩)]] 120)
  have q4 := heap_alloc_new W3 (.cells #[.func (.func 71) #[] #[.pointer (some ⟨w.heap.size + 1, 0, none⟩), .pointer (some ⟨w.heap.size + 1 + 1, 0, none⟩), .pointer (some ⟨w.heap.size + 1 + 1 + 1, 0, none⟩)]] 120)
  have q24 := (below_alloc W3 (.cells #[.func (.func 71) #[] #[.pointer (some ⟨w.heap.size + 1, 0, none⟩), .pointer (some ⟨w.heap.size + 1 + 1, 0, none⟩), .pointer (some ⟨w.heap.size + 1 + 1 + 1, 0, none⟩)]] 120)).block _ (show w.heap.size + 1 < W3.heap.size by omega)
  have q34 := (below_alloc W3 (.cells #[.func (.func 71) #[] #[.pointer (some ⟨w.heap.size + 1, 0, none⟩), .pointer (some ⟨w.heap.size + 1 + 1, 0, none⟩), .pointer (some ⟨w.heap.size + 1 + 1 + 1, 0, none⟩)]] 120)).block _ (show w.heap.size + 1 + 1 < W3.heap.size by omega)
  rw [hs3] at q4
  have hVI : VI (w.heap.size + 4) (w.heap.size + 1) (w.heap.size + 1 + 1) (w.heap.size + 1 + 1 + 1) key [] (.slice none 0 0) (W3.alloc (.cells #[.func (.func 71) #[] #[.pointer (some ⟨w.heap.size + 1, 0, none⟩), .pointer (some ⟨w.heap.size + 1 + 1, 0, none⟩), .pointer (some ⟨w.heap.size + 1 + 1 + 1, 0, none⟩)]] 120)) :=
    ⟨q24.trans (q23.trans q2), q4, q34.trans q3, ⟨rfl, .inl ⟨rfl, rfl⟩⟩, by omega, by omega, by omega, ⟨by omega, by omega⟩, by simp; omega⟩
  have h4 := h.below hb4
  have C := Lib.hid (valAdd_any w.heap.size (w.heap.size + 4) (w.heap.size + 1) (w.heap.size + 1 + 1) (w.heap.size + 1 + 1 + 1) key (by omega) n c [] _ _ h4 hok hVI (by simp; omega))
  subst hW3 hW2 hW1
  clear hs1 hs2 hs3 q2 q3 q23 q4 q24 q34 hVI h4 hb1 hb2 hb3
  go_enter Tryz.func43, Tryz.ntmps43
  go_wp2_with fail
  refine C.out.mono ?_
  rintro e w4 ⟨rfl, ⟨u, hV⟩, hb5⟩
  clear C
  rw [List.nil_append] at hV
  obtain ⟨A1, c1', hu, hnc⟩ := own_form hV.own
  subst hu
  have hoc : w4.cell? ⟨w.heap.size + 1 + 1, 0, none⟩ = some (.slice A1 (vals key n).length c1') := by simp [World.cell?, hV.oo]
  have hB := hb4.trans hb5
  have hrd := hV.own
  clear hV
  go_wp2
  go_ret
  exact ⟨_, rfl, own_mono hrd (by omega), hB⟩
theorem vals_le {key : Bs} {n : Nd} (h : szN n ≤ 1000000000) : (vals key n).length ≤ 1000000000 := Nat.le_trans (vals_sz key n) h
set_option maxHeartbeats 4000000 in
set_option maxRecDepth 100000 in
theorem refs_any (n : Nd) (c : NC) (w : World) (h : NdB w w.heap.size n c) (hok : okN 1000000000 n) (hsz : szN n ≤ 1000000000) :
    Calls Tryz.prog 21 #[.agg #[.string (B c.nm), .string (B c.tx), .slice c.A c.na c.ca, .slice c.K c.nk c.ck]] w (OPost (refsN n) w) := by
  have H1 := Lib.hid (fun (V : World) (hV : NdB V V.heap.size n c) => values_own n c hrefK V hV hok hsz)
  have H2 := Lib.hid (fun (V : World) (hV : NdB V V.heap.size n c) => values_own n c srcK V hV hok hsz)
  have hq := heap_alloc_new w (.cells #[.string (B c.nm), .string (B c.tx), .slice c.A c.na c.ca, .slice c.K c.nk c.ck] 59)
  have hb := below_alloc w (.cells #[.string (B c.nm), .string (B c.tx), .slice c.A c.na c.ca, .slice c.K c.nk c.ck] 59)
  have HR : Hid (refsN n = vals hrefK n ++ vals srcK n) := rfl
  have HL1 := vals_le (key := hrefK) hsz
  have HL2 := vals_le (key := srcK) hsz
  have hsz1 : (w.alloc (.cells #[.string (B c.nm), .string (B c.tx), .slice c.A c.na c.ca, .slice c.K c.nk c.ck] 59)).heap.size = w.heap.size + 1 := by simp
  generalize vals hrefK n = a at *
  generalize vals srcK n = b at *
  have h1 := (h.below hb).more hb.size
  go_enter Tryz.func21, Tryz.ntmps21
  go_wp2_with fail
  generalize hW : w.alloc (.cells #[.string (B c.nm), .string (B c.tx), .slice c.A c.na c.ca, .slice c.K c.nk c.ck] 59) = W at *
  clear hW
  refine (H1.out _ h1).mono ?_
  rintro e w1 ⟨v, rfl, ho1, hb1⟩
  have h2 := (h1.below hb1).more hb1.size
  have hq1 := (hb1.block _ (Array.getElem?_eq_some_iff.1 hq).1).trans hq
  have p0 : w1.cell? ⟨w.heap.size, 0, none⟩ = some (.string (B c.nm)) := by simp [World.cell?, hq1]
  have p1 : w1.cell? ⟨w.heap.size, 1, none⟩ = some (.string (B c.tx)) := by simp [World.cell?, hq1]
  have p2 : w1.cell? ⟨w.heap.size, 2, none⟩ = some (.slice c.A c.na c.ca) := by simp [World.cell?, hq1]
  have p3 : w1.cell? ⟨w.heap.size, 3, none⟩ = some (.slice c.K c.nk c.ck) := by simp [World.cell?, hq1]
  go_wp2_with fail
  refine (H2.out _ h2).mono ?_
  rintro e w2 ⟨v2, rfl, ho2, hb2⟩
  obtain ⟨A5, c5, rfl, _⟩ := own_form ho2
  have hown := own_below ho1 hb2
  have hr2 := Rd.of_own ho2
  have hs1 := hb1.size
  have hs2 := hb2.size
  clear H1 H2 p0 p1 p2 p3 ho2
  go_wp2_with (refine wpList_apps rfl (.tmp 6) (.tmp 8) 25 rfl 9 (.string ⟨#[]⟩) 1 16 Tryz.underlying25 Tryz.info9 rfl (by omega) w2 W.heap.size v a.length (strs a) hown rfl w2.heap.size A5 b.length c5 (strs b) hr2 rfl (strs_one b) (by omega) (by omega) (by omega) ?_)
  intro v' w3 hown3 hgr hb3
  have e1 : strs a ++ strs b = strs (refsN n) := by rw [HR.out]; exact strs_append a b
  have e2 : a.length + b.length = (refsN n).length := by rw [HR.out]; simp
  rw [e1, e2] at hown3
  obtain ⟨A6, c6, rfl, _⟩ := own_form hown3
  have hb4 : Below w.heap.size w w3 := ((hb.trans (hb1.mono hb.size)).trans (hb2.mono (by omega))).trans (hb3.mono (by omega))
  clear hgr hb3
  go_wp2
  go_ret
  exact ⟨_, rfl, own_mono hown3 (by omega), hb4⟩
set_option maxHeartbeats 4000000 in
set_option maxRecDepth 100000 in
theorem ancs_any (n : Nd) (c : NC) (w : World) (h : NdB w w.heap.size n c) (hok : okN 1000000000 n) (hsz : szN n ≤ 1000000000) :
    Calls Tryz.prog 32 #[.agg #[.string (B c.nm), .string (B c.tx), .slice c.A c.na c.ca, .slice c.K c.nk c.ck]] w (LPost (vals idK n) w) := by
  have H1 := Lib.hid (fun (V : World) (hV : NdB V V.heap.size n c) => values_any n c idK V hV hok hsz)
  have HA : Hid (∀ (V : World) (hV : NdB V V.heap.size n c), Calls Tryz.prog 61 #[.agg #[.string (B c.nm), .string (B c.tx), .slice c.A c.na c.ca, .slice c.K c.nk c.ck]] V (LPost (vals idK n) V)) := by
    intro V hV
    have hb := below_alloc V (.cells #[.string (B c.nm), .string (B c.tx), .slice c.A c.na c.ca, .slice c.K c.nk c.ck] 65)
    have h1 := (hV.below hb).more hb.size
    go_enter Tryz.func61, Tryz.ntmps61
    go_wp2_with fail
    refine (H1.out _ h1).mono ?_
    rintro e w1 ⟨A, c', rfl, hr, hb1⟩
    go_wp2
    go_ret
    exact ⟨A, c', rfl, hr, hb.trans (hb1.mono hb.size)⟩
  have hb := below_alloc w (.cells #[.string (B c.nm), .string (B c.tx), .slice c.A c.na c.ca, .slice c.K c.nk c.ck] 59)
  have h1 := (h.below hb).more hb.size
  go_enter Tryz.func32, Tryz.ntmps32
  go_wp2_with fail
  refine (HA.out _ h1).mono ?_
  rintro e w1 ⟨A, c', rfl, hr, hb1⟩
  go_wp2
  go_ret
  exact ⟨A, c', rfl, hr, hb.trans (hb1.mono hb.size)⟩
end Go.Proofs.YtejjidbodfoiiaaGreatDoor
