/-
  Layer 49 (project): lines with a fixed beginning; variables.
-/
import Derived.Test.YtmkenekngaihhaaGreatDoorPjJ
namespace Go.Proofs.YtmkenekngaihhaaGreatDoor
open Go.RowKit
set_option linter.unusedVariables false
set_option linter.unusedSimpArgs false
attribute [local go_sem] B_data B_size

theorem data_B (l : List UInt8) : (B l).data.toList = l := by rw [toList_data, B_data]
theorem cutpre_some {s p r : List UInt8} (w : World) (h : cutP p s = some r) :
    Calls Tryz.prog 61 #[.string (B s), .string (B p)] w fun e w' => e = .returned (.tuple #[.string (B r), .bool true]) ∧ w = w' := by
  refine (Tryz.strings_CutPrefix (B s) (B p) w).mono fun e w' ⟨h1, h2⟩ => ⟨?_, h2.symm⟩
  unfold cutP at h
  split at h
  · rename_i hp
    injection h with h
    rw [h1, data_B, data_B]
    have e1 : Lib.hasPrefix s p = true := hp
    have e2 : Lib.trimPrefix s p = r := by unfold Lib.trimPrefix; rw [if_pos e1]; exact h
    rw [e1, e2]; rfl
  · cases h
theorem cutpre_none {s p : List UInt8} (w : World) (h : cutP p s = none) :
    Calls Tryz.prog 61 #[.string (B s), .string (B p)] w fun e w' => (∃ x, e = .returned (.tuple #[.string x, .bool false])) ∧ w = w' := by
  refine (Tryz.strings_CutPrefix (B s) (B p) w).mono fun e w' ⟨h1, h2⟩ => ⟨⟨⟨(Lib.trimPrefix s p).toArray⟩, ?_⟩, h2.symm⟩
  unfold cutP at h
  split at h
  · cases h
  · rename_i hp
    rw [h1, data_B, data_B]
    have e1 : Lib.hasPrefix s p = false := Bool.eq_false_iff.2 hp
    rw [e1]
set_option maxHeartbeats 1000000 in
theorem fixed_any (l n : List UInt8) (w : World) (hl : l.length ≤ 1000000000) (hn : n.length ≤ 1000) :
    Calls Tryz.prog 36 #[.string (B l), .string (B n)] w fun e w' => e = VRet (fixP n l) ∧ w = w' := by
  have hb := B_size n
  have HS : Hid (B n ++ ⟨#[32, 61]⟩ = B (n ++ [32, 61])) := B_cat n [32, 61]
  cases hc : cutP (n ++ [32, 61]) l with
  | none =>
    have HX : Hid (fixP n l = none) := by unfold fixP; rw [hc]; rfl
    have HC := Lib.hid (cutpre_none w hc)
    clear hc
    go_enter Tryz.func36, Tryz.ntmps36
    go_wp2_with fail
    rw [HS.out]
    refine HC.out.mono ?_
    rintro e w1 ⟨⟨x, rfl⟩, rfl⟩
    go_wp2
    go_ret2
    exact ⟨vret_none HX, rfl⟩
  | some r =>
    have hr : r.length ≤ l.length := by rw [cutP_some hc]; simp; omega
    have HF : Hid (fixP n l = valP r) := by unfold fixP; rw [hc]; rfl
    have HC := Lib.hid (cutpre_some w hc)
    have hrs : (B r).size ≤ 1000000000 := by rw [B_size]; omega
    clear hc
    cases hv : valP r with
    | none =>
      have HV := Lib.hid (value_none w hrs (by rw [B_data]; exact hv))
      have HX : Hid (fixP n l = none) := by rw [HF.out, hv]; rfl
      clear hv
      go_enter Tryz.func36, Tryz.ntmps36
      go_wp2_with fail
      rw [HS.out]
      refine HC.out.mono ?_
      rintro e w1 ⟨rfl, rfl⟩
      go_wp2_with fail
      refine HV.out.mono ?_
      rintro e w1 ⟨rfl, rfl⟩
      go_wp2
      go_ret2
      exact ⟨vret_none HX, rfl⟩
    | some v =>
      have HV := Lib.hid (value_some w hrs (by rw [B_data]; exact hv))
      have HX : Hid (fixP n l = some v) := by rw [HF.out, hv]; rfl
      clear hv
      go_enter Tryz.func36, Tryz.ntmps36
      go_wp2_with fail
      rw [HS.out]
      refine HC.out.mono ?_
      rintro e w1 ⟨rfl, rfl⟩
      go_wp2_with fail
      refine HV.out.mono ?_
      rintro e w1 ⟨rfl, rfl⟩
      go_wp2
      go_ret2
      exact ⟨vret_some HX, rfl⟩
/-- a prefix, as the slice of its length -/
theorem cutP_iff (p s : List UInt8) : cutP p s = if p.length ≤ s.length ∧ s.take p.length = p then some (s.drop p.length) else none := by
  unfold cutP
  by_cases h : p.isPrefixOf s = true
  · rw [if_pos h, if_pos]
    have := pre_some h
    refine ⟨?_, ?_⟩
    · rw [this]; simp
    · rw [this]; simp
  · rw [if_neg h, if_neg]
    rintro ⟨_, h2⟩
    apply h
    rw [List.isPrefixOf_iff_prefix, ← h2]
    exact List.take_prefix _ _
set_option maxHeartbeats 1000000 in
theorem begins_any (s t : ByteArray) (w : World) (hs : s.size ≤ 1000000000) (ht : t.size ≤ 1000000000) :
    Calls Tryz.prog 40 #[.string s, .string t] w fun e w' => e = VRet (cutP t.toList s.toList) ∧ w = w' := by
  have HI := Lib.hid (cutP_iff t.toList s.toList)
  rw [len_toList, len_toList] at HI
  by_cases h1 : s.size < t.size
  · have HX : Hid (cutP t.toList s.toList = none) := by rw [HI.out, if_neg (by omega)]; rfl
    go_enter Tryz.func40, Tryz.ntmps40
    go_wp2
    go_ret2
    exact ⟨vret_none HX, rfl⟩
  have h1' : t.size ≤ s.size := by omega
  have HB := Lib.hid (B_take s t.size)
  by_cases h2 : s.toList.take t.size = t.toList
  · have HX : Hid (cutP t.toList s.toList = some (s.toList.drop t.size)) := by rw [HI.out, if_pos ⟨h1', h2⟩]; rfl
    have e0 : ((s.extract 0 t.size).toList == t.toList) = true := by rw [HB.out, B_data]; simpa using h2
    have HD := Lib.hid (B_drop s t.size)
    clear h2 HB
    go_enter Tryz.func40, Tryz.ntmps40
    go_wp2
    go_ret2
    exact ⟨by rw [HD.out]; exact vret_some HX, rfl⟩
  · have HX : Hid (cutP t.toList s.toList = none) := by rw [HI.out, if_neg (fun h => h2 h.2)]; rfl
    have e0 : ((s.extract 0 t.size).toList == t.toList) = false := by rw [HB.out, B_data]; simpa using h2
    clear h2 HB
    go_enter Tryz.func40, Tryz.ntmps40
    go_wp2
    go_ret2
    exact ⟨vret_none HX, rfl⟩
/-- a pair in memory, and whether it is one -/
def PRet (o : Option (List UInt8 × List UInt8)) (w : World) (e : Ending) (w' : World) : Prop := (match o with
  | some v => e = .returned (.tuple #[.agg #[.string (B v.1), .string (B v.2)], .bool true])
  | none => ∃ x y, e = .returned (.tuple #[.agg #[.string x, .string y], .bool false])) ∧ Below w.heap.size w w'
theorem varP_cut : ∀ (s key : List UInt8), (Lib.index s [32, 61] = -1 ∧ varP key s = none) ∨ ∃ i : Nat, Lib.index s [32, 61] = i ∧ varP key s = (valP (s.drop (i + 2))).map fun v => (key ++ s.take i, v) := by
  intro s
  induction s with
  | nil => intro key; exact .inl ⟨rfl, rfl⟩
  | cons c r ih =>
    intro key
    rw [Lib.index, varP]
    by_cases hc : c = 32 ∧ r.head? = some 61
    · obtain ⟨rfl, h2⟩ := hc
      cases r with
      | nil => cases h2
      | cons d q =>
        obtain rfl : d = 61 := by simpa using h2
        refine .inr ⟨0, ?_, ?_⟩
        · rw [if_pos (by simp [List.isPrefixOf])]; rfl
        · rw [if_pos ⟨rfl, rfl⟩]; simp
    · have hp : List.isPrefixOf [32, 61] (c :: r) = false := by
        cases hq : List.isPrefixOf [32, 61] (c :: r) with
        | false => rfl
        | true =>
          rw [List.isPrefixOf_iff_prefix] at hq
          obtain ⟨t, ht⟩ := hq
          injection ht with h1 h2
          exact absurd ⟨h1.symm, by rw [← h2]; rfl⟩ hc
      rw [hp, if_neg hc]
      simp only [Bool.false_eq_true, if_false]
      rcases ih (key ++ [c]) with ⟨h1, h2⟩ | ⟨i, h1, h2⟩
      · exact .inl ⟨by rw [h1]; rfl, h2⟩
      · refine .inr ⟨i + 1, ?_, ?_⟩
        · rw [h1]
          have : ((i : Int) == -1) = false := by rw [beq_eq_false_iff_ne]; omega
          rw [this]; simp
        · rw [h2, List.drop_succ_cons, List.take_succ_cons, List.append_assoc]; rfl
theorem below_ps (w : World) (o : Obj) (q : Nat) (u v : Value) : Below w.heap.size w ((((w.alloc o).drewN q).setCell ⟨w.heap.size, 0, none⟩ u).setCell ⟨w.heap.size, 1, none⟩ v) :=
  (((below_drewN (below_alloc w o) q).setCell (p := ⟨w.heap.size, 0, none⟩) (Nat.le_refl _) u).setCell (p := ⟨w.heap.size, 1, none⟩) (Nat.le_refl _) v)
theorem cut_none {s : List UInt8} (h : Lib.index s [32, 61] = -1) : Lib.cut s [32, 61] = (s, [], false) := by unfold Lib.cut; rw [h]; rfl
theorem cut_some {s : List UInt8} {i : Nat} (h : Lib.index s [32, 61] = i) : Lib.cut s [32, 61] = (s.take i, s.drop (i + 2), true) := by
  unfold Lib.cut; rw [h, if_pos (by omega)]; rfl
theorem cutEq_any (s : List UInt8) (w : World) (hs : s.length ≤ 1000000000) (hG : Fil.Glob w) :
    Calls Tryz.prog 63 #[.string (B s), .string ⟨#[32, 61]⟩] w fun e w' => e = .returned (.tuple #[.string (B (Lib.cut s [32, 61]).1), .string (B (Lib.cut s [32, 61]).2.1), .bool (Lib.cut s [32, 61]).2.2]) ∧ ∃ n, w' = w.drewN n := by
  obtain ⟨m, hm⟩ := hG
  refine (Tryz.strings_Cut (B s) ⟨#[32, 61]⟩ m w (by rw [B_size]; omega) hm).mono fun e w' ⟨h1, h2⟩ => ⟨?_, h2⟩
  rw [h1, data_B]
  rfl
theorem pret_some {o : Option (List UInt8 × List UInt8)} {k v : List UInt8} {w w' : World} (h : Hid (o = some (k, v))) (hb : Below w.heap.size w w') : PRet o w (.returned (.tuple #[.agg #[.string (B k), .string (B v)], .bool true])) w' := by unfold PRet; rw [h.out]; exact ⟨rfl, hb⟩
theorem pret_none {o : Option (List UInt8 × List UInt8)} {x y : ByteArray} {w w' : World} (h : Hid (o = none)) (hb : Below w.heap.size w w') : PRet o w (.returned (.tuple #[.agg #[.string x, .string y], .bool false])) w' := by unfold PRet; rw [h.out]; exact ⟨⟨x, y, rfl⟩, hb⟩
set_option maxHeartbeats 4000000 in
set_option maxRecDepth 100000 in
theorem variable_any (s : List UInt8) (w : World) (hs : s.length ≤ 1000000000) (hG : Fil.Glob w) :
    Calls Tryz.prog 64 #[.string (B s)] w (PRet (varP [] s) w) := by
  have hbw := below_alloc w (.cells #[.string ⟨#[]⟩, .string ⟨#[]⟩] 40)
  have HC := Lib.hid (cutEq_any s _ hs (hG.below hbw (Nat.le_refl _)))
  rcases varP_cut s [] with ⟨h1, h2⟩ | ⟨i, h1, h2⟩
  · have HX := Lib.hid h2
    rw [cut_none h1] at HC
    clear h1 h2
    go_enter Tryz.func64, Tryz.ntmps64
    go_wp2_with fail
    refine HC.out.mono ?_
    rintro e w1 ⟨rfl, q, rfl⟩
    go_wp2
    refine bodyPost_ret (v := .tuple #[.agg #[.string ⟨#[]⟩, .string ⟨#[]⟩], .bool false]) (by simp [results, Tryz.results64, go_sem]) rfl ?_
    exact pret_none HX (below_ps w _ _ _ _)
  · have hle : (s.drop (i + 2)).length ≤ s.length := by rw [List.length_drop]; omega
    have hrs : (B (s.drop (i + 2))).size ≤ 1000000000 := by rw [B_size]; omega
    rw [cut_some h1] at HC
    rw [List.nil_append] at h2
    clear hle
    cases hv : valP (s.drop (i + 2)) with
    | none =>
      have HV := Lib.hid (fun V => value_none V hrs (by rw [B_data]; exact hv))
      have HX : Hid (varP [] s = none) := by rw [h2, hv]; rfl
      clear h1 h2 hv hrs
      generalize s.drop (i + 2) = r at *
      generalize s.take i = k at *
      go_enter Tryz.func64, Tryz.ntmps64
      go_wp2_with fail
      refine HC.out.mono ?_
      rintro e w1 ⟨rfl, q, rfl⟩
      go_wp2_with fail
      refine (HV.out _).mono ?_
      rintro e w1 ⟨rfl, rfl⟩
      go_wp2
      refine bodyPost_ret (v := .tuple #[.agg #[.string (B k), .string ⟨#[]⟩], .bool false]) (by simp [results, Tryz.results64, go_sem]) rfl ?_
      exact pret_none HX (below_ps w _ _ _ _)
    | some v =>
      have HV := Lib.hid (fun V => value_some V hrs (by rw [B_data]; exact hv))
      have HX : Hid (varP [] s = some (s.take i, v)) := by rw [h2, hv]; rfl
      clear h1 h2 hv hrs
      generalize s.drop (i + 2) = r at *
      generalize s.take i = k at *
      go_enter Tryz.func64, Tryz.ntmps64
      go_wp2_with fail
      refine HC.out.mono ?_
      rintro e w1 ⟨rfl, q, rfl⟩
      go_wp2_with fail
      refine (HV.out _).mono ?_
      rintro e w1 ⟨rfl, rfl⟩
      go_wp2
      refine bodyPost_ret (v := .tuple #[.agg #[.string (B k), .string (B v)], .bool true]) (by simp [results, Tryz.results64, go_sem]) rfl ?_
      exact pret_some HX (below_ps w _ _ _ _)
/-- the same search, byte by byte -/
theorem varP_drop (s : ByteArray) (k : Nat) (h : k + 1 < s.size) : varP (s.toList.take k) (s.toList.drop k) = if s[k] = 32 ∧ s[k + 1] = 61 then (valP (s.toList.drop (k + 2))).map (fun v => (s.toList.take k, v)) else varP (s.toList.take (k + 1)) (s.toList.drop (k + 1)) := by
  have h1 := drop_byte s k (by omega)
  have h2 := drop_byte s (k + 1) (by omega)
  have h3 := take_byte s k (by omega)
  rw [h3]
  conv => lhs; rw [h1, varP]
  have e : (s.toList.drop (k + 1)).head? = some 61 ↔ s[k + 1] = 61 := by rw [h2]; simp
  have e2 : (s.toList.drop (k + 1)).tail = s.toList.drop (k + 2) := by rw [h2]; rfl
  by_cases hc : s[k] = 32 ∧ s[k + 1] = 61
  · rw [if_pos ⟨hc.1, e.2 hc.2⟩, if_pos hc, e2]
  · rw [if_neg (fun h => hc ⟨h.1, e.1 h.2⟩), if_neg hc]
theorem varP_end (s : ByteArray) (k : Nat) (h : s.size ≤ k + 1) : varP (s.toList.take k) (s.toList.drop k) = none := by
  have hl : (s.toList.drop k).length ≤ 1 := by rw [List.length_drop, len_toList]; omega
  match hd : s.toList.drop k, hl with
  | [], _ => rfl
  | [a], _ => rw [varP, if_neg (by rintro ⟨_, h⟩; cases h)]; rfl
theorem nat_61 {c : UInt8} : (c = 61) ↔ c.toNat = 61 := ⟨fun h => by rw [h]; rfl, fun h => UInt8.toNat_inj.1 h⟩
set_option maxHeartbeats 4000000 in
set_option maxRecDepth 100000 in
theorem rvariable_any (s : ByteArray) (w : World) (hs : s.size ≤ 1000000000) :
    Calls Tryz.prog 66 #[.string s] w (PRet (varP [] s.toList) w) := by
  go_enter Tryz.func66, Tryz.ntmps66
  go_wp2
  go_loop [4] (fun i => ∃ k : Nat, k ≤ s.size ∧ i = .int .i64 k ∧ Hid (varP [] s.toList = varP (s.toList.take k) (s.toList.drop k))) (fun i => s.size - (intOf i).toNat)
  case atStart => exact ⟨0, Nat.zero_le _, rfl, by simp [Hid]⟩
  case round =>
    obtain ⟨k, hk, rfl, hr⟩ := hrel
    by_cases hlt : k + 1 < s.size
    · have HD := Lib.hid (varP_drop s k hlt)
      have hlt0 : k < s.size := by omega
      by_cases hc : s[k] = 32
      · have hb1 : ((s[k].toNat : Int) == 32) = true := by rw [hc]; rfl
        by_cases hc2 : s[k + 1] = 61
        · have hb2 : ((s[k + 1].toNat : Int) == 61) = true := by rw [hc2]; rfl
          have HV0 : Hid (varP [] s.toList = (valP (s.toList.drop (k + 2))).map (fun v => (s.toList.take k, v))) := by rw [hr.out, HD.out, if_pos ⟨hc, hc2⟩]; rfl
          have HA := Lib.hid (fun V => after_any (B (s.toList.drop (k + 2))) V (by rw [B_size, List.length_drop, len_toList]; omega))
          rw [B_data] at HA
          have HB := Lib.hid (B_drop s (k + 2))
          have HT := Lib.hid (B_take s k)
          clear hc hc2 HD hr
          go_wp2_with fail
          rw [HB.out]
          refine (HA.out _).mono ?_
          rintro e w1 ⟨he, q, rfl⟩
          cases hv : valP (s.toList.drop (k + 2)) with
          | none =>
            rw [hv] at he
            obtain ⟨x, rfl⟩ := he
            have HX : Hid (varP [] s.toList = none) := by rw [HV0.out, hv]; rfl
            clear hv HA HV0
            go_wp2
            refine bodyPost_ret (v := .tuple #[.agg #[.string (s.extract 0 k), .string x], .bool false]) (by simp [results, Tryz.results66, go_sem]) rfl ?_
            exact pret_none HX (below_ps w _ _ _ _)
          | some v =>
            rw [hv] at he
            have he : e = Ending.returned (.tuple #[.string (B v), .bool true]) := he
            subst he
            have HX : Hid (varP [] s.toList = some (s.toList.take k, v)) := by rw [HV0.out, hv]; rfl
            clear hv HA HV0
            go_wp2
            refine bodyPost_ret (v := .tuple #[.agg #[.string (s.extract 0 k), .string (B v)], .bool true]) (by simp [results, Tryz.results66, go_sem]) rfl ?_
            rw [HT.out]
            exact pret_some HX (below_ps w _ _ _ _)
        · have hn : s[k + 1].toNat ≠ 61 := fun h => hc2 (nat_61.2 h)
          have hb2 : ((s[k + 1].toNat : Int) == 61) = false := by simp; omega
          have HN : Hid (varP [] s.toList = varP (s.toList.take (k + 1)) (s.toList.drop (k + 1))) := by rw [hr.out, HD.out, if_neg (fun h => hc2 h.2)]; rfl
          clear hc hc2 HD hr hn
          go_wp2
          go_round
          case rel => exact ⟨k + 1, by omega, by go_num, HN⟩
          case measure => simp [intOf]; omega
      · have hn : s[k].toNat ≠ 32 := fun h => hc (nat_32.2 h)
        have hb1 : ((s[k].toNat : Int) == 32) = false := by simp; omega
        have HN : Hid (varP [] s.toList = varP (s.toList.take (k + 1)) (s.toList.drop (k + 1))) := by rw [hr.out, HD.out, if_neg (fun h => hc h.1)]; rfl
        clear hc HD hr hn
        go_wp2
        go_round
        case rel => exact ⟨k + 1, by omega, by go_num, HN⟩
        case measure => simp [intOf]; omega
    · have HX : Hid (varP [] s.toList = none) := by rw [hr.out]; exact varP_end s k (by omega)
      clear hr
      go_wp2
      refine bodyPost_ret (v := .tuple #[.agg #[.string ⟨#[]⟩, .string ⟨#[]⟩], .bool false]) (by simp [results, Tryz.results66, go_sem]) rfl ?_
      exact pret_none HX (below_alloc w _)
end Go.Proofs.YtmkenekngaihhaaGreatDoor
