/-
  Layer 16 (files): the reference's name, parts, joined and Clean.
-/
import Derived.Test.YtpbampchhpkpbaaDoorFilesC
namespace Go.Proofs.YtpbampchhpkpbaaDoor
set_option linter.unusedSimpArgs false
open Go.RowKit
set_option linter.unusedVariables false
attribute [local go_sem] B_data B_size

set_option maxHeartbeats 1000000 in
set_option maxRecDepth 100000 in
theorem rname_any (s : ByteArray) (w : World) (hs : s.size ≤ 9223372036854775807) :
    Calls Tryd.prog 34 #[.string s] w fun e w' => e = .returned (.bool (nameB s.toList)) ∧ w = w' := by
  go_enter Tryd.func34, Tryd.ntmps34
  go_wp2
  go_loop [3] (fun i => ∃ k : Nat, k ≤ s.size ∧ i = .int .i64 k ∧ Hid ((s.toList.take k).all okc = true)) (fun i => s.size - (intOf i).toNat)
  case atStart => exact ⟨0, Nat.zero_le _, rfl, rfl⟩
  case round =>
    obtain ⟨k, hk, rfl, hr⟩ := hrel
    by_cases hlt : k < s.size
    · go_wp2
      all_goals first
        | (go_round
           case rel => exact ⟨k + 1, by omega, by go_num, all_take s k hlt hr.out (by unfold okc; simp only [bne_eq_false_iff_eq, bne_iff_ne, ne_eq, beq_iff_eq, decide_eq_true_eq] at *; omega)⟩
           case measure => simp [intOf]; omega)
        | (go_ret
           exact ⟨ret_bool (nameB_no _ (all_not s k hlt (by unfold okc; simp only [bne_iff_ne, beq_eq_false_iff_ne, decide_eq_false_iff_not, ne_eq] at *; omega))), rfl⟩)
    · have HA : Hid (s.toList.all okc = true) := by have := hr.out; rwa [List.take_of_length_le (by rw [len_toList]; omega)] at this
      by_cases h0 : s.toList = []
      · have e0 : s.toList.isEmpty = true := by rw [h0]; rfl
        have HN : Hid (false = nameB s.toList) := by rw [h0]; rfl
        clear h0
        go_wp2
        go_ret
        exact ⟨ret_bool HN.out, rfl⟩
      · have e0 : s.toList.isEmpty = false := by cases h : s.toList with | nil => exact absurd h h0 | cons a b => rfl
        by_cases h1 : s.toList = [46]
        · go_wp2
          go_ret
          exact ⟨ret_bool rfl, rfl⟩
        · have e1 : (s.toList == [46]) = false := by simpa using h1
          by_cases h2 : s.toList = [46, 46]
          · go_wp2
            go_ret
            exact ⟨ret_bool rfl, rfl⟩
          · have e2 : (s.toList == [46, 46]) = false := by simpa using h2
            have HN : Hid (true = nameB s.toList) := by have h := HA.out; simp [nameB, h0, h1, h2, Hid]; simpa using h
            clear h0 h1 h2
            go_wp2
            go_ret
            exact ⟨ret_bool HN.out, rfl⟩

theorem parts_yes (s : ByteArray) (f k : Nat) (done : List (List UInt8)) (hf : f ≤ k) (h : k < s.size) (hc : ((s[k].toNat : Int) == 47) = true)
    (hr : parts s.toList = done ++ partsGo ((s.toList.take k).drop f) (s.toList.drop k)) :
    parts s.toList = (done ++ [(s.toList.take k).drop f]) ++ partsGo ((s.toList.take (k+1)).drop (k+1)) (s.toList.drop (k+1)) := by
  rw [hr, drop_byte s k h, partsGo, if_pos (byte_is (d := 47) hc), List.drop_of_length_le (l := s.toList.take (k + 1)) (i := k + 1) (by rw [List.length_take, len_toList]; omega)]
  simp
theorem parts_no (s : ByteArray) (f k : Nat) (done : List (List UInt8)) (hf : f ≤ k) (h : k < s.size) (hc : ((s[k].toNat : Int) == 47) = false)
    (hr : parts s.toList = done ++ partsGo ((s.toList.take k).drop f) (s.toList.drop k)) :
    parts s.toList = done ++ partsGo ((s.toList.take (k+1)).drop f) (s.toList.drop (k+1)) := by
  rw [hr, drop_byte s k h, partsGo, if_neg (byte_ne (d := 47) hc), take_byte s k h, List.drop_append_of_le_length (by rw [List.length_take, len_toList]; omega)]
theorem parts_last (s : ByteArray) (f : Nat) (done : List (List UInt8))
    (hr : parts s.toList = done ++ partsGo ((s.toList.take s.size).drop f) (s.toList.drop s.size)) : parts s.toList = done ++ [s.toList.drop f] := by
  rw [List.take_of_length_le (by rw [len_toList]; omega), List.drop_of_length_le (l := s.toList) (i := s.size) (by rw [len_toList]; omega), partsGo] at hr
  exact hr

set_option maxHeartbeats 400000 in
theorem rparts_any (s : ByteArray) (w : World) (hs : s.size ≤ 1099511627770) :
    Calls Tryd.prog 33 #[.string s] w fun e w' => ∃ v, e = .returned v ∧ w'.ownsRow w.heap.size 9 1 v (parts s.toList).length (strs (parts s.toList)) ∧ Below w.heap.size w w' := by
  go_enter Tryd.func33, Tryd.ntmps33
  go_wp2
  go_loopw [3, 4, 5] (fun v f i wr => ∃ (k q : Nat) (done : List (List UInt8)), k ≤ s.size ∧ q ≤ k ∧ done.length ≤ k ∧ i = .int .i64 k ∧ f = .int .i64 q ∧ wr.ownsRow w.heap.size 9 1 v done.length (strs done) ∧ Below w.heap.size w wr ∧
      Hid (parts s.toList = done ++ partsGo ((s.toList.take k).drop q) (s.toList.drop k))) (fun _ _ i _ => s.size - (intOf i).toNat)
  case atStart => exact ⟨0, 0, [], Nat.zero_le _, Nat.zero_le _, Nat.zero_le _, rfl, rfl, World.ownsRow_nil .., Below.refl _ _, rfl⟩
  case round =>
    obtain ⟨k, q, done, hk, hq, hd, rfl, rfl, hown, hb, hr⟩ := hrel
    by_cases hlt : k < s.size
    · by_cases hc : ((s[k].toNat : Int) == 47) = true
      · have HC := Lib.hid hc
        go_wp2_with (at_builtin; refine wpList_app rfl _ _ 42 rfl 9 (.string ⟨#[]⟩) 1 16 Tryd.underlying42 Tryd.info9 rfl (by decide) wr [.string (s.extract q k)] rfl ?c1 w.heap.size _ _ _ hown rfl rfl ?c2 (by decide) hb.size ?_)
        case c1 => intro u hu; simp at hu; subst hu; rfl
        case c2 => omega
        intro v' w1 hown1 hg1 hb1
        rw [B_extract, strs_snoc] at hown1
        go_wp2
        go_roundw
        case rel => exact ⟨k + 1, k + 1, done ++ [(s.toList.take k).drop q], by omega, by omega, by simp; omega, by go_num, by go_num, by simpa using hown1, hb.trans hb1, parts_yes s q k done hq hlt HC.out hr.out⟩
        case measure => simp [intOf]; omega
      · have hc : ((s[k].toNat : Int) == 47) = false := by simpa using hc
        have HC := Lib.hid hc
        go_wp2
        go_roundw
        case rel => exact ⟨k + 1, q, done, by omega, by omega, by omega, by go_num, rfl, hown, hb, parts_no s q k done hq hlt HC.out hr.out⟩
        case measure => simp [intOf]; omega
    · have hke : k = s.size := by omega
      have HR : Hid (parts s.toList = done ++ partsGo ((s.toList.take s.size).drop q) (s.toList.drop s.size)) := by rw [hke] at hr; exact hr
      clear hke hr
      go_wp2_with (at_builtin; refine wpList_app rfl _ _ 42 rfl 9 (.string ⟨#[]⟩) 1 16 Tryd.underlying42 Tryd.info9 rfl (by decide) wr [.string (s.extract q s.size)] rfl ?c1 w.heap.size _ _ _ hown rfl rfl ?c2 (by decide) hb.size ?_)
      case c1 => intro u hu; simp at hu; subst hu; rfl
      case c2 => omega
      intro v' w1 hown1 hg1 hb1
      rw [B_drop, strs_snoc] at hown1
      go_wp2
      go_ret
      exact ⟨_, rfl, by rw [parts_last s q done HR.out]; simpa using hown1, hb.trans hb1⟩

theorem B_app (a b : List UInt8) : B (a ++ b) = B a ++ B b := by
  apply ByteArray.ext; simp [B]
theorem joinSl_one (l : List UInt8) : joinSl [l] = l := Lib.join_one l [47]
theorem joinSl_snoc (ls : List (List UInt8)) (l : List UInt8) (h : ls ≠ []) : joinSl (ls ++ [l]) = joinSl ls ++ [47] ++ l := by
  unfold joinSl
  induction ls with
  | nil => exact absurd rfl h
  | cons a r ih =>
    cases r with
    | nil => simp [Lib.join, List.intercalate]
    | cons b t =>
      have e1 : ∀ m : List (List UInt8), m ≠ [] → Lib.join (a :: m) [47] = a ++ [47] ++ Lib.join m [47] := by
        intro m hm
        cases m with
        | nil => exact absurd rfl hm
        | cons x y => simp [Lib.join, List.intercalate]
      rw [List.cons_append, e1 _ (by simp), e1 _ (by simp), ih (by simp)]
      simp
theorem take_getD' (ls : List (List UInt8)) (k : Nat) (h : k < ls.length) : ls.take (k + 1) = ls.take k ++ [ls[k]?.getD []] := by
  rw [List.take_succ_eq_append_getElem h]; simp [h]
theorem joinSl_step0 (ls : List (List UInt8)) (h : 0 < ls.length) : joinSl (ls.take (0 + 1)) = ls[0]?.getD [] := by
  rw [take_getD' ls 0 h]; exact joinSl_one _
theorem joinSl_step (ls : List (List UInt8)) (k : Nat) (h : k < ls.length) (h0 : 0 < k) : joinSl (ls.take (k + 1)) = joinSl (ls.take k) ++ [47] ++ ls[k]?.getD [] := by
  rw [take_getD' ls k h, joinSl_snoc]
  intro e
  have := congrArg List.length e
  rw [List.length_take, List.length_nil] at this; omega
theorem joinSl_le (ls : List (List UInt8)) (k : Nat) (hk : k ≤ ls.length) : (joinSl (ls.take k)).length ≤ (joinSl ls).length := by
  obtain ⟨d, hd⟩ : ∃ d, k + d = ls.length := ⟨ls.length - k, by omega⟩
  induction d generalizing k with
  | zero => rw [List.take_of_length_le (by omega)]; omega
  | succ d ih =>
    have h1 := ih (k + 1) (by omega) (by omega)
    rcases Nat.eq_zero_or_pos k with e | e
    · subst e; simp [joinSl, Lib.join_nil]
    · rw [joinSl_step ls k (by omega) e] at h1
      simp at h1; omega

set_option maxHeartbeats 400000 in
theorem rjoined_any (A : Option Addr) (n c : Nat) (ls : List (List UInt8)) (w : World) (hx : Rd w w.heap.size 1 A n (strs ls)) (hn : n ≤ 140737488355328) (hlen : (joinSl ls).length ≤ 140737488355328) :
    Calls Tryd.prog 35 #[.slice A n c] w fun e w' => e = .returned (.string (B (joinSl ls))) ∧ Below w.heap.size w w' := by
  have lx := hx.strs_length
  have HL := Lib.hid lx; clear lx
  go_enter Tryd.func35, Tryd.ntmps35
  go_wp2
  go_loopw [3, 4] (fun s i wr => ∃ k : Nat, k ≤ n ∧ i = .int .i64 k ∧ s = .string (B (joinSl (ls.take k))) ∧ Below w.heap.size w wr) (fun _ i _ => n - (intOf i).toNat)
  case atStart => exact ⟨0, Nat.zero_le _, rfl, by rw [List.take_zero]; rfl, Below.refl _ _⟩
  case round =>
    obtain ⟨k, hk, rfl, rfl, hbw⟩ := hrel
    by_cases hlt : k < n
    · obtain ⟨ad, rfl, ha⟩ := (hx.below hbw).str hlt
      have hle := joinSl_le ls (k + 1) (by rw [HL.out]; omega)
      by_cases h0 : 0 < k
      · have HS := Lib.hid (joinSl_step ls k (by rw [HL.out]; exact hlt) h0)
        rw [HS.out, List.length_append, List.length_append] at hle
        have z1 : (⟨#[47]⟩ : ByteArray).size = 1 := rfl
        simp only [List.length_cons, List.length_nil] at hle
        go_wp2
        go_roundw
        case rel => exact ⟨k + 1, by omega, by go_num, by rw [HS.out, B_app, B_app]; rfl, hbw⟩
        case measure => simp [intOf]; omega
      · have HZ : Hid (joinSl (ls.take k) = [] ∧ joinSl (ls.take (k + 1)) = ls[k]?.getD []) := by
          obtain rfl : k = 0 := by omega
          exact ⟨rfl, joinSl_step0 ls (by rw [HL.out]; exact hlt)⟩
        rw [HZ.out.2] at hle
        have z0 : (joinSl (ls.take k)).length ≤ 0 := by rw [HZ.out.1]; simp
        go_wp2
        go_roundw
        case rel => exact ⟨k + 1, by omega, by go_num, by rw [HZ.out.2, HZ.out.1, ← B_app]; rfl, hbw⟩
        case measure => simp [intOf]; omega
    · go_wp2
      go_ret
      exact ⟨ret_str (by rw [List.take_of_length_le (by rw [HL.out]; omega)]), hbw⟩

set_option maxHeartbeats 2000000 in
set_option maxRecDepth 100000 in
theorem rclean_any (s : ByteArray) (w : World) (hs : s.size ≤ 1000000) :
    Calls Tryd.prog 12 #[.string s] w fun e w' => e = CleanRet s.toList ∧ Below w.heap.size w w' := by
  have hps := parts_sum s.toList _ rfl
  rw [len_toList] at hps
  have hpr : room (parts s.toList) = s.size + 1 := hps
  clear hps
  have HP := Lib.hid hpr
  have hpl : (parts s.toList).length ≤ s.size + 1 := by rw [← hpr]; unfold room; omega
  clear hpr
  go_enter Tryd.func12, Tryd.ntmps12
  go_wp2_with fail
  with_reducible refine (rparts_any s _ (by omega)).mono ?_
  rintro e w1 ⟨v1, rfl, hown1, hb1⟩
  obtain ⟨A1, c1, rfl, hc1⟩ := own_form hown1
  have hr1 := Rd.of_own hown1
  have hs1 := hb1.size
  clear hown1 hc1
  have HC : Hid (clean s.toList = cleanK (cleanGo [] (parts s.toList))) := rfl
  generalize parts s.toList = ps at *
  obtain ⟨n, hn⟩ : ∃ n, ps.length = n := ⟨_, rfl⟩
  have HL := Lib.hid hn
  rw [hn] at hr1 hpl
  rw [hn]
  clear hn
  go_wp2
  go_loopw [5, 6] (fun v i wr => ∃ (k : Nat) (kept : List (List UInt8)) (A : Option Addr) (c : Nat), k ≤ n ∧ kept.length ≤ k ∧ i = .int .i64 k ∧ v = .slice A kept.length c ∧ kept.length ≤ c ∧ wr.ownsRow w1.heap.size 9 1 (.slice A kept.length c) kept.length (strs kept) ∧ Below w1.heap.size w1 wr ∧
      Hid (cleanGo [] ps = cleanGo kept (ps.drop k) ∧ room kept + room (ps.drop k) ≤ s.size + 1)) (fun _ i _ => n - (intOf i).toNat)
  case atStart => exact ⟨0, [], none, 0, Nat.zero_le _, Nat.zero_le _, rfl, rfl, Nat.zero_le _, World.ownsRow_nil .., Below.refl _ _, rfl, by rw [List.drop_zero, HP.out]; simp [room]⟩
  case round =>
    obtain ⟨k, kept, A, c, hk, hkl, rfl, rfl, hkc, hown, hb, hr⟩ := hrel
    by_cases hlt : k < n
    · obtain ⟨ad, rfl, ha⟩ := (hr1.below hb).str hlt
      have HD := Lib.hid (drop_getD ps k (by rw [HL.out]; exact hlt))
      have HR := Lib.hid (room_drop ps k (by rw [HL.out]; exact hlt))
      have hbs := hb.size
      simp only [List.getD_eq_getElem?_getD] at ha
      generalize ps[k]?.getD [] = p at *
      by_cases h0 : p = [] ∨ p = [46]
      · have HS : Hid (cleanGo [] ps = cleanGo kept (ps.drop (k + 1)) ∧ room kept + room (ps.drop (k + 1)) ≤ s.size + 1) := by
          refine ⟨by rw [hr.out.1, HD.out, go_dot h0], ?_⟩
          have := hr.out.2; rw [HR.out] at this; omega
        rcases h0 with rfl | rfl
        all_goals
          go_wp2
          go_roundw
          case rel => exact ⟨k + 1, kept, A, c, by omega, by omega, by go_num, rfl, hkc, hown, hb, HS.out⟩
          case measure => simp [intOf]; omega
      · have e0 : p.isEmpty = false := by cases p with | nil => exact absurd (.inl rfl) h0 | cons a b => rfl
        have e1 : (p == [46]) = false := by simpa using fun h => h0 (.inr h)
        by_cases h2 : p = [46, 46]
        · by_cases hz : kept.length = 0
          · have hz0 : kept = [] := List.eq_nil_of_length_eq_zero hz
            have HN : Hid (clean s.toList = []) := by rw [HC.out, hr.out.1, HD.out, go_top h2 hz0]; rfl
            subst h2
            have e3 : ((kept.length : Int) == 0) = true := by simp [hz]
            clear hz hz0
            go_wp2
            go_ret2
            exact ⟨cleanRet_none HN.out, hb1.trans (hb.mono hs1)⟩
          · have hz0 : kept ≠ [] := fun e => hz (by rw [e]; rfl)
            have HS : Hid (cleanGo [] ps = cleanGo kept.dropLast (ps.drop (k + 1)) ∧ room kept.dropLast + room (ps.drop (k + 1)) ≤ s.size + 1) := by
              refine ⟨by rw [hr.out.1, HD.out, go_up h2 hz0], ?_⟩
              have := hr.out.2; rw [HR.out] at this; have := room_dropLast kept; omega
            have hown2 := own_pop hown hz0
            have HDL := Lib.hid (List.length_dropLast (xs := kept))
            subst h2
            have e3 : ((kept.length : Int) == 0) = false := by simp [hz]
            have hp1 : 1 ≤ kept.length := by omega
            clear hz hz0
            go_wp2
            go_roundw
            case rel => exact ⟨k + 1, kept.dropLast, A, c, by omega, by rw [HDL.out]; omega, by go_num, by rw [HDL.out], by rw [HDL.out]; omega, by rw [HDL.out] at hown2 ⊢; exact hown2, hb, HS.out⟩
            case measure => simp [intOf]; omega
        · have e2 : (p == [46, 46]) = false := by simpa using h2
          cases hnb : nameB p with
          | false =>
            have HN : Hid (clean s.toList = []) := by rw [HC.out, hr.out.1, HD.out, go_bad h0 h2 hnb]; rfl
            have HB := Lib.hid hnb
            clear h0 h2 hnb
            go_wp2_with fail
            with_reducible refine (rname_any (B p) _ ?_).mono ?_
            · rw [B_size]; have := hr.out.2; rw [HR.out] at this; omega
            rintro e w2 ⟨rfl, rfl⟩
            rw [B_data, HB.out]
            go_wp2
            go_ret2
            exact ⟨cleanRet_none HN.out, hb1.trans (hb.mono hs1)⟩
          | true =>
            have HS : Hid (cleanGo [] ps = cleanGo (kept ++ [p]) (ps.drop (k + 1)) ∧ room (kept ++ [p]) + room (ps.drop (k + 1)) ≤ s.size + 1) := by
              refine ⟨by rw [hr.out.1, HD.out, go_name h0 h2 hnb], ?_⟩
              have := hr.out.2; rw [HR.out] at this; rw [room_snoc]; omega
            have HB := Lib.hid hnb
            clear h0 h2 hnb
            go_wp2_with fail
            with_reducible refine (rname_any (B p) _ ?_).mono ?_
            · rw [B_size]; have := hr.out.2; rw [HR.out] at this; omega
            rintro e w2 ⟨rfl, rfl⟩
            rw [B_data, HB.out]
            go_wp2_with (at_builtin; refine wpList_app rfl _ _ 42 rfl 9 (.string ⟨#[]⟩) 1 16 Tryd.underlying42 Tryd.info9 rfl (by decide) wr [.string (B p)] rfl ?c1 w1.heap.size _ _ _ hown rfl rfl ?c2 (by decide) hbs ?_)
            case c1 => intro u hu; simp at hu; subst hu; rfl
            case c2 => omega
            intro v' w3 hown3 hg3 hb3
            rw [strs_snoc] at hown3
            have hl3 : (kept ++ [p]).length = kept.length + 1 := by simp
            rw [← hl3] at hown3
            obtain ⟨A3, c3, rfl, hc3⟩ := own_form hown3
            have HL3 := Lib.hid hl3; clear hl3
            go_wp2
            go_roundw
            case rel => exact ⟨k + 1, kept ++ [p], A3, c3, by omega, by rw [HL3.out]; omega, by go_num, rfl, hc3, hown3, hb.trans hb3, HS.out⟩
            case measure => simp [intOf]; omega
    · have hke : k = n := by omega
      have HE : Hid (cleanGo [] ps = some kept) := by rw [hr.out.1, List.drop_of_length_le (by rw [HL.out]; omega)]; rfl
      have hjr : (joinSl kept).length ≤ 1000001 := by have := join_room kept; have := hr.out.2; omega
      have HCK : Hid (clean s.toList = cleanK (some kept)) := by rw [HC.out, HE.out]; rfl
      have hbs := hb.size
      clear hke
      go_wp2_with fail
      with_reducible refine (rjoined_any A _ c kept _ (Rd.of_own hown) (by omega) (by omega)).mono ?_
      rintro e w2 ⟨rfl, hb2⟩
      have hB2 : Below w.heap.size w w2 := (hb1.trans (hb.mono hs1)).trans (hb2.mono (by omega))
      by_cases hl : (joinSl kept).length ≤ 200
      · have HK : Hid (clean s.toList = joinSl kept) := by rw [HCK.out, cleanK_short hl]; rfl
        generalize joinSl kept = q at *
        by_cases hq : q = []
        · have HQ : Hid (clean s.toList = []) := by rw [HK.out, hq]; rfl
          subst hq
          go_wp2
          go_ret2
          exact ⟨cleanRet_none HQ.out, hB2⟩
        · have e0 : q.isEmpty = false := by cases q with | nil => exact absurd rfl hq | cons a b => rfl
          have HQ := Lib.hid hq; clear hq
          go_wp2
          go_ret2
          exact ⟨cleanRet_some HK.out HQ.out, hB2⟩
      · have HK : Hid (clean s.toList = []) := by rw [HCK.out, cleanK_long hl]; rfl
        generalize joinSl kept = q at *
        have e0 : q.isEmpty = false := by cases q with | nil => simp at hl | cons a b => rfl
        go_wp2
        go_ret2
        exact ⟨cleanRet_none HK.out, hB2⟩

end Go.Proofs.YtpbampchhpkpbaaDoor
