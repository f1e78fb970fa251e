/-
  Layer 16 (files): Clean: the normal form of a path.
-/
import Derived.Test.YtpbampchhpkpbaaDoorFilesB
namespace Go.Proofs.YtpbampchhpkpbaaDoor
open Go.RowKit
set_option linter.unusedVariables false
attribute [local go_sem] B_data B_size

theorem drop_getD (ls : List (List UInt8)) (k : Nat) (h : k < ls.length) : ls.drop k = ls[k]?.getD [] :: ls.drop (k + 1) := by
  rw [List.drop_eq_getElem_cons h]; simp [h]
theorem own_pop {w : World} {base : Nat} {A : Option Addr} {c : Nat} {ls : List (List UInt8)} (h : w.ownsRow base 9 1 (.slice A ls.length c) ls.length (strs ls)) (h0 : ls ≠ []) :
    w.ownsRow base 9 1 (.slice A (ls.length - 1) c) ls.dropLast.length (strs ls.dropLast) := by
  have hl : 0 < ls.length := List.length_pos_iff.2 h0
  rcases h.2 with ⟨_, h1⟩ | ⟨g, cap, cur, hv, hg, hh, hn, hcap, hsz, htake⟩
  · omega
  · cases hv
    refine ⟨by rw [strs_len, Nat.mul_one], .inr ⟨g, c, cur, by rw [List.length_dropLast], hg, hh, by rw [List.length_dropLast]; omega, hcap, hsz, ?_⟩⟩
    have e : strs ls.dropLast = (strs ls).take (ls.length - 1) := by unfold strs; rw [List.dropLast_eq_take, List.map_take]
    rw [e, ← htake, List.take_take, List.length_dropLast]
    congr 1
    omega

/-- one step of Clean, by the part's kind -/
theorem go_dot {kept r : List (List UInt8)} {p : List UInt8} (h : p = [] ∨ p = [46]) : cleanGo kept (p :: r) = cleanGo kept r := by rw [cleanGo, if_pos h]
theorem go_up {kept r : List (List UInt8)} {p : List UInt8} (h : p = [46, 46]) (h0 : kept ≠ []) : cleanGo kept (p :: r) = cleanGo kept.dropLast r := by
  subst h; rw [cleanGo, if_neg (by simp), if_pos rfl, if_neg h0]
theorem go_top {kept r : List (List UInt8)} {p : List UInt8} (h : p = [46, 46]) (h0 : kept = []) : cleanGo kept (p :: r) = none := by
  subst h; rw [cleanGo, if_neg (by simp), if_pos rfl, if_pos h0]
theorem go_bad {kept r : List (List UInt8)} {p : List UInt8} (h : ¬ (p = [] ∨ p = [46])) (h2 : p ≠ [46, 46]) (hn : nameB p = false) : cleanGo kept (p :: r) = none := by
  rw [cleanGo, if_neg h, if_neg h2, if_pos hn]
theorem go_name {kept r : List (List UInt8)} {p : List UInt8} (h : ¬ (p = [] ∨ p = [46])) (h2 : p ≠ [46, 46]) (hn : nameB p = true) : cleanGo kept (p :: r) = cleanGo (kept ++ [p]) r := by
  rw [cleanGo, if_neg h, if_neg h2, if_neg (by simp [hn])]

theorem parts_sum (l : List UInt8) : ∀ ls, parts l = ls → (ls.map List.length).sum + ls.length = l.length + 1 := by
  induction l with
  | nil => rintro ls rfl; rfl
  | cons c r ih =>
    rintro ls rfl
    have := ih _ rfl
    by_cases e : c = 47
    · subst e; rw [parts_slash]; simp; omega
    · obtain ⟨x, t, h1, h2⟩ := parts_cons c r e
      rw [h2]; rw [h1] at this; simp at this ⊢; omega
/-- how long the names are that are kept, with a slash each -/
def room (ls : List (List UInt8)) : Nat := (ls.map List.length).sum + ls.length
theorem room_snoc (ls : List (List UInt8)) (l : List UInt8) : room (ls ++ [l]) = room ls + l.length + 1 := by simp [room]; omega
theorem room_dropLast (ls : List (List UInt8)) : room ls.dropLast ≤ room ls := by
  rcases List.eq_nil_or_concat ls with rfl | ⟨a, b, rfl⟩
  · simp [room]
  · rw [List.concat_eq_append, List.dropLast_concat, room_snoc]; omega
theorem room_drop (ls : List (List UInt8)) (k : Nat) (h : k < ls.length) : room (ls.drop k) = room (ls.drop (k + 1)) + (ls[k]?.getD []).length + 1 := by
  rw [drop_getD ls k h]; simp [room]; omega
theorem join_room (ls : List (List UInt8)) : (joinSl ls).length ≤ room ls := by
  unfold joinSl
  induction ls with
  | nil => simp [Lib.join_nil, room]
  | cons a r ih =>
    cases r with
    | nil => rw [Lib.join_one]; simp [room]
    | cons b t =>
      have : Lib.join (a :: b :: t) [47] = a ++ [47] ++ Lib.join (b :: t) [47] := by simp [Lib.join, List.intercalate]
      rw [this]; simp [room] at ih ⊢; omega
theorem joinSl_nil (ls : List (List UInt8)) (h : cleanK (some ls) = []) : True := trivial

theorem cleanK_long {ls : List (List UInt8)} (h : ¬ (joinSl ls).length ≤ 200) : cleanK (some ls) = [] := by simp only [cleanK]; rw [if_neg h]
theorem cleanK_short {ls : List (List UInt8)} (h : (joinSl ls).length ≤ 200) : cleanK (some ls) = joinSl ls := by simp only [cleanK]; rw [if_pos h]

/-- what Clean returns -/
def CleanRet (l : List UInt8) : Ending := .returned (.tuple #[.string (B (clean l)), .int .i64 (errK (clean l))])
theorem cleanRet_none {l : List UInt8} (h : clean l = []) : Ending.returned (.tuple #[.string ⟨#[]⟩, .int .i64 6]) = CleanRet l := by unfold CleanRet; rw [h]; rfl
theorem cleanRet_some {l s : List UInt8} (h : clean l = s) (h0 : s ≠ []) : Ending.returned (.tuple #[.string (B s), .int .i64 0]) = CleanRet l := by unfold CleanRet errK; rw [h, if_neg h0]

set_option maxHeartbeats 2000000 in
set_option maxRecDepth 100000 in
theorem clean_any (s : ByteArray) (w : World) (hs : s.size ≤ 1000000) (hG : Glob w) :
    Calls Tryd.prog 11 #[.string s] w fun e w' => e = CleanRet s.toList ∧ Below w.heap.size w w' := by
  have hps := parts_sum s.toList _ rfl
  rw [len_toList] at hps
  have hpr : room (parts s.toList) = s.size + 1 := hps
  clear hps
  have HP := Lib.hid hpr
  have hpl : (parts s.toList).length ≤ s.size + 1 := by rw [← hpr]; unfold room; omega
  clear hpr
  go_enter Tryd.func11, Tryd.ntmps11
  go_wp2_with fail
  with_reducible refine (ssplit_any s _ (by omega) hG).mono ?_
  rintro e w1 ⟨v1, rfl, hown1, hb1⟩
  obtain ⟨A1, c1, rfl, hc1⟩ := own_form hown1
  have hr1 := Rd.of_own hown1
  have hs1 := hb1.size
  clear hown1 hc1
  have HC : Hid (clean s.toList = cleanK (cleanGo [] (parts s.toList))) := rfl
  generalize parts s.toList = ps at *
  obtain ⟨n, hn⟩ : ∃ n, ps.length = n := ⟨_, rfl⟩
  have HL := Lib.hid hn
  rw [hn] at hr1 hpl
  rw [hn]
  clear hn
  go_wp2
  go_loopw [4, 11] (fun v i wr => ∃ (k : Nat) (kept : List (List UInt8)) (A : Option Addr) (c : Nat), k ≤ n ∧ kept.length ≤ k ∧ i = .int .i64 k ∧ v = .slice A kept.length c ∧ kept.length ≤ c ∧ wr.ownsRow w1.heap.size 9 1 (.slice A kept.length c) kept.length (strs kept) ∧ Below w1.heap.size w1 wr ∧
      Hid (cleanGo [] ps = cleanGo kept (ps.drop k) ∧ room kept + room (ps.drop k) ≤ s.size + 1)) (fun _ i _ => n - (intOf i).toNat)
  case atStart => exact ⟨0, [], none, 0, Nat.zero_le _, Nat.zero_le _, rfl, rfl, Nat.zero_le _, World.ownsRow_nil .., Below.refl _ _, rfl, by rw [List.drop_zero, HP.out]; simp [room]⟩
  case round =>
    obtain ⟨k, kept, A, c, hk, hkl, rfl, rfl, hkc, hown, hb, hr⟩ := hrel
    by_cases hlt : k < n
    · obtain ⟨ad, rfl, ha⟩ := (hr1.below hb).str hlt
      have HD := Lib.hid (drop_getD ps k (by rw [HL.out]; exact hlt))
      have HR := Lib.hid (room_drop ps k (by rw [HL.out]; exact hlt))
      have hbs := hb.size
      simp only [List.getD_eq_getElem?_getD] at ha
      generalize ps[k]?.getD [] = p at *
      by_cases h0 : p = [] ∨ p = [46]
      · have HS : Hid (cleanGo [] ps = cleanGo kept (ps.drop (k + 1)) ∧ room kept + room (ps.drop (k + 1)) ≤ s.size + 1) := by
          refine ⟨by rw [hr.out.1, HD.out, go_dot h0], ?_⟩
          have := hr.out.2; rw [HR.out] at this; omega
        rcases h0 with rfl | rfl
        all_goals
          go_wp2
          go_roundw
          case rel => exact ⟨k + 1, kept, A, c, by omega, by omega, by go_num, rfl, hkc, hown, hb, HS.out⟩
          case measure => simp [intOf]; omega
      · have e0 : p.isEmpty = false := by cases p with | nil => exact absurd (.inl rfl) h0 | cons a b => rfl
        have e1 : (p == [46]) = false := by simpa using fun h => h0 (.inr h)
        by_cases h2 : p = [46, 46]
        · by_cases hz : kept.length = 0
          · have hz0 : kept = [] := List.eq_nil_of_length_eq_zero hz
            have HN : Hid (clean s.toList = []) := by rw [HC.out, hr.out.1, HD.out, go_top h2 hz0]; rfl
            subst h2
            have e3 : ((kept.length : Int) == 0) = true := by simp [hz]
            clear hz hz0
            go_wp2
            go_ret2
            exact ⟨cleanRet_none HN.out, hb1.trans (hb.mono hs1)⟩
          · have hz0 : kept ≠ [] := fun e => hz (by rw [e]; rfl)
            have HS : Hid (cleanGo [] ps = cleanGo kept.dropLast (ps.drop (k + 1)) ∧ room kept.dropLast + room (ps.drop (k + 1)) ≤ s.size + 1) := by
              refine ⟨by rw [hr.out.1, HD.out, go_up h2 hz0], ?_⟩
              have := hr.out.2; rw [HR.out] at this; have := room_dropLast kept; omega
            have hown2 := own_pop hown hz0
            have HDL := Lib.hid (List.length_dropLast (xs := kept))
            subst h2
            have e3 : ((kept.length : Int) == 0) = false := by simp [hz]
            have hp1 : 1 ≤ kept.length := by omega
            clear hz hz0
            go_wp2
            go_roundw
            case rel => exact ⟨k + 1, kept.dropLast, A, c, by omega, by rw [HDL.out]; omega, by go_num, by rw [HDL.out], by rw [HDL.out]; omega, by rw [HDL.out] at hown2 ⊢; exact hown2, hb, HS.out⟩
            case measure => simp [intOf]; omega
        · have e2 : (p == [46, 46]) = false := by simpa using h2
          cases hnb : nameB p with
          | false =>
            have HN : Hid (clean s.toList = []) := by rw [HC.out, hr.out.1, HD.out, go_bad h0 h2 hnb]; rfl
            have HB := Lib.hid hnb
            clear h0 h2 hnb
            go_wp2_with fail
            with_reducible refine (pathName_any (B p) _ ?_).mono ?_
            · rw [B_size]; have := hr.out.2; rw [HR.out] at this; omega
            rintro e w2 ⟨rfl, rfl⟩
            rw [B_data, HB.out]
            go_wp2
            go_ret2
            exact ⟨cleanRet_none HN.out, hb1.trans (hb.mono hs1)⟩
          | true =>
            have HS : Hid (cleanGo [] ps = cleanGo (kept ++ [p]) (ps.drop (k + 1)) ∧ room (kept ++ [p]) + room (ps.drop (k + 1)) ≤ s.size + 1) := by
              refine ⟨by rw [hr.out.1, HD.out, go_name h0 h2 hnb], ?_⟩
              have := hr.out.2; rw [HR.out] at this; rw [room_snoc]; omega
            have HB := Lib.hid hnb
            clear h0 h2 hnb
            go_wp2_with fail
            with_reducible refine (pathName_any (B p) _ ?_).mono ?_
            · rw [B_size]; have := hr.out.2; rw [HR.out] at this; omega
            rintro e w2 ⟨rfl, rfl⟩
            rw [B_data, HB.out]
            go_wp2_with (at_builtin; refine wpList_app rfl _ _ 42 rfl 9 (.string ⟨#[]⟩) 1 16 Tryd.underlying42 Tryd.info9 rfl (by decide) wr [.string (B p)] rfl ?c1 w1.heap.size _ _ _ hown rfl rfl ?c2 (by decide) hbs ?_)
            case c1 => intro u hu; simp at hu; subst hu; rfl
            case c2 => omega
            intro v' w3 hown3 hg3 hb3
            rw [strs_snoc] at hown3
            have hl3 : (kept ++ [p]).length = kept.length + 1 := by simp
            rw [← hl3] at hown3
            obtain ⟨A3, c3, rfl, hc3⟩ := own_form hown3
            have HL3 := Lib.hid hl3; clear hl3
            go_wp2
            go_roundw
            case rel => exact ⟨k + 1, kept ++ [p], A3, c3, by omega, by rw [HL3.out]; omega, by go_num, rfl, hc3, hown3, hb.trans hb3, HS.out⟩
            case measure => simp [intOf]; omega
    · have hke : k = n := by omega
      have HE : Hid (cleanGo [] ps = some kept) := by rw [hr.out.1, List.drop_of_length_le (by rw [HL.out]; omega)]; rfl
      have hjr : (joinSl kept).length ≤ 1000001 := by have := join_room kept; have := hr.out.2; omega
      have HCK : Hid (clean s.toList = cleanK (some kept)) := by rw [HC.out, HE.out]; rfl
      have hbs := hb.size
      clear hke
      go_wp2_with fail
      with_reducible refine (sjoin_any A _ c kept _ (Rd.of_own hown) hkc (by omega) (by omega)).mono ?_
      rintro e w2 ⟨rfl, hb2⟩
      have hB2 : Below w.heap.size w w2 := (hb1.trans (hb.mono hs1)).trans (hb2.mono (by omega))
      by_cases hl : (joinSl kept).length ≤ 200
      · have HK : Hid (clean s.toList = joinSl kept) := by rw [HCK.out, cleanK_short hl]; rfl
        generalize joinSl kept = q at *
        by_cases hq : q = []
        · have HQ : Hid (clean s.toList = []) := by rw [HK.out, hq]; rfl
          subst hq
          go_wp2
          go_ret2
          exact ⟨cleanRet_none HQ.out, hB2⟩
        · have e0 : q.isEmpty = false := by cases q with | nil => exact absurd rfl hq | cons a b => rfl
          have HQ := Lib.hid hq; clear hq
          go_wp2
          go_ret2
          exact ⟨cleanRet_some HK.out HQ.out, hB2⟩
      · have HK : Hid (clean s.toList = []) := by rw [HCK.out, cleanK_long hl]; rfl
        generalize joinSl kept = q at *
        have e0 : q.isEmpty = false := by cases q with | nil => simp at hl | cons a b => rfl
        go_wp2
        go_ret2
        exact ⟨cleanRet_none HK.out, hB2⟩

end Go.Proofs.YtpbampchhpkpbaaDoor
