/-
  Layer 49 (project): the errors of variables, flags and a target: the program's.
-/
import Derived.Test.YtmkenekngaihhaaGreatDoorPjM
import Derived.Test.YtmkenekngaihhaaGreatDoorNm
namespace Go.Proofs.YtmkenekngaihhaaGreatDoor
open Go.RowKit
set_option linter.unusedVariables false
set_option linter.unusedSimpArgs false
attribute [local go_sem] B_data B_size

def prF (p : List UInt8 × List UInt8) : List Value := [.string (B p.1), .string (B p.2)]
theorem prF_len (p : List UInt8 × List UInt8) : (prF p).length = 2 := rfl
def tgF (t : Tg) : List Value := [.string (B t.nm), .string (B t.kd), .int .i64 t.pg, .int .i64 t.wd]
theorem tgF_len (t : Tg) : (tgF t).length = 4 := rfl
def langB (s : List UInt8) : Bool := s == [101, 110] || s == [100, 101] || s == [102, 114] || s == [101, 115]
/-- the words of the layers below -/
def pkG : Pk := ⟨trimB, pathB, langB, nm3⟩
theorem take_keys {ats : List (List UInt8 × List UInt8)} {j : Nat} {p : List UInt8 × List UInt8} (h : ats[j]? = some p) : (ats.take (j + 1)).map (·.1) = (ats.take j).map (·.1) ++ [p.1] := by
  obtain ⟨hj, e⟩ := List.getElem?_eq_some_iff.1 h
  rw [List.take_succ_eq_append_getElem hj, List.map_append, e]; rfl
theorem take_one {α : Type} {l : List α} {j : Nat} {p : α} (h : l[j]? = some p) : l.take (j + 1) = l.take j ++ [p] := by
  obtain ⟨hj, e⟩ := List.getElem?_eq_some_iff.1 h
  rw [List.take_succ_eq_append_getElem hj, e]
/-- what the checks of lists leave -/
def VPost (r : Int) (b : Nat) (w : World) (e : Ending) (w' : World) : Prop := e = .returned (.int .i64 r) ∧ (∃ ks, NMap w' b ks) ∧ w.grownBy w' (some b)
theorem vpost {r x : Int} {b : Nat} {w w' : World} {ks : List (List UInt8)} (h : Hid (x = r)) (h1 : NMap w' b ks) (h2 : w.grownBy w' (some b)) : VPost x b w (.returned (.int .i64 r)) w' := ⟨by rw [h.out], ⟨ks, h1⟩, h2⟩
theorem grown_drewN {a b : World} {row : Option Nat} (h : a.grownBy b row) (k : Nat) : a.grownBy (b.drewN k) row := ⟨h.os, h.tape, h.output, h.size, h.block⟩
theorem grown_alloc {a b : World} {row : Option Nat} (h : a.grownBy b row) (o : Obj) : a.grownBy (b.alloc o) row := grown_trans h (World.grownBy_alloc b o row)
theorem varsT_long {k : Pk} {l : List (List UInt8 × List UInt8)} (h : 32 < l.length) : varsT k l = 3 := by unfold varsT; rw [if_pos h]
theorem varsT_ok {k : Pk} {l : List (List UInt8 × List UInt8)} (h : ¬ 32 < l.length) : varsT k l = varsE k [] l := by unfold varsT; rw [if_neg h]
theorem flagsT_long {k : Pk} {l : List (List UInt8)} (h : 32 < l.length) : flagsT k l = 3 := by unfold flagsT; rw [if_pos h]
theorem flagsT_ok {k : Pk} {l : List (List UInt8)} (h : ¬ 32 < l.length) : flagsT k l = flagsE k [] l := by unfold flagsT; rw [if_neg h]

set_option maxHeartbeats 4000000 in
set_option maxRecDepth 100000 in
theorem checkVars_any (A : Option Addr) (n c b M : Nat) (vs : List (List UInt8 × List UInt8)) (w : World) (hx : Rd w M 2 A n (vs.flatMap prF)) (hM : M ≤ b) (hMw : M ≤ w.heap.size) (hm : NMap w b []) (hn : n ≤ 1000000000) (hsz : ∀ p ∈ vs, p.1.length ≤ 1000000 ∧ p.2.length ≤ 1000000) :
    Calls Tryz.prog 21 #[.slice A n c, .map (some b)] w (VPost (varsT pkG vs) b w) := by
  have HL := Lib.hid (hx.count prF 2 prF_len (by omega))
  have HS := Lib.hid hsz
  clear hsz
  by_cases h32 : 32 < n
  · have HX : Hid (varsT pkG vs = 3) := varsT_long (by rw [HL.out]; exact h32)
    go_enter Tryz.func21, Tryz.ntmps21
    go_wp2
    go_ret
    exact vpost HX hm (World.grownBy.refl w _)
  have HV : Hid (varsT pkG vs = varsE pkG [] vs) := varsT_ok (by rw [HL.out]; exact h32)
  go_enter Tryz.func21, Tryz.ntmps21
  go_wp2
  go_loopw [12] (fun i wr => ∃ (j : Nat), j ≤ n ∧ i = .int .i64 j ∧ Hid (NMap wr b ((vs.take j).map (·.1))) ∧ Hid (w.grownBy wr (some b)) ∧ Hid (varsT pkG vs = varsE pkG ((vs.take j).map (·.1)) (vs.drop j))) (fun i _ => n - (intOf i).toNat)
  case atStart => exact ⟨0, Nat.zero_le _, rfl, hm, World.grownBy.refl w _, HV⟩
  case round =>
    obtain ⟨j, hj, rfl, hnm, hgr, hr⟩ := hrel
    by_cases hlt : j < n
    · obtain ⟨p, hp⟩ := get_of (l := vs) (k := j) (by rw [HL.out]; exact hlt)
      obtain ⟨b2, o, rfl, hbm, hcell⟩ := (hx.below (below_of_grown hgr.out hMw (fun k hk => by injection hk with hk; omega))).elem prF 2 prF_len (by omega) hp
      have HD := Lib.hid (drop_get hp)
      have HTK := Lib.hid (take_keys hp)
      have hpl := HS.out p (List.mem_of_getElem? hp)
      obtain ⟨k, v⟩ := p
      obtain ⟨hp1, hp2⟩ := hpl
      have hp1 : k.length ≤ 1000000 := hp1
      have hp2 : v.length ≤ 1000000 := hp2
      have c0 : wr.cell? ⟨b2, o + j * 2, none⟩ = some (.string (B k)) := hcell 0 _ rfl
      have c1 : wr.cell? ⟨b2, o + j * 2 + 1, none⟩ = some (.string (B v)) := hcell 1 _ rfl
      have HE : Hid (varsT pkG vs = if nm3 k = false then 6 else if trimB v = false then 17 else if k ∈ (vs.take j).map (·.1) then 7 else varsE pkG ((vs.take (j + 1)).map (·.1)) (vs.drop (j + 1))) := by rw [hr.out, HD.out, varsE, HTK.out]; rfl
      have HNA := Lib.hid (hnm.out.alloc (.cells #[.string (B k), .string (B v)] 40))
      have HGA := Lib.hid (grown_alloc hgr.out (.cells #[.string (B k), .string (B v)] 40))
      clear hcell hr HD
      go_wp2_with fail
      refine (aname_any (B k) _ (by rw [B_size]; omega)).mono ?_
      rintro e w1 ⟨rfl, rfl⟩
      rw [B_data]
      cases h1 : nm3 k
      · have HX : Hid (varsT pkG vs = 6) := by rw [HE.out, if_pos h1]; rfl
        clear HE
        go_wp2
        go_ret
        exact vpost HX HNA.out HGA.out
      · go_wp2_with fail
        refine (trimmed_any (B v) _ (by rw [B_size]; omega)).mono ?_
        rintro e w1 ⟨rfl, q, rfl⟩
        rw [B_data]
        cases h2 : trimB v
        · have HX : Hid (varsT pkG vs = 17) := by rw [HE.out, if_neg (by simp [h1]), if_pos h2]; rfl
          clear HE
          go_wp2
          go_ret
          exact vpost HX (HNA.out.drewN q) (grown_drewN HGA.out q)
        · by_cases hs : k ∈ (vs.take j).map (·.1)
          · have HX : Hid (varsT pkG vs = 7) := by rw [HE.out, if_neg (by simp [h1]), if_neg (by simp [h2]), if_pos hs]; rfl
            have HC := Lib.hid (add_no b _ k _ (HNA.out.drewN q) hs)
            clear HE h1 h2 hs
            go_wp2_with fail
            refine HC.out.mono ?_
            rintro e w1 ⟨rfl, rfl⟩
            go_wp2
            go_ret
            exact vpost HX (HNA.out.drewN q) (grown_drewN HGA.out q)
          · have HX : Hid (varsT pkG vs = varsE pkG ((vs.take (j + 1)).map (·.1)) (vs.drop (j + 1))) := by rw [HE.out, if_neg (by simp [h1]), if_neg (by simp [h2]), if_neg hs]; rfl
            have HC := Lib.hid (add_yes b _ k _ (HNA.out.drewN q) hs)
            clear HE h1 h2 hs
            go_wp2_with fail
            refine HC.out.mono ?_
            rintro e w1 ⟨rfl, hn2, hg2⟩
            have HN2 := Lib.hid hn2
            have HG2 := Lib.hid (grown_trans (grown_drewN HGA.out q) hg2)
            clear hn2 hg2
            go_wp2
            go_roundw
            case rel => exact ⟨j + 1, by omega, by go_num, by rw [HTK.out]; exact HN2, HG2, HX⟩
            case measure => simp [intOf]; omega
    · have HX : Hid (varsT pkG vs = 0) := by rw [hr.out, List.drop_of_length_le (by rw [HL.out]; omega)]; rfl
      go_wp2
      go_ret
      exact vpost HX hnm.out hgr.out
theorem res_cases {s : List UInt8} (h : reserved s = true) : s = [97, 110, 100] ∨ s = [111, 114] ∨ s = [110, 111, 116] ∨ s = [116, 114, 117, 101] ∨ s = [102, 97, 108, 115, 101] := by
  simp only [reserved, Bool.or_eq_true, beq_iff_eq] at h
  rcases h with (((h | h) | h) | h) | h
  · exact .inl h
  · exact .inr (.inl h)
  · exact .inr (.inr (.inl h))
  · exact .inr (.inr (.inr (.inl h)))
  · exact .inr (.inr (.inr (.inr h)))
theorem res_no {s : List UInt8} (h : reserved s = false) : (s == [97, 110, 100]) = false ∧ (s == [111, 114]) = false ∧ (s == [110, 111, 116]) = false ∧ (s == [116, 114, 117, 101]) = false ∧ (s == [102, 97, 108, 115, 101]) = false := by
  simp only [reserved, Bool.or_eq_false_iff] at h
  exact ⟨h.1.1.1.1, h.1.1.1.2, h.1.1.2, h.1.2, h.2⟩
set_option maxHeartbeats 4000000 in
set_option maxRecDepth 100000 in
theorem checkFlags_any (A : Option Addr) (n c b M : Nat) (fs : List (List UInt8)) (w : World) (hx : Rd w M 1 A n (strs fs)) (hM : M ≤ b) (hMw : M ≤ w.heap.size) (hm : NMap w b []) (hn : n ≤ 1000000000) (hsz : ∀ p ∈ fs, p.length ≤ 1000000) :
    Calls Tryz.prog 23 #[.slice A n c, .map (some b)] w (VPost (flagsT pkG fs) b w) := by
  have HL := Lib.hid hx.strs_length
  have HS := Lib.hid hsz
  clear hsz
  by_cases h32 : 32 < n
  · have HX : Hid (flagsT pkG fs = 3) := flagsT_long (by rw [HL.out]; exact h32)
    go_enter Tryz.func23, Tryz.ntmps23
    go_wp2
    go_ret
    exact vpost HX hm (World.grownBy.refl w _)
  have HV : Hid (flagsT pkG fs = flagsE pkG [] fs) := flagsT_ok (by rw [HL.out]; exact h32)
  go_enter Tryz.func23, Tryz.ntmps23
  go_wp2
  go_loopw [12] (fun i wr => ∃ (j : Nat), j ≤ n ∧ i = .int .i64 j ∧ Hid (NMap wr b (fs.take j)) ∧ Hid (w.grownBy wr (some b)) ∧ Hid (flagsT pkG fs = flagsE pkG (fs.take j) (fs.drop j))) (fun i _ => n - (intOf i).toNat)
  case atStart => exact ⟨0, Nat.zero_le _, rfl, hm, World.grownBy.refl w _, HV⟩
  case round =>
    obtain ⟨j, hj, rfl, hnm, hgr, hr⟩ := hrel
    by_cases hlt : j < n
    · obtain ⟨p, hp⟩ := get_of (l := fs) (k := j) (by rw [HL.out]; exact hlt)
      obtain ⟨ad, rfl, c0⟩ := (hx.below (below_of_grown hgr.out hMw (fun k hk => by injection hk with hk; omega))).str hlt
      have HD := Lib.hid (drop_get hp)
      have HTK := Lib.hid (take_one hp)
      have hpl := HS.out p (List.mem_of_getElem? hp)
      have hgd : fs.getD j [] = p := by rw [List.getD_eq_getElem?_getD, hp]; rfl
      rw [hgd] at c0
      have HE : Hid (flagsT pkG fs = if (nm3 p && !reserved p) = false then 6 else if p ∈ fs.take j then 7 else flagsE pkG (fs.take (j + 1)) (fs.drop (j + 1))) := by rw [hr.out, HD.out, flagsE, HTK.out]; rfl
      clear hr HD hgd
      cases h0 : reserved p
      · obtain ⟨r1, r2, r3, r4, r5⟩ := res_no h0
        have HE : Hid (flagsT pkG fs = if nm3 p = false then 6 else if p ∈ fs.take j then 7 else flagsE pkG (fs.take (j + 1)) (fs.drop (j + 1))) := by rw [HE.out, h0]; simp [Hid]
        clear h0
        go_wp2_with fail
        refine (aname_any (B p) _ (by rw [B_size]; omega)).mono ?_
        rintro e w1 ⟨rfl, rfl⟩
        rw [B_data]
        cases h1 : nm3 p
        · have HX : Hid (flagsT pkG fs = 6) := by rw [HE.out, if_pos h1]; rfl
          clear HE
          go_wp2
          go_ret
          exact vpost HX hnm.out hgr.out
        · by_cases hs : p ∈ fs.take j
          · have HX : Hid (flagsT pkG fs = 7) := by rw [HE.out, if_neg (by simp [h1]), if_pos hs]; rfl
            have HC := Lib.hid (add_no b _ p _ hnm.out hs)
            clear HE h1 hs
            go_wp2_with fail
            refine HC.out.mono ?_
            rintro e w1 ⟨rfl, rfl⟩
            go_wp2
            go_ret
            exact vpost HX hnm.out hgr.out
          · have HX : Hid (flagsT pkG fs = flagsE pkG (fs.take (j + 1)) (fs.drop (j + 1))) := by rw [HE.out, if_neg (by simp [h1]), if_neg hs]; rfl
            have HC := Lib.hid (add_yes b _ p _ hnm.out hs)
            clear HE h1 hs
            go_wp2_with fail
            refine HC.out.mono ?_
            rintro e w1 ⟨rfl, hn2, hg2⟩
            have HN2 := Lib.hid hn2
            have HG2 := Lib.hid (grown_trans hgr.out hg2)
            clear hn2 hg2
            go_wp2
            go_roundw
            case rel => exact ⟨j + 1, by omega, by go_num, by rw [HTK.out]; exact HN2, HG2, HX⟩
            case measure => simp [intOf]; omega
      · have HX : Hid (flagsT pkG fs = 6) := by rw [HE.out, h0]; simp [Hid]
        clear HE HTK hpl
        rcases res_cases h0 with rfl | rfl | rfl | rfl | rfl
        all_goals
          clear h0
          go_wp2
          go_ret
          exact vpost HX hnm.out hgr.out
    · have HX : Hid (flagsT pkG fs = 0) := by rw [hr.out, List.drop_of_length_le (by rw [HL.out]; omega)]; rfl
      go_wp2
      go_ret
      exact vpost HX hnm.out hgr.out
/-- what one target leaves -/
def TPost (t : Tg) (ks : List (List UInt8)) (b : Nat) (w : World) (e : Ending) (w' : World) : Prop :=
  ∃ r, e = .returned (.int .i64 r) ∧ (if (nm3 t.nm && decide (58 ∉ t.nm)) = false then r = 6 ∧ NMap w' b ks else if t.nm ∈ ks then r = 7 ∧ NMap w' b ks else r = kindE t ∧ NMap w' b (ks ++ [t.nm])) ∧ w.grownBy w' (some b)
theorem tpost6 {t : Tg} {ks : List (List UInt8)} {b : Nat} {w w' : World} (h : Hid ((nm3 t.nm && decide (58 ∉ t.nm)) = false)) (h1 : NMap w' b ks) (h2 : w.grownBy w' (some b)) : TPost t ks b w (.returned (.int .i64 6)) w' := ⟨6, rfl, by rw [if_pos h.out]; exact ⟨rfl, h1⟩, h2⟩
theorem tpost7 {t : Tg} {ks : List (List UInt8)} {b : Nat} {w w' : World} (h : Hid ((nm3 t.nm && decide (58 ∉ t.nm)) = true)) (hk : Hid (t.nm ∈ ks)) (h1 : NMap w' b ks) (h2 : w.grownBy w' (some b)) : TPost t ks b w (.returned (.int .i64 7)) w' := ⟨7, rfl, by rw [if_neg (by rw [h.out]; simp), if_pos hk.out]; exact ⟨rfl, h1⟩, h2⟩
theorem tpostk {t : Tg} {ks : List (List UInt8)} {b : Nat} {w w' : World} {r : Int} (h : Hid ((nm3 t.nm && decide (58 ∉ t.nm)) = true)) (hk : Hid (t.nm ∉ ks)) (hr : r = kindE t) (h1 : NMap w' b (ks ++ [t.nm])) (h2 : w.grownBy w' (some b)) : TPost t ks b w (.returned (.int .i64 r)) w' := ⟨r, rfl, by rw [if_neg (by rw [h.out]; simp), if_neg hk.out]; exact ⟨hr, h1⟩, h2⟩
theorem has_colon_any (s : ByteArray) (w : World) : Calls Tryz.prog 47 #[.string s, .string ⟨#[58]⟩] w fun e w' => e = .returned (.bool (decide (58 ∈ s.toList))) ∧ w = w' :=
  (Tryz.strings_Contains_one s 58 w).mono fun e w' ⟨h1, h2⟩ => ⟨by rw [h1, contains_one, toList_data], h2.symm⟩
set_option maxHeartbeats 4000000 in
set_option maxRecDepth 100000 in
theorem checkTarget_any (t : Tg) (b : Nat) (ks : List (List UInt8)) (w : World) (hm : NMap w b ks) (hs1 : t.nm.length ≤ 1000000) (hs2 : t.kd.length ≤ 1000000) :
    Calls Tryz.prog 24 #[.agg #[.string (B t.nm), .string (B t.kd), .int .i64 t.pg, .int .i64 t.wd], .map (some b)] w (TPost t ks b w) := by
  have HNA := Lib.hid (hm.alloc (.cells #[.string (B t.nm), .string (B t.kd), .int .i64 t.pg, .int .i64 t.wd] 38))
  have HGA := Lib.hid (grown_alloc (World.grownBy.refl w (some b)) (.cells #[.string (B t.nm), .string (B t.kd), .int .i64 t.pg, .int .i64 t.wd] 38))
  have hmlt := hm.lt
  clear hm
  cases h1 : nm3 t.nm
  · have HX : Hid ((nm3 t.nm && decide (58 ∉ t.nm)) = false) := by rw [h1]; rfl
    go_enter Tryz.func24, Tryz.ntmps24
    go_wp2_with fail
    refine (aname_any (B t.nm) _ (by rw [B_size]; omega)).mono ?_
    rintro e w1 ⟨rfl, rfl⟩
    rw [B_data, h1]
    clear h1
    go_wp2
    go_ret
    exact tpost6 HX HNA.out HGA.out
  by_cases h2 : 58 ∈ t.nm
  · have HX : Hid ((nm3 t.nm && decide (58 ∉ t.nm)) = false) := by simp [h2, Hid]
    have hd : decide (58 ∈ t.nm) = true := by simpa using h2
    go_enter Tryz.func24, Tryz.ntmps24
    go_wp2_with fail
    refine (aname_any (B t.nm) _ (by rw [B_size]; omega)).mono ?_
    rintro e w1 ⟨rfl, rfl⟩
    rw [B_data, h1]
    go_wp2_with fail
    refine (has_colon_any (B t.nm) _).mono ?_
    rintro e w1 ⟨rfl, rfl⟩
    rw [B_data, hd]
    clear h1 h2 hd
    go_wp2
    go_ret
    exact tpost6 HX HNA.out HGA.out
  have HX : Hid ((nm3 t.nm && decide (58 ∉ t.nm)) = true) := by simp [h1, h2, Hid]
  have hd : decide (58 ∈ t.nm) = false := by simpa using h2
  by_cases h3 : t.nm ∈ ks
  · have HC := Lib.hid (add_no b _ t.nm _ HNA.out h3)
    have HK := Lib.hid h3
    go_enter Tryz.func24, Tryz.ntmps24
    go_wp2_with fail
    refine (aname_any (B t.nm) _ (by rw [B_size]; omega)).mono ?_
    rintro e w1 ⟨rfl, rfl⟩
    rw [B_data, h1]
    go_wp2_with fail
    refine (has_colon_any (B t.nm) _).mono ?_
    rintro e w1 ⟨rfl, rfl⟩
    rw [B_data, hd]
    clear h1 h2 hd h3
    go_wp2_with fail
    refine HC.out.mono ?_
    rintro e w1 ⟨rfl, rfl⟩
    go_wp2
    go_ret
    exact tpost7 HX HK HNA.out HGA.out
  have HC := Lib.hid (add_yes b _ t.nm _ HNA.out h3)
  have HK := Lib.hid h3
  have hlt := hmlt
  obtain ⟨nm, kd, pg, wd⟩ := t
  simp only at *
  have key : Hid (∀ w1 : World, (w.alloc (.cells #[.string (B nm), .string (B kd), .int .i64 pg, .int .i64 wd] 38)).grownBy w1 (some b) → ∀ (j : Nat) (u : Value), (#[Value.string (B nm), .string (B kd), .int .i64 pg, .int .i64 wd] : Array Value)[j]? = some u → w1.cell? ⟨w.heap.size, j, none⟩ = some u) := by
    intro w1 hg j u hj
    rw [World.cell?_of_block (w := w.alloc (.cells #[.string (B nm), .string (B kd), .int .i64 pg, .int .i64 wd] 38)) (hg.block w.heap.size (by simp) (fun e => by injection e with e; omega))]
    rw [cell_of_row _ w.heap.size j _ 38 (0, 0) (heap_alloc_new w _)]
    exact hj
  by_cases k1 : kd = kPages
  · subst k1
    have HQ : Hid (kindE ⟨nm, kPages, pg, wd⟩ = if pg < 5 ∨ 1000 < pg ∨ wd < 500 ∨ 100000 < wd then 9 else 0) := by unfold kindE; rw [if_pos rfl]; rfl
    go_enter Tryz.func24, Tryz.ntmps24
    go_wp2_with fail
    refine (aname_any (B nm) _ (by rw [B_size]; omega)).mono ?_
    rintro e w1 ⟨rfl, rfl⟩
    rw [B_data, h1]
    go_wp2_with fail
    refine (has_colon_any (B nm) _).mono ?_
    rintro e w1 ⟨rfl, rfl⟩
    rw [B_data, hd]
    clear h1 h2 hd h3
    go_wp2_with fail
    refine HC.out.mono ?_
    rintro e w1 ⟨rfl, hn2, hg2⟩
    have c1 := key.out w1 hg2 1 _ rfl
    have c2 := key.out w1 hg2 2 _ rfl
    have c3 := key.out w1 hg2 3 _ rfl
    have HN2 := Lib.hid hn2
    have HG2 := Lib.hid (grown_trans HGA.out hg2)
    clear hn2 hg2 HC key hlt
    go_wp2
    all_goals
      go_ret
      exact tpostk HX HK (by rw [HQ.out]; first | rw [if_pos (by omega)] | rw [if_neg (by omega)]) HN2.out HG2.out
  · by_cases k2 : kd = kHtml ∨ kd = kBook ∨ kd = kSlides
    · have HQ : Hid (kindE ⟨nm, kd, pg, wd⟩ = if pg ≠ 0 ∨ wd ≠ 0 then 9 else 0) := by unfold kindE; rw [if_neg k1, if_pos k2]; rfl
      rcases k2 with rfl | rfl | rfl
      all_goals
        go_enter Tryz.func24, Tryz.ntmps24
        go_wp2_with fail
        refine (aname_any (B nm) _ (by rw [B_size]; omega)).mono ?_
        rintro e w1 ⟨rfl, rfl⟩
        rw [B_data, h1]
        go_wp2_with fail
        refine (has_colon_any (B nm) _).mono ?_
        rintro e w1 ⟨rfl, rfl⟩
        rw [B_data, hd]
        clear h1 h2 hd h3 k1
        go_wp2_with fail
        refine HC.out.mono ?_
        rintro e w1 ⟨rfl, hn2, hg2⟩
        have c1 := key.out w1 hg2 1 _ rfl
        have c2 := key.out w1 hg2 2 _ rfl
        have c3 := key.out w1 hg2 3 _ rfl
        have HN2 := Lib.hid hn2
        have HG2 := Lib.hid (grown_trans HGA.out hg2)
        clear hn2 hg2 HC key hlt
        by_cases p0 : pg = 0
        · subst p0
          by_cases p1 : wd = 0
          · subst p1
            go_wp2
            go_ret
            exact tpostk HX HK (by rw [HQ.out]; rfl) HN2.out HG2.out
          · have q1 : (wd != 0) = true := by simpa using p1
            have HQ2 := Lib.hid (HQ.out.trans (if_pos (.inr p1)))
            clear p1
            go_wp2
            go_ret
            exact tpostk HX HK HQ2.out.symm HN2.out HG2.out
        · have q1 : (pg != 0) = true := by simpa using p0
          have HQ2 := Lib.hid (HQ.out.trans (if_pos (.inl p0)))
          clear p0
          go_wp2
          go_ret
          exact tpostk HX HK HQ2.out.symm HN2.out HG2.out
    · have HQ : Hid (kindE ⟨nm, kd, pg, wd⟩ = 13) := by unfold kindE; rw [if_neg k1, if_neg k2]; rfl
      simp only [not_or] at k2
      have e1 : (kd == [112, 97, 103, 101, 115]) = false := by simpa [kPages] using k1
      have e2 : (kd == [104, 116, 109, 108]) = false := by simpa [kHtml] using k2.1
      have e3 : (kd == [98, 111, 111, 107]) = false := by simpa [kBook] using k2.2.1
      have e4 : (kd == [115, 108, 105, 100, 101, 115]) = false := by simpa [kSlides] using k2.2.2
      clear k1 k2
      go_enter Tryz.func24, Tryz.ntmps24
      go_wp2_with fail
      refine (aname_any (B nm) _ (by rw [B_size]; omega)).mono ?_
      rintro e w1 ⟨rfl, rfl⟩
      rw [B_data, h1]
      go_wp2_with fail
      refine (has_colon_any (B nm) _).mono ?_
      rintro e w1 ⟨rfl, rfl⟩
      rw [B_data, hd]
      clear h1 h2 hd h3
      go_wp2_with fail
      refine HC.out.mono ?_
      rintro e w1 ⟨rfl, hn2, hg2⟩
      have c1 := key.out w1 hg2 1 _ rfl
      have c2 := key.out w1 hg2 2 _ rfl
      have c3 := key.out w1 hg2 3 _ rfl
      have HN2 := Lib.hid hn2
      have HG2 := Lib.hid (grown_trans HGA.out hg2)
      clear hn2 hg2 HC key hlt
      go_wp2
      go_ret
      exact tpostk HX HK HQ.out.symm HN2.out HG2.out
end Go.Proofs.YtmkenekngaihhaaGreatDoor
