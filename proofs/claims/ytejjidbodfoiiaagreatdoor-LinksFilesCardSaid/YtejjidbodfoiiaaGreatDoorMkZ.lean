/-
  Layer 33 (markup): the reader of the program: unescape.
-/
import Derived.Test.YtejjidbodfoiiaaGreatDoorMkY
namespace Go.Proofs.YtejjidbodfoiiaaGreatDoor
open Go.RowKit
set_option linter.unusedVariables false
set_option linter.unusedSimpArgs false
attribute [local go_sem] B_data B_size

theorem idx_mem (c : UInt8) (l : List UInt8) : (0 ≤ idxP (fun b => b != c) l ↔ c ∈ l) ∧ -1 ≤ idxP (fun b => b != c) l := by
  unfold idxP
  constructor
  · by_cases h : l.dropWhile (fun b => b != c) = []
    · rw [if_pos h]
      constructor
      · intro h; omega
      · intro hm
        exfalso
        have hall : ∀ b ∈ l, (fun b => b != c) b = true := by
          intro b hb
          have := @List.takeWhile_append_dropWhile _ (fun b => b != c) l
          rw [h, List.append_nil] at this
          rw [← this] at hb
          exact span_all _ l b hb
        have := hall c hm
        simp at this
    · rw [if_neg h]
      constructor
      · intro _
        cases hd : l.dropWhile (fun b => b != c) with
        | nil => exact absurd hd h
        | cons d r =>
          have h1 := span_head (fun b => b != c) l d (by rw [hd]; rfl)
          have h2 : d = c := by simpa using h1
          have := @List.takeWhile_append_dropWhile _ (fun b => b != c) l
          rw [hd, h2] at this
          rw [← this]
          simp
      · intro _; omega
  · split <;> omega
theorem ext_toList (t : ByteArray) (n : Nat) : (t.extract n t.size).toList = t.toList.drop n := by rw [B_drop, B_data]
def UPost (r : Except Int (List UInt8)) (w : World) (e : Ending) (w' : World) : Prop := Below w.heap.size w w' ∧ match r with
  | .error x => e = .returned (.tuple #[.string (B []), .int .i64 x])
  | .ok u => e = .returned (.tuple #[.string (B u), .int .i64 0])
theorem repl_len (l : List UInt8) (h : (repl l).1 ≠ 0) : (repl l).1 ≤ l.length ∧ 1 ≤ (repl l).1 := by
  obtain ⟨r, e1, e2⟩ := repl_some h
  have := congrArg List.length e1
  rw [List.length_append] at this
  omega
set_option maxHeartbeats 4000000 in
set_option maxRecDepth 100000 in
theorem unescape_any (l no : List UInt8) (w : World) (hl : l.length ≤ 1000000000) (hno : ∀ c ∈ l, (c = 60 ∨ c = 62 ∨ c = 34) ↔ c ∈ no) :
    Calls Tryz.prog 135 #[.string (B l), .string (B no)] w (UPost (pText l) w) := by
  have HNO := Lib.hid hno
  clear hno
  have HT : Hid (pText l = if validB l = false then .error 17 else match unesc l with | none => .error 5 | some u => .ok u) := rfl
  have CI := Lib.hid (fun (c : UInt8) V => ibyte_any no c.toNat c.toNat_lt V)
  cases hv : validB l
  · have HX : Hid (pText l = .error 17) := by rw [HT.out, if_pos hv]; rfl
    go_enter Tryz.func135, Tryz.ntmps135
    go_wp2_with fail
    refine (valid_any (B l) _ (by rw [B_size]; omega)).mono ?_
    rintro e w1 ⟨rfl, m, rfl⟩
    rw [B_data, hv]
    go_wp2
    go_ret2
    unfold UPost
    rw [HX.out]
    exact ⟨below_of_drewN _ _ _, rfl⟩
  have HT2 : Hid (pText l = match unesc l with | none => .error 5 | some u => .ok u) := by rw [HT.out, if_neg (by simp [hv])]; rfl
  clear HT
  go_enter Tryz.func135, Tryz.ntmps135
  go_wp2_with fail
  refine (valid_any (B l) _ (by rw [B_size]; omega)).mono ?_
  rintro e w1 ⟨rfl, m, hw1⟩
  rw [B_data, hv]
  have hb1 : Below w.heap.size w w1 := by rw [hw1]; exact below_of_drewN _ _ _
  have hd1 : Bd (w1.alloc (.cells #[.pointer none, .slice none 0 0] 110)) w1.heap.size [] := Bd.new w1
  have hb2 := hb1.alloc hb1.size (.cells #[.pointer none, .slice none 0 0] 110)
  have hbs := hb1.size
  clear hw1 hv
  go_wp2
  generalize w1.alloc (.cells #[.pointer none, .slice none 0 0] 110) = W at *
  generalize w1.heap.size = bb at *
  go_loopw [0] (fun v wr => ∃ (t : ByteArray) (f : Nat) (u : List UInt8), v = .string t ∧ t.size ≤ f ∧ u.length + t.size ≤ l.length ∧ Bd wr bb u ∧ Below w.heap.size w wr ∧ Hid (unesc l = (unescF f t.toList).map (u ++ ·)) ∧ Hid (∀ c ∈ t.toList, (c = 60 ∨ c = 62 ∨ c = 34) ↔ c ∈ no)) (fun v _ => match v with | .string t => t.size | _ => 0)
  case atStart => exact ⟨B l, l.length, [], rfl, by rw [B_size]; omega, by rw [B_size]; simp, hd1, hb2, by rw [B_data]; unfold unesc Hid; simp, by rw [B_data]; exact HNO⟩
  case round =>
    obtain ⟨t, f, u, rfl, hf, hul, hbd, hbw, hr, hn⟩ := hrel
    have hbws := hbw.size
    by_cases h0 : t.size = 0
    · have ht : t.toList = [] := List.eq_nil_of_length_eq_zero (by rw [len_toList]; exact h0)
      have HX : Hid (pText l = .ok u) := by
        have e : unesc l = some u := by
          rw [hr.out, ht]
          cases f <;> simp [unescF]
        rw [HT2.out, e]; rfl
      clear hr hn HT2
      go_wp2_with fail
      refine (string_any bb u _ hbd).mono ?_
      rintro e w3 ⟨rfl, hd3, hk3⟩
      have hb3 := hbw.trans (hk3.1.mono hbs)
      go_wp2
      go_ret2
      unfold UPost
      rw [HX.out]
      exact ⟨hb3, rfl⟩
    have hp : 0 < t.size := by omega
    have hne1 : (t.toList == []) = false := by
      rw [beq_eq_false_iff_ne]; intro e; have := len_toList t; rw [e] at this; simp at this; omega
    have hne2 : t.toList.isEmpty = false := isEmpty_of t hp
    have hne3 : (t.toList != []) = true := by rw [bne, hne1]; rfl
    have HD := Lib.hid (show t.toList = t[0] :: t.toList.drop 1 from by have := drop_byte t 0 hp; rw [List.drop_zero] at this; exact this)
    obtain ⟨f, rfl⟩ : ∃ g, f = g + 1 := ⟨f - 1, by omega⟩
    have HU : Hid (unescF (f + 1) t.toList = if t[0] = 60 ∨ t[0] = 62 ∨ t[0] = 34 then none else if t[0] = 38 then (if (repl t.toList).1 = 0 then none else (unescF f (t.toList.drop (repl t.toList).1)).map ((repl t.toList).2 :: ·)) else (unescF f (t.toList.drop 1)).map (t[0] :: ·)) := by
      have e := HD.out
      unfold Hid
      conv => lhs; rw [e, unescF]
      rw [← e]
    have hmem := hn.out t[0] (by rw [HD.out]; exact List.mem_cons_self ..)
    have hix := idx_mem t[0] no
    have CI0 := Lib.hid (fun V => CI.out t[0] V)
    rw [show UInt8.ofNat t[0].toNat = t[0] from by simp] at CI0
    have HMD : Hid (∀ n, ∀ c ∈ t.toList.drop n, (c = 60 ∨ c = 62 ∨ c = 34) ↔ c ∈ no) := fun n c hc => hn.out c (List.mem_of_mem_drop hc)
    generalize idxP (fun b => b != t[0]) no = ix at *
    obtain ⟨hix1, hix2⟩ := hix
    by_cases hb : t[0] = 60 ∨ t[0] = 62 ∨ t[0] = 34
    · have h0i : 0 ≤ ix := hix1.2 (hmem.1 hb)
      have HX : Hid (pText l = .error 5) := by
        have e : unesc l = none := by rw [hr.out, HU.out, if_pos hb]; rfl
        rw [HT2.out, e]; rfl
      clear hr hn HT2 HU hmem hix1 hb HMD
      go_wp2_with fail
      refine (CI0.out _).mono ?_
      rintro e w3 ⟨rfl, rfl⟩
      go_wp2
      go_ret2
      unfold UPost
      rw [HX.out]
      exact ⟨hbw, rfl⟩
    have h0i : ix < 0 := by
      have : ¬ 0 ≤ ix := fun h => hb (hmem.2 (hix1.1 h))
      omega
    have HU2 : Hid (unescF (f + 1) t.toList = if t[0] = 38 then (if (repl t.toList).1 = 0 then none else (unescF f (t.toList.drop (repl t.toList).1)).map ((repl t.toList).2 :: ·)) else (unescF f (t.toList.drop 1)).map (t[0] :: ·)) := by rw [HU.out, if_neg hb]; rfl
    clear HU hmem hix1 hb hn
    by_cases h38 : t[0] = 38
    · have d38 : ((t[0].toNat : Int) == 38) = true := by rw [h38]; rfl
      have HU3 : Hid (unescF (f + 1) t.toList = if (repl t.toList).1 = 0 then none else (unescF f (t.toList.drop (repl t.toList).1)).map ((repl t.toList).2 :: ·)) := by rw [HU2.out, if_pos h38]; rfl
      clear HU2 h38
      have HRL := Lib.hid (repl_len t.toList)
      have CR := Lib.hid (fun V => replacement_any t.toList V (by rw [len_toList]; omega))
      rw [B_self] at CR
      generalize (repl t.toList).1 = rn at *
      generalize (repl t.toList).2 = rc at *
      by_cases hr0 : rn = 0
      · have HX : Hid (pText l = .error 5) := by
          have e : unesc l = none := by rw [hr.out, HU3.out, if_pos hr0]; rfl
          rw [HT2.out, e]; rfl
        subst hr0
        clear hr HT2 HU3
        go_wp2_with fail
        refine (CI0.out _).mono ?_
        rintro e w3 ⟨rfl, rfl⟩
        go_wp2
        go_quiet (fail)
        go_wp2_with fail
        refine (CR.out _).mono ?_
        rintro e w3 ⟨rfl, rfl⟩
        go_wp2
        go_ret2
        unfold UPost
        rw [HX.out]
        exact ⟨below_drewN hbw _, rfl⟩
      · have hrl := HRL.out hr0
        rw [len_toList] at hrl
        have HF : Hid (unesc l = (unescF f (t.extract rn t.size).toList).map ((u ++ [rc]) ++ ·)) := by
          rw [hr.out, HU3.out, if_neg hr0, ext_toList, Option.map_map]
          unfold Hid
          congr 1
          funext x
          simp
        have HM2 : Hid (∀ c ∈ (t.extract rn t.size).toList, (c = 60 ∨ c = 62 ∨ c = 34) ↔ c ∈ no) := by rw [ext_toList]; exact HMD.out rn
        have dr0 : ((rn : Int) == 0) = false := beq_eq_false_iff_ne.2 (by omega)
        have hsz : (t.extract rn t.size).size = t.size - rn := by rw [ByteArray.size_extract]; omega
        have HSZ := Lib.hid hsz
        obtain ⟨hr1, hr2⟩ := hrl
        have i1 : (0 : Int) ≤ (rn : Int) := by omega
        have i2 : (rn : Int) ≤ (t.size : Int) := by omega
        clear hr HT2 HU3 hsz HRL
        go_wp2_with fail
        refine (CI0.out _).mono ?_
        rintro e w3 ⟨rfl, rfl⟩
        go_wp2
        go_quiet (fail)
        go_wp2_with fail
        refine (CR.out _).mono ?_
        rintro e w3 ⟨rfl, rfl⟩
        go_wp2_with fail
        refine (writeByte_any bb u rc _ (hbd.drewN _) (by omega)).mono ?_
        rintro e w3 ⟨rfl, hd3, hk3⟩
        have hb3 := (below_drewN hbw _).trans (hk3.1.mono hbs)
        go_wp2
        go_roundw
        case rel => exact ⟨_, f, u ++ [rc], rfl, by rw [HSZ.out]; omega, by rw [HSZ.out]; simp; omega, hd3, hb3, HF, HM2⟩
        case measure => show (t.extract rn t.size).size < t.size; rw [HSZ.out]; omega
    · have d38 : ((t[0].toNat : Int) == 38) = false := by
        rw [beq_eq_false_iff_ne]; intro e; exact h38 (UInt8.toNat_inj.1 (by have : (38 : UInt8).toNat = 38 := rfl; omega))
      have HF : Hid (unesc l = (unescF f (t.extract 1 t.size).toList).map ((u ++ [t[0]]) ++ ·)) := by
        rw [hr.out, HU2.out, if_neg h38, ext_toList, Option.map_map]
        unfold Hid
        congr 1
        funext x
        simp
      have HM2 : Hid (∀ c ∈ (t.extract 1 t.size).toList, (c = 60 ∨ c = 62 ∨ c = 34) ↔ c ∈ no) := by rw [ext_toList]; exact HMD.out 1
      have hsz : (t.extract 1 t.size).size = t.size - 1 := by rw [ByteArray.size_extract]; omega
      have HSZ := Lib.hid hsz
      have i2 : (1 : Int) ≤ (t.size : Int) := by omega
      clear hr HT2 HU2 hsz h38
      go_wp2_with fail
      refine (CI0.out _).mono ?_
      rintro e w3 ⟨rfl, rfl⟩
      go_wp2
      go_quiet (fail)
      go_wp2_with fail
      refine (writeByte_any bb u t[0] _ (hbd.drewN _) (by omega)).mono ?_
      rintro e w3 ⟨rfl, hd3, hk3⟩
      have hb3 := (below_drewN hbw _).trans (hk3.1.mono hbs)
      go_wp2
      go_roundw
      case rel => exact ⟨_, f, u ++ [t[0]], rfl, by rw [HSZ.out]; omega, by rw [HSZ.out]; simp; omega, hd3, hb3, HF, HM2⟩
      case measure => show (t.extract 1 t.size).size < t.size; rw [HSZ.out]; omega
end Go.Proofs.YtejjidbodfoiiaaGreatDoor
