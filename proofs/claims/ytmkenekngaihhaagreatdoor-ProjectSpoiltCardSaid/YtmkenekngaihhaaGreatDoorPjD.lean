/-
  Layer 49 (project): the errors of targets and of a project: the chapter's.
-/
import Derived.Test.YtmkenekngaihhaaGreatDoorPjC
namespace Go.Proofs.YtmkenekngaihhaaGreatDoor
open Go.RowKit
set_option linter.unusedVariables false
set_option linter.unusedSimpArgs false
attribute [local go_sem] B_data B_size

theorem targetsT_long {k : Pk} {l : List Tg} (h : 8 < l.length) : targetsT k l = 3 := by unfold targetsT; rw [if_pos h]
theorem targetsT_nil {k : Pk} : targetsT k [] = 8 := rfl
theorem targetsT_ok {k : Pk} {l : List Tg} (h : ¬ 8 < l.length) (h0 : l ≠ []) : targetsT k l = targetsE k [] l := by unfold targetsT; rw [if_neg h, if_neg h0]
theorem take_nms {ts : List Tg} {j : Nat} {p : Tg} (h : ts[j]? = some p) : (ts.take (j + 1)).map (·.nm) = (ts.take j).map (·.nm) ++ [p.nm] := by
  rw [take_one h, List.map_append]; rfl
set_option maxHeartbeats 4000000 in
set_option maxRecDepth 100000 in
theorem rtargets_any (A : Option Addr) (n c : Nat) (ts : List Tg) (w : World) (hx : Rd w w.heap.size 4 A n (ts.flatMap tgF)) (hn : n ≤ 1000000000) (hsz : ∀ p ∈ ts, p.nm.length ≤ 1000000 ∧ p.kd.length ≤ 1000000) :
    Calls Tryz.prog 28 #[.slice A n c] w (IPost (targetsT pkG ts) w) := by
  have HL := Lib.hid (hx.count tgF 4 tgF_len (by omega))
  have HS := Lib.hid hsz
  clear hsz
  by_cases h32 : 8 < n
  · have HX : Hid (targetsT pkG ts = 3) := targetsT_long (by rw [HL.out]; exact h32)
    go_enter Tryz.func28, Tryz.ntmps28
    go_wp2
    go_ret
    exact ⟨ret_int HX.out.symm, Below.refl _ _⟩
  by_cases h00 : n = 0
  · have HX : Hid (targetsT pkG ts = 8) := by
      have : ts = [] := List.eq_nil_of_length_eq_zero (by rw [HL.out]; exact h00)
      rw [this]; exact targetsT_nil
    subst h00
    go_enter Tryz.func28, Tryz.ntmps28
    go_wp2
    go_ret
    exact ⟨ret_int HX.out.symm, Below.refl _ _⟩
  have HV : Hid (targetsT pkG ts = targetsE pkG [] ts) := targetsT_ok (by rw [HL.out]; exact h32) (by intro e; have := HL.out; rw [e] at this; exact h00 this.symm)
  have q0 : ((n : Int) == 0) = false := by simpa using h00
  clear h00
  go_enter Tryz.func28, Tryz.ntmps28
  go_wp2
  clear q0
  go_loopw [3] (fun i wr => ∃ (j : Nat), j ≤ n ∧ i = .int .i64 j ∧ Below w.heap.size w wr ∧ Hid (targetsT pkG ts = targetsE pkG ((ts.take j).map (·.nm)) (ts.drop j))) (fun i _ => n - (intOf i).toNat)
  case atStart => exact ⟨0, Nat.zero_le _, rfl, Below.refl _ _, HV⟩
  case round =>
    obtain ⟨j, hj, rfl, hbw, hr⟩ := hrel
    have hbs := hbw.size
    by_cases hlt : j < n
    · obtain ⟨p, hp⟩ := get_of (l := ts) (k := j) (by rw [HL.out]; exact hlt)
      obtain ⟨b, o, rfl, hbm, hcell⟩ := (hx.below hbw).elem tgF 4 tgF_len (by omega) hp
      have HD := Lib.hid (drop_get hp)
      have HTK := Lib.hid (take_nms hp)
      have hpl := HS.out p (List.mem_of_getElem? hp)
      obtain ⟨hp1, hp2⟩ := hpl
      have c0 : wr.cell? ⟨b, o + j * 4, none⟩ = some (.string (B p.nm)) := hcell 0 _ rfl
      have HE : Hid (targetsT pkG ts = if (nm3 p.nm && decide (58 ∉ p.nm)) = false then 6 else if p.nm ∈ (ts.take j).map (·.nm) then 7 else if kindE p ≠ 0 then kindE p else targetsE pkG ((ts.take (j + 1)).map (·.nm)) (ts.drop (j + 1))) := by rw [hr.out, HD.out, targetsE, HTK.out]; rfl
      clear hcell hr HD
      go_wp2_with fail
      refine (r3name_any (B p.nm) _ (by rw [B_size]; omega)).mono ?_
      rintro e w1 ⟨rfl, rfl⟩
      rw [B_data]
      cases h1 : nm3 p.nm
      · have HX : Hid (targetsT pkG ts = 6) := by rw [HE.out, h1]; simp [Hid]
        clear HE
        go_wp2
        go_ret
        exact ⟨ret_int HX.out.symm, hbw⟩
      · go_wp2_with fail
        refine (rcolon_any (B p.nm) _ (by rw [B_size]; omega)).mono ?_
        rintro e w1 ⟨rfl, rfl⟩
        rw [B_data]
        by_cases h2 : 58 ∈ p.nm
        · have HX : Hid (targetsT pkG ts = 6) := by rw [HE.out, if_pos (by simp [h2])]; rfl
          have hd : decide (58 ∈ p.nm) = true := by simpa using h2
          rw [hd]
          clear HE h1 h2 hd
          go_wp2
          go_ret
          exact ⟨ret_int HX.out.symm, hbw⟩
        · have hd : decide (58 ∈ p.nm) = false := by simpa using h2
          have HE2 : Hid (targetsT pkG ts = if p.nm ∈ (ts.take j).map (·.nm) then 7 else if kindE p ≠ 0 then kindE p else targetsE pkG ((ts.take (j + 1)).map (·.nm)) (ts.drop (j + 1))) := by rw [HE.out, if_neg (by simp [h1, h2])]; rfl
          rw [hd]
          clear HE h1 h2 hd
          go_wp2
          rename World => wo
          go_loopw [4] (fun i wr => ∃ (t : Nat), t ≤ j ∧ i = .int .i64 t ∧ Below w.heap.size w wr ∧ wr.cell? ⟨b, o + j * 4, none⟩ = some (.string (B p.nm)) ∧ Hid (p.nm ∉ (ts.take t).map (·.nm))) (fun i _ => j - (intOf i).toNat)
          case atStart => exact ⟨0, Nat.zero_le _, rfl, hbw, c0, by simp [Hid]⟩
          case round =>
            obtain ⟨t, ht, rfl, hbt, d0, hno⟩ := hrel
            by_cases htj : t < j
            · obtain ⟨q, hq⟩ := get_of (l := ts) (k := t) (by rw [HL.out]; omega)
              obtain ⟨b2, o2, hbb, hbm2, hcell⟩ := (hx.below hbt).elem tgF 4 tgF_len (by omega) hq
              have HTK2 := Lib.hid (take_nms hq)
              have HIN : Hid (q.nm ∈ (ts.take j).map (·.nm)) := by
                refine List.mem_map.2 ⟨q, ?_, rfl⟩
                have : (ts.take j)[t]? = some q := by rw [List.getElem?_take, if_pos htj]; exact hq
                exact List.mem_of_getElem? this
              obtain ⟨rfl, rfl⟩ : b = b2 ∧ o = o2 := by injection hbb with h; injection h with h1 h2 _; exact ⟨h1, h2⟩
              have e0 : wr.cell? ⟨b, o + t * 4, none⟩ = some (.string (B q.nm)) := hcell 0 _ rfl
              clear hcell hbb
              have i1 : (0 : Int) ≤ (t : Int) := by omega
              have i2 : (t : Int) < (n : Int) := by omega
              have i3 : (0 : Int) ≤ (j : Int) := by omega
              have i4 : (j : Int) < (n : Int) := by omega
              by_cases hkk : q.nm = p.nm
              · have hne : (q.nm == p.nm) = true := by simpa using hkk
                have HX : Hid (targetsT pkG ts = 7) := by rw [HE2.out, if_pos (by rw [← hkk]; exact HIN.out)]; rfl
                clear HE2 hkk
                go_wp2
                go_quiet (fail)
                go_wp2
                go_ret
                exact ⟨ret_int HX.out.symm, below_drewN hbt _⟩
              · have hne : (q.nm == p.nm) = false := by simpa using hkk
                have HNO : Hid (p.nm ∉ (ts.take (t + 1)).map (·.nm)) := by
                  rw [HTK2.out]
                  intro h
                  rcases List.mem_append.1 h with h | h
                  · exact hno.out h
                  · simp at h; exact hkk h.symm
                clear hkk
                go_wp2
                go_quiet (fail)
                go_wp2
                go_roundw
                case rel => exact ⟨t + 1, by omega, by go_num, below_drewN hbt _, d0, HNO⟩
                case measure => simp [intOf]; omega
            · obtain rfl : t = j := by omega
              have HE3 : Hid (targetsT pkG ts = if kindE p ≠ 0 then kindE p else targetsE pkG ((ts.take (t + 1)).map (·.nm)) (ts.drop (t + 1))) := by rw [HE2.out, if_neg hno.out]; rfl
              obtain ⟨b2, o2, hbb, hbm2, hcell⟩ := (hx.below hbt).elem tgF 4 tgF_len (by omega) hp
              obtain ⟨rfl, rfl⟩ : b = b2 ∧ o = o2 := by injection hbb with h; injection h with h1 h2 _; exact ⟨h1, h2⟩
              have d1 : wr.cell? ⟨b, o + t * 4 + 1, none⟩ = some (.string (B p.kd)) := hcell 1 _ rfl
              have d2 : wr.cell? ⟨b, o + t * 4 + 2, none⟩ = some (.int .i64 p.pg) := hcell 2 _ rfl
              have d3 : wr.cell? ⟨b, o + t * 4 + 3, none⟩ = some (.int .i64 p.wd) := hcell 3 _ rfl
              clear HE2 hcell hbb
              have hsz := hbt.size
              go_wp2_with fail
              refine (rtarget_any p _).mono ?_
              rintro e w2 ⟨rfl, hb2⟩
              have hb3 := hbt.trans (hb2.mono hsz)
              by_cases hk : kindE p = 0
              · have HX : Hid (targetsT pkG ts = targetsE pkG ((ts.take (t + 1)).map (·.nm)) (ts.drop (t + 1))) := by rw [HE3.out, if_neg (by simpa using hk)]; rfl
                rw [hk]
                clear HE3 hk d0 d1 d2 d3
                go_wp2
                go_roundw
                case rel => exact ⟨t + 1, by omega, by go_num, hb3, HX⟩
                case measure => simp [intOf]; omega
              · have HX : Hid (targetsT pkG ts = kindE p) := by rw [HE3.out, if_pos hk]; rfl
                have z1 : (kindE p != 0) = true := by simpa using hk
                clear HE3 hk d0 d1 d2 d3
                go_wp2
                go_ret
                exact ⟨ret_int HX.out.symm, hb3⟩
    · have HX : Hid (targetsT pkG ts = 0) := by rw [hr.out, List.drop_of_length_le (by rw [HL.out]; omega)]; rfl
      go_wp2
      go_ret
      exact ⟨ret_int HX.out.symm, hbw⟩

/-- the project p lies in memory: its cells are c, its slices lie below M -/
structure PC where
  A : Option Addr
  na : Nat
  ca : Nat
  F : Option Addr
  nf : Nat
  cf : Nat
  T : Option Addr
  nt : Nat
  ct : Nat
def pjC (p : Pj) (c : PC) : Array Value := #[.string (B p.ti), .string (B p.la), .string (B p.ma), .string (B p.so), .string (B p.st), .slice c.A c.na c.ca, .slice c.F c.nf c.cf, .slice c.T c.nt c.ct]
structure PjAt (w : World) (M : Nat) (p : Pj) (c : PC) : Prop where
  vs : Rd w M 2 c.A c.na (p.vs.flatMap prF)
  fs : Rd w M 1 c.F c.nf (strs p.fs)
  ts : Rd w M 4 c.T c.nt (p.ts.flatMap tgF)
theorem PjAt.below {w w' : World} {M : Nat} {p : Pj} {c : PC} (h : PjAt w M p c) (hb : Below M w w') : PjAt w' M p c := ⟨h.vs.below hb, h.fs.below hb, h.ts.below hb⟩
theorem PjAt.more {w : World} {M M' : Nat} {p : Pj} {c : PC} (h : PjAt w M p c) (hM : M ≤ M') : PjAt w M' p c := ⟨h.vs.more hM, h.fs.more hM, h.ts.more hM⟩
theorem PjAt.step {w w' : World} {p : Pj} {c : PC} (h : PjAt w w.heap.size p c) (hb : Below w.heap.size w w') : PjAt w' w'.heap.size p c := (h.below hb).more hb.size
/-- strings and lists are short -/
structure PjSm (p : Pj) : Prop where
  ti : p.ti.length ≤ 1000000
  la : p.la.length ≤ 1000000
  ma : p.ma.length ≤ 1000000
  so : p.so.length ≤ 1000000
  st : p.st.length ≤ 1000000
  vs : ∀ v ∈ p.vs, v.1.length ≤ 1000000 ∧ v.2.length ≤ 1000000
  fs : ∀ v ∈ p.fs, v.length ≤ 1000000
  ts : ∀ v ∈ p.ts, v.nm.length ≤ 1000000 ∧ v.kd.length ≤ 1000000
  nv : p.vs.length ≤ 1000000
  nf : p.fs.length ≤ 1000000
  nt : p.ts.length ≤ 1000000
end Go.Proofs.YtmkenekngaihhaaGreatDoor
