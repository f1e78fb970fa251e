/-
  Layer 40 (page): the program's early.
-/
import Derived.Test.YtpgpkgpiengmkaaDoorPgF
namespace Go.Proofs.YtpgpkgpiengmkaaDoor
open Go.RowKit
set_option linter.unusedVariables false
set_option linter.unusedSimpArgs false
attribute [local go_sem] B_data B_size

def nints (l : List Nat) : List Int := l.map fun i : Nat => (i : Int)
theorem nints_len (l : List Nat) : (nints l).length = l.length := by simp [nints]
theorem nints_snoc (l : List Nat) (i : Nat) : nints l ++ [(i : Int)] = nints (l ++ [i]) := by simp [nints]
def pbOf (l : List Bx) (H : Int) : Pb := ⟨l.length, fun i => (l[i]?.map (·.h)).getD 0, fun i => (l[i]?.map (·.fl)).getD false, fun i => (l[i]?.map (·.kp)).getD false, H⟩
section
variable {l : List Bx} {H : Int} {i : Nat} {p : Bx}
theorem pb_h (h : l[i]? = some p) : (pbOf l H).h i = p.h := by simp [pbOf, h]
theorem pb_fl (h : l[i]? = some p) : (pbOf l H).fl i = p.fl := by simp [pbOf, h]
theorem pb_kp (h : l[i]? = some p) : (pbOf l H).kp i = p.kp := by simp [pbOf, h]
end
/-- boxes' heights are in their bounds -/
def HtOk (l : List Bx) : Prop := ∀ b ∈ l, 1 ≤ b.h ∧ b.h ≤ 1048576
def sliceLen : Value → Nat
  | .slice _ n _ => n
  | _ => 0
theorem WRow.cons {W : World} {base : Nat} {v : Value} {x : Int} {xs : List Int} (h : WRow W base v (x :: xs)) :
    ∃ g off cap, v = .slice (some ⟨g, off, none⟩) (xs.length + 1) cap ∧ W.cell? ⟨g, off, none⟩ = some (.int .i64 x) ∧ g < W.heap.size ∧ xs.length + 1 ≤ cap := by
  rcases h with ⟨_, h⟩ | ⟨g, off, cap, cur, rfl, hb, hg, hn, hc, hs, hx⟩
  · cases h
  · refine ⟨g, off, cap, rfl, ?_, (Array.getElem?_eq_some_iff.1 hg).1, hn⟩
    rw [cell_of_row W g off cur _ _ hg, ← Array.getElem?_toList]
    have h0 : (ints (x :: xs))[0]? = some (.int .i64 x) := rfl
    rw [← hx, List.getElem?_take, if_pos (by simp), List.getElem?_drop] at h0
    simpa using h0
theorem WRow.tail {W : World} {base g off m cap : Nat} {x : Int} {xs : List Int} (h : WRow W base (.slice (some ⟨g, off, none⟩) m cap) (x :: xs)) : WRow W base (.slice (if cap = 1 then some ⟨g, off, none⟩ else some ⟨g, off + 1, none⟩) xs.length (cap - 1)) xs := by
  rcases h with ⟨h, _⟩ | ⟨g', off', cap', cur, e, hb, hg, hn, hc, hs, hx⟩
  · cases h
  · injection e with e1 e2 e3
    injection e1 with e1
    injection e1 with e1 e4 _
    subst e1 e4 e3
    have hn : xs.length + 1 ≤ cap := hn
    by_cases h1 : cap = 1
    · rw [if_pos h1]
      have : xs = [] := List.eq_nil_of_length_eq_zero (by omega)
      subst this
      exact .inr ⟨g, off, cap - 1, cur, rfl, hb, hg, by simp, by omega, by omega, by simp [ints]⟩
    · rw [if_neg h1]
      refine .inr ⟨g, off + 1, cap - 1, cur, rfl, hb, hg, by omega, by omega, by omega, ?_⟩
      have hx2 := congrArg (List.drop 1) hx
      rw [List.drop_take, List.drop_drop] at hx2
      simpa [ints] using hx2
/-- what early leaves -/
structure EPost (q : Nat) (vB vL vW : Value) (r : List Nat × Int × List Nat) (base : Nat) (w : World) (vW' : Value) (w' : World) : Prop where
  fb : ∃ vB', FB q vB' r.2.1 vL w' ∧ WRow w' base vB' (nints r.1) ∧ Nxt w vB vB'
  wt : WRow w' base vW' (nints r.2.2)
  k : Kpt (fun k => k = q ∨ vB.ownBlock = some k) w w'
  own : vW'.ownBlock = vW.ownBlock
/-- while it goes on -/
structure ES (n : Nat) (q : Nat) (vB vL vW : Value) (b : Pb) (r : List Nat × Int × List Nat) (base : Nat) (w : World) (vW' : Value) (w' : World) (bx wt : List Nat) (ht : Int) (vB' : Value) : Prop where
  fb : FB q vB' ht vL w'
  rb : WRow w' base vB' (nints bx)
  nx : Nxt w vB vB'
  rw : WRow w' base vW' (nints wt)
  k : Kpt (fun k => k = q ∨ vB.ownBlock = some k) w w'
  own : vW'.ownBlock = vW.ownBlock
  r : r = earlyS b bx ht wt
  len : bx.length + wt.length ≤ 1000
  h0 : 0 ≤ ht
  h1 : ht ≤ (bx.length : Int) * 1048576
  lt : ∀ i ∈ wt, i < n
theorem early_cons {b : Pb} {bx w : List Nat} {ht : Int} {i : Nat} : earlyS b bx ht (i :: w) = if ht + b.h i ≤ b.H then earlyS b (bx ++ [i]) (ht + b.h i) w else (bx, ht, i :: w) := rfl
set_option maxHeartbeats 4000000 in
set_option maxRecDepth 100000 in
theorem early_any (A : Option Addr) (n c M : Nat) (l : List Bx) (H : Int) (q : Nat) (vB vL vW : Value) (ht : Int) (bx wt : List Nat) (base : Nat) (w : World) (hx : BxAt w M A n l) (hh : HtOk l)
    (hM : M ≤ base) (hMq : M ≤ q) (hbw : base ≤ w.heap.size) (hd : ∀ k, vB.ownBlock = some k → vW.ownBlock ≠ some k) (hS : ES n q vB vL vW (pbOf l H) (earlyS (pbOf l H) bx ht wt) base w vW w bx wt ht vB) :
    Calls Tryd.prog 23 #[.pointer (some ⟨q, 0, none⟩), .slice A n c, vW, .int .i64 H] w fun e w' => ∃ vW', e = .returned vW' ∧ EPost q vB vL vW (earlyS (pbOf l H) bx ht wt) base w vW' w' := by
  have HL := Lib.hid hx.len
  have hwB : ∀ k, vB.ownBlock = some k → M ≤ k := fun k hk => by have := (hS.rb.lt k hk).1; omega
  have hql := hS.fb.lt
  have hneW : vW.ownBlock ≠ some q := hS.rw.ne hS.fb ne_int
  obtain ⟨AW, cW, hvW, _⟩ := hS.rw.form
  have hWl : ∀ k, vW.ownBlock = some k → k < w.heap.size := fun k hk => (hS.rw.lt k hk).2
  generalize earlyS (pbOf l H) bx ht wt = r at *
  have HS := Lib.hid hS
  clear hS
  subst hvW
  generalize hvW : Value.slice AW (nints wt).length cW = vW at *
  go_enter Tryd.func23, Tryd.ntmps23
  go_wp2
  go_loopw [2] (fun v wr => ∃ (bx wt : List Nat) (ht : Int) (vB' : Value), Hid (ES n q vB vL vW (pbOf l H) r base w v wr bx wt ht vB')) (fun v _ => sliceLen v)
  case atStart => exact ⟨bx, wt, ht, vB, HS⟩
  case round =>
    clear HS hvW
    obtain ⟨bx, wt, ht, vB1, HS⟩ := hrel
    have hwt := HS.out.rw
    have hkw := HS.out.k
    have hbw1 : Below M w wr := hkw.below (by omega) (fun k hk => by rcases hk with rfl | hk; exact hMq; exact hwB k hk)
    have hsz := hkw.size
    cases wt with
    | nil =>
      obtain ⟨A2, c2, rfl, _⟩ := hwt.form
      have HP : Hid (EPost q vB vL vW r base w (.slice A2 (nints []).length c2) wr) := by
        have h := HS.out
        refine ⟨⟨vB1, ?_, ?_, h.nx⟩, ?_, h.k, h.own⟩
        · rw [h.r]; exact h.fb
        · rw [h.r]; exact h.rb
        · rw [h.r]; exact h.rw
      clear HS hwt hkw
      go_wp2
      go_ret
      exact ⟨_, rfl, HP.out⟩
    | cons i wt =>
      obtain ⟨g, off, cap, rfl, e0, hgl, hcap⟩ := (show WRow wr base _ ((i : Int) :: nints wt) from hwt).cons
      rw [nints_len] at hcap
      simp only [nints_len] at *
      have hin := HS.out.lt i (List.mem_cons_self ..)
      obtain ⟨p, hp⟩ := get_of (l := l) (k := i) (by rw [HL.out]; exact hin)
      have hph := hh p (List.mem_of_getElem? hp)
      obtain ⟨gb, ob, hA, hgb, c0, c1, c2, c3, c4, c5⟩ := (hx.below hbw1).at6 hp
      subst hA
      have i1 : (0 : Int) ≤ (i : Int) := by omega
      have i2 : (i : Int) < (n : Int) := by omega
      have i3 : (0 : Int) < ((wt.length + 1 : Nat) : Int) := by omega
      have hlen := HS.out.len
      have hht0 := HS.out.h0
      have hht1 := HS.out.h1
      simp only [List.length_cons] at hlen
      have HR : Hid (r = if ht + p.h ≤ H then earlyS (pbOf l H) (bx ++ [i]) (ht + p.h) wt else (bx, ht, i :: wt)) := by
        rw [HS.out.r, early_cons, pb_h hp]; rfl
      have hbx1 : (bx.length : Int) ≤ 1000 := by omega
      go_wp2_with fail
      refine (fits_any q vB1 vL ht H p _ HS.out.fb hht0 (by omega) (by omega) hph.2).mono ?_
      rintro e w2 ⟨rfl, hb2⟩
      have hfb2 := HS.out.fb.step hb2
      have hrb2 := HS.out.rb.step hb2
      have hrw2 := hwt.step hb2
      have hkw2 := hkw.step hb2
      have hsz2 := hb2.size
      by_cases hf : ht + p.h ≤ H
      · have hdt : decide (ht + p.h ≤ H) = true := by simpa using hf
        rw [hdt]
        have HR2 : Hid (r = earlyS (pbOf l H) (bx ++ [i]) (ht + p.h) wt) := by rw [HR.out, if_pos hf]; rfl
        have hx2 : BxAt w2 M (some ⟨gb, ob, none⟩) n l := hx.below (hkw2.below (by omega) (fun k hk => by rcases hk with rfl | hk; exact hMq; exact hwB k hk))
        have e0' : w2.cell? ⟨g, off, none⟩ = some (.int .i64 (i : Int)) := (hb2.cell (p := ⟨g, off, none⟩) hgl).trans e0
        have HX2 := Lib.hid hx2
        have HRW2 := Lib.hid hrw2
        have HRB2 := Lib.hid hrb2
        have HFB2 := Lib.hid hfb2
        have HK2 := Lib.hid hkw2
        have hbas : base ≤ w2.heap.size := by omega
        clear c0 c1 c2 c3 c4 c5 hb2 e0 hrw2 hrb2 hfb2 hx2 hkw2 hkw hwt HR hbw1
        go_wp2_with fail
        refine (place_any _ n c M l i p q vB1 vL ht (nints bx) base w2 HX2.out hp hM hMq hbas HFB2.out HRB2.out (by rw [nints_len]; omega) hht0 (by omega) (by omega) hph.2).mono ?_
        rintro e w3 ⟨rfl, vB2, hfb3, hrb3, hk3, hn3⟩
        have hnx := HS.out.nx
        have hrw3 := HRW2.out.keep hk3 (fun k hk e => by
          have hk' : vW.ownBlock = some k := by rw [← HS.out.own]; exact hk
          rcases e with rfl | e
          · exact hneW hk'
          · exact dj_nxt hd hWl hnx k e hk')
        have ht3 : WRow w3 base (.slice (if cap = 1 then some ⟨g, off, none⟩ else some ⟨g, off + 1, none⟩) wt.length (cap - 1)) (nints wt) := by
          have h := WRow.tail (x := (i : Int)) (xs := nints wt) hrw3
          rwa [nints_len] at h
        have HS3 : Hid (ES n q vB vL vW (pbOf l H) r base w (.slice (if cap = 1 then some ⟨g, off, none⟩ else some ⟨g, off + 1, none⟩) wt.length (cap - 1)) w3 (bx ++ [i]) wt (ht + p.h) vB2) := by
          refine ⟨hfb3, by rw [← nints_snoc]; exact hrb3, hnx.trans (by omega) hn3, ht3, HK2.out.trans2 hk3 (fun k hk e => ?_), ?_, HR2.out, ?_, ?_, ?_, ?_⟩
          · rcases e with e | e
            · exact .inl e
            · exact .inr (hnx.old e hk)
          · rw [← HS.out.own]; by_cases h1 : cap = 1
            · rw [if_pos h1]; rfl
            · rw [if_neg h1]; rfl
          · rw [List.length_append, List.length_singleton]; omega
          · omega
          · rw [List.length_append, List.length_singleton]; omega
          · exact fun j hj => HS.out.lt j (List.mem_cons_of_mem _ hj)
        clear hfb3 hrb3 hk3 hn3 hrw3 ht3 HS HX2 HRW2 HRB2 HFB2 HK2 HR2 e0'
        go_wp2
        go_roundw
        case rel => exact ⟨bx ++ [i], wt, ht + p.h, vB2, HS3⟩
        case measure => simp [sliceLen]
      · have hdf : decide (ht + p.h ≤ H) = false := by simpa using hf
        rw [hdf]
        have HP : Hid (EPost q vB vL vW r base w (.slice (some ⟨g, off, none⟩) (wt.length + 1) cap) w2) := by
          have hr : r = (bx, ht, i :: wt) := by rw [HR.out, if_neg hf]
          subst hr
          exact ⟨⟨vB1, hfb2, hrb2, HS.out.nx⟩, hrw2, hkw2, HS.out.own⟩
        clear HS hwt hkw hfb2 hrb2 hrw2 hkw2 HR
        go_wp2
        go_ret
        exact ⟨_, rfl, HP.out⟩
end Go.Proofs.YtpgpkgpiengmkaaDoor
