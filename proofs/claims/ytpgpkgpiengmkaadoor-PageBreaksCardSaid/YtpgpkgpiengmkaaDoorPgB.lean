/-
  Layer 40 (page): the program's Break.
-/
import Derived.Test.YtpgpkgpiengmkaaDoorPgI
import Derived.Test.YtpgpkgpiengmkaaDoorPgK
namespace Go.Proofs.YtpgpkgpiengmkaaDoor
open Go.RowKit
set_option linter.unusedVariables false
set_option linter.unusedSimpArgs false
attribute [local go_sem] B_data B_size

/-- the error of Break -/
def brkE (l : List Bx) (H : Int) : Int := if chkB [] 0 l ≠ 0 then chkB [] 0 l else if H < 1 then 9 else if l.any (fun b => decide (H < b.h)) then 19 else 0
/-- the pages of boxes -/
def brkP (l : List Bx) (H : Int) : List (List Nat × Int) := if brkE l H = 0 then breakS (pbOf l H) l.length 0 [] else []
def pgD (p : Pg) : List Int × Int := (p.bs, p.ht)
def nat2 (p : List Nat × Int) : List Int × Int := (nints p.1, p.2)
/-- what Break leaves -/
def BrkPost (l : List Bx) (H : Int) (w : World) (e : Ending) (w' : World) : Prop :=
  ∃ A m c ps, e = .returned (.tuple #[.slice A m c, .int .i64 (brkE l H)]) ∧ PgAt w' w'.heap.size A m ps ∧ ps.map pgD = (brkP l H).map nat2 ∧ Below w.heap.size w w'
theorem chk_ht : ∀ (l : List Bx) (s : List (List UInt8)) (q : Int), chkB s q l = 0 → HtOk l := by
  intro l
  induction l with
  | nil => intro s q _ b hb; cases hb
  | cons a r ih =>
    intro s q h
    rw [chkB] at h
    split at h
    · omega
    · split at h
      · omega
      · split at h
        · omega
        · split at h
          · omega
          · have h2 : chkB (s ++ a.an) a.g r = 0 := by
              unfold anK at h
              split at h
              · rename_i h0; exact absurd h h0
              · exact h
            intro b hb
            rcases List.mem_cons.1 hb with rfl | hb
            · omega
            · exact ih _ _ h2 b hb
theorem any_no {l : List Bx} {H : Int} (h : ∀ b ∈ l, b.h ≤ H) : l.any (fun b => decide (H < b.h)) = false := by
  rw [List.any_eq_false]; intro b hb; have := h b hb; simp; omega
theorem any_yes {l : List Bx} {H : Int} {b : Bx} (hb : b ∈ l) (h : H < b.h) : l.any (fun b => decide (H < b.h)) = true := List.any_eq_true.2 ⟨b, hb, by simpa using h⟩
theorem BrkPost.err {l : List Bx} {H r : Int} {w w' : World} (hr : Hid (brkE l H = r)) (h0 : r ≠ 0) (hb : Below w.heap.size w w') : BrkPost l H w (.returned (.tuple #[.slice none 0 0, .int .i64 r])) w' := by
  refine ⟨none, 0, 0, [], by rw [hr.out], ⟨Rd.nil, fun _ h => by cases h⟩, ?_, hb⟩
  unfold brkP; rw [hr.out, if_neg h0]; rfl
theorem pb_in {l : List Bx} {H : Int} {P : Int → Prop} (h : ∀ b ∈ l, P b.h) : ∀ i, i < (pbOf l H).n → P ((pbOf l H).h i) := fun i hi => by
  obtain ⟨p, hp⟩ := get_of (l := l) (k := i) hi
  rw [pb_h hp]; exact h p (List.mem_of_getElem? hp)
theorem Tryd.infoPg : (Tryd.prog.info? 42).map (fun i => (i.zero, i.size, i.bytes)) = some (some (.agg #[.slice none 0 0, .int .i64 0]), 2, 32) := by kernel_rfl
/-- the state of Break's loop -/
structure BS (l : List Bx) (H : Int) (w : World) (p : Nat) (wt dn : List Nat) (ps : List Pg) (m k : Nat) (A : Option Addr) (c : Nat) (wv : Value) (wr : World) : Prop where
  b : Below w.heap.size w wr
  rw : WRow wr w.heap.size wv (nints wt)
  ro : wr.ownsRow w.heap.size 42 2 (.slice A m c) m (ps.flatMap pgF)
  pg : ∀ x ∈ ps, WRow wr w.heap.size (.slice x.A x.nb x.cb) x.bs ∧ ∀ i, wv.ownBlock = some i → (Value.slice x.A x.nb x.cb).ownBlock ≠ some i
  inv : Inv (pbOf l H) dn p wt
  kk : (pbOf l H).n - p + wt.length ≤ k
  r : (breakS (pbOf l H) l.length 0 []).map nat2 = ps.map pgD ++ (breakS (pbOf l H) k p wt).map nat2
  n : m ≤ dn.length
theorem own_keep {R : Nat → Prop} {w w' : World} {base e sz n : Nat} {v : Value} {xs : List Value} (h : w.ownsRow base e sz v n xs) (hk : Kpt R w w') (hd : ∀ k, v.ownBlock = some k → ¬ R k) : w'.ownsRow base e sz v n xs := by
  refine ⟨h.1, ?_⟩
  rcases h.2 with h | ⟨g, cap, cur, rfl, hb, hg, r⟩
  · exact .inl h
  · exact .inr ⟨g, cap, cur, rfl, hb, hk.at hg (hd g rfl), r⟩
theorem WRow.ne_own {W : World} {base base2 e sz n : Nat} {v v2 : Value} {xs : List Int} {ys : List Value} (h : WRow W base v xs) (h2 : W.ownsRow base2 e sz v2 n ys) (he : e ≠ 3) : ∀ k, v.ownBlock = some k → v2.ownBlock ≠ some k := fun k hk e2 => by
  rcases h2.2 with ⟨rfl, _⟩ | ⟨g, cap, cur, rfl, hb, hg, _⟩
  · cases e2
  · have e3 : g = k := by simpa [Value.ownBlock] using e2
    subst e3
    exact h.ne hg he hk
theorem ne_pg : 42 ≠ 3 := by decide
theorem sumH_le {b : Pb} : ∀ l : List Nat, (∀ i ∈ l, b.h i ≤ 1048576) → sumH b l ≤ (l.length : Int) * 1048576 := by
  intro l
  induction l with
  | nil => intro _; exact Int.le_refl _
  | cons a r ih =>
    intro h
    have h1 := h a (List.mem_cons_self ..)
    have h2 := ih fun i hi => h i (List.mem_cons_of_mem _ hi)
    rw [sumH, List.length_cons]
    omega
theorem BS.next {l : List Bx} {H : Int} {w wr w3 w4 : World} {p m k c A4m c4 : Nat} {wt dn : List Nat} {ps : List Pg} {A A3 A4 : Option Addr} {m3 c3 : Nat} {wv wv3 : Value} {R : Nat → Prop} (h : BS l H w p wt dn ps m k A c wv wr)
    (hh : ∀ i, i < (pbOf l H).n → 0 ≤ (pbOf l H).h i) (hf : ∀ i, i < (pbOf l H).n → (pbOf l H).h i ≤ (pbOf l H).H) (hH : 0 ≤ (pbOf l H).H) (hc : p < (pbOf l H).n ∨ wt ≠ [])
    (hk : Kpt R wr w3) (hR : ∀ i, i < wr.heap.size → R i → wv.ownBlock = some i)
    (hrb : WRow w3 w.heap.size (.slice A3 m3 c3) (nints (oneS (pbOf l H) p wt).1)) (hfr : ∀ i, (Value.slice A3 m3 c3).ownBlock = some i → wr.heap.size ≤ i)
    (hrw : WRow w3 w.heap.size wv3 (nints (oneS (pbOf l H) p wt).2.2.2)) (hnw : ∀ i, wv3.ownBlock = some i → wv.ownBlock = some i ∨ wr.heap.size ≤ i) (hdj : ∀ i, wv3.ownBlock = some i → (Value.slice A3 m3 c3).ownBlock ≠ some i)
    (hb3 : Below w.heap.size w w3) (hro3 : w3.ownsRow w.heap.size 42 2 (.slice A m c) m (ps.flatMap pgF))
    (ho : w4.ownsRow w.heap.size 42 2 (.slice A4 (m + 1) c4) (m + 1) (ps.flatMap pgF ++ [.slice A3 m3 c3, .int .i64 (oneS (pbOf l H) p wt).2.1])) (hg : w3.grownBy w4 (Value.slice A m c).ownBlock) (hb4 : Below w.heap.size w3 w4) :
    BS l H w (oneS (pbOf l H) p wt).2.2.1 (oneS (pbOf l H) p wt).2.2.2 (dn ++ (oneS (pbOf l H) p wt).1) (ps ++ [⟨nints (oneS (pbOf l H) p wt).1, (oneS (pbOf l H) p wt).2.1, A3, m3, c3⟩]) (m + 1) (k - 1) A4 c4 wv3 w4 := by
  have hp := one_ok hh hH h.inv
  have hne := one_ne hf h.inv hc
  have hls := one_less hh hf hH h.inv hc
  have hk4 := Kpt.of_grown hg
  have hkk := h.kk
  have hpn := h.inv.1
  have hk0 : k = (k - 1) + 1 := by
    rcases hc with hc | hc
    · omega
    · have := List.length_pos_iff.2 hc; omega
  refine ⟨hb3.trans hb4, hrw.keep hk4 (hrw.ne_own hro3 ne_pg), ?_, ?_, hp.inv, by omega, ?_, ?_⟩
  · rw [List.flatMap_append]; exact ho
  · intro x hx
    rcases List.mem_append.1 hx with hx | hx
    · obtain ⟨h1, h2⟩ := h.pg x hx
      have h3 := h1.keep hk (fun i e e2 => h2 i (hR i (h1.lt i e).2 e2) e)
      refine ⟨h3.keep hk4 (h3.ne_own hro3 ne_pg), fun i e e2 => ?_⟩
      rcases hnw i e with e3 | e3
      · exact h2 i e3 e2
      · have := (h1.lt i e2).2; omega
    · rw [List.mem_singleton] at hx
      subst hx
      exact ⟨hrb.keep hk4 (hrb.ne_own hro3 ne_pg), hdj⟩
  · have e1 := h.r
    rw [hk0, breakS, if_pos hc] at e1
    rw [e1, List.map_append, List.map_cons, List.append_assoc]
    rfl
  · have h3 := List.length_pos_iff.2 hne
    have := h.n
    rw [List.length_append]; omega
theorem inv_sorted {b : Pb} {dn wt : List Nat} {p : Nat} (h : Inv b dn p wt) : wt.Pairwise (· < ·) := by
  have h2 : ((List.range p).filter b.fl).Pairwise (· < ·) := List.pairwise_lt_range.filter _
  rw [← h.2.1, List.pairwise_append] at h2
  exact h2.2.1
theorem break_nil {b : Pb} {k p : Nat} {wt : List Nat} (h : ¬ (p < b.n ∨ wt ≠ [])) : breakS b k p wt = [] := by
  cases k with
  | zero => rfl
  | succ k => rw [breakS, if_neg h]
theorem WRow.rdA {W : World} {base n c : Nat} {A : Option Addr} {xs : List Int} (h : WRow W base (.slice A n c) xs) : Rd W W.heap.size 1 A n (ints xs) := by
  obtain ⟨A', c', e, hr⟩ := h.form
  injection e with e1 e2 e3
  subst e1 e2
  exact hr
theorem BS.done {l : List Bx} {H : Int} {w wr : World} {p m k c : Nat} {wt dn : List Nat} {ps : List Pg} {A : Option Addr} {wv : Value} (h : BS l H w p wt dn ps m k A c wv wr) (hc : ¬ (p < (pbOf l H).n ∨ wt ≠ [])) (hE : brkE l H = 0) :
    BrkPost l H w (.returned (.tuple #[.slice A m c, .int .i64 0])) wr := by
  refine ⟨A, m, c, ps, by rw [hE], ⟨Rd.of_own h.ro, fun x hx => (h.pg x hx).1.rdA⟩, ?_, h.b⟩
  unfold brkP
  rw [if_pos hE, h.r, break_nil hc]
  simp
/-- what early has placed, and what still waits -/
theorem FS.start {l : List Bx} {H : Int} {n q p base : Nat} {vB vW : Value} {w : World} {dn wt : List Nat} (hh : HtOk l) (hH : 0 ≤ H) (hn : l.length = n) (hI : Inv (pbOf l H) dn p wt)
    (hfb : FB q vB (earlyS (pbOf l H) [] 0 wt).2.1 (.slice none 0 0) w) (hrb : WRow w base vB (nints (earlyS (pbOf l H) [] 0 wt).1)) (hrw : WRow w base vW (nints (earlyS (pbOf l H) [] 0 wt).2.2)) (hd : ∀ k, vW.ownBlock = some k → vB.ownBlock ≠ some k) :
    FS n q vB (.slice none 0 0) vW (pbOf l H) (earlyS (pbOf l H) [] 0 wt).1.length base w (oneS (pbOf l H) p wt) p (earlyS (pbOf l H) [] 0 wt).1 (earlyS (pbOf l H) [] 0 wt).2.2 (earlyS (pbOf l H) [] 0 wt).2.1 vB (.slice none 0 0) vW w := by
  obtain ⟨r1, e1, e2⟩ := early_pre (pbOf l H) wt [] 0
  obtain ⟨e3, e4⟩ := early_ht (pbOf l H) wt [] 0 rfl hH
  have hs := inv_sorted hI
  have hil := inv_len hI
  have hw := hI.wt_lt
  have hpn : p ≤ n := by have := hI.1; rw [show (pbOf l H).n = n from hn] at this; exact this
  have hr : oneS (pbOf l H) p wt = fillS (pbOf l H) (earlyS (pbOf l H) [] 0 wt).1.length (n - p) p (earlyS (pbOf l H) [] 0 wt).1 (earlyS (pbOf l H) [] 0 wt).2.1 (earlyS (pbOf l H) [] 0 wt).2.2 := by
    unfold oneS; rw [show (pbOf l H).n = n from hn]
  have hlw := congrArg List.length e2
  generalize earlyS (pbOf l H) [] 0 wt = es at *
  obtain ⟨bx, ht, wt1⟩ := es
  simp only [List.nil_append] at e1
  subst e1
  have e2 : wt = bx ++ wt1 := e2
  rw [List.length_append] at hlw
  subst e2
  have hin : ∀ i ∈ bx, i < p := fun i hi => (hw i (List.mem_append_left _ hi)).1
  have hb := pb_in (H := H) (P := fun x => 0 ≤ x) (fun b hb => by have := hh b hb; omega)
  have hb2 := pb_in (H := H) (P := fun x => x ≤ 1048576) (fun b hb => (hh b hb).2)
  have hlt : ∀ i ∈ bx, i < (pbOf l H).n := fun i hi => by have := hin i hi; have e : (pbOf l H).n = n := hn; omega
  refine ⟨hfb, hrb, ?_, hrw, Kpt.refl _ _, Nxt.refl _ _, Nxt.refl _ _, Nxt.refl _ _, hr, e3, ?_, ?_, hin, fun i hi => (hw i (List.mem_append_right _ hi)).1, ?_, hpn, ?_, Nat.le_refl _, ?_, fun k hk => ⟨hd k hk, fun e => by cases e⟩⟩
  · unfold lineOf
    simp only [List.drop_length, List.filter_nil]
    exact WRow.nil _ _
  · have e3 : ht = sumH (pbOf l H) bx := e3
    show 0 ≤ ht
    rw [e3]; exact sumH_nonneg hb bx hlt
  · have e3 : ht = sumH (pbOf l H) bx := e3
    show ht ≤ _
    rw [e3]; exact sumH_le bx fun i hi => hb2 i (hlt i hi)
  · rw [List.pairwise_append] at hs; exact hs.2.1
  · show bx.length + wt1.length ≤ p
    have : wt1.length + bx.length ≤ p := by
      have h1 : (bx ++ wt1).length = bx.length + wt1.length := List.length_append
      omega
    omega
  · intro k hk e; cases e
set_option maxHeartbeats 8000000 in
set_option maxRecDepth 100000 in
theorem break_any (A : Option Addr) (n c : Nat) (l : List Bx) (H : Int) (w : World) (hx : BxAt w w.heap.size A n l) (hf : Few l) :
    Calls Tryd.prog 11 #[.slice A n c, .int .i64 H] w (BrkPost l H w) := by
  have HL := Lib.hid hx.len
  have hn60 : n ≤ 60 := by have := hf.n; rw [hx.len] at this; exact this
  go_enter Tryd.func11, Tryd.ntmps11
  go_wp2_with fail
  refine (bcheck_any A n c l w hx hf).mono ?_
  rintro e w1 ⟨rfl, hb1⟩
  by_cases hc : chkB [] 0 l = 0
  rotate_left
  · have HE : Hid (brkE l H = chkB [] 0 l) := by show _ = _; unfold brkE; rw [if_pos hc]
    generalize chkB [] 0 l = ce at *
    have z1 : (ce != 0) = true := by simpa using hc
    have HP := Lib.hid (BrkPost.err HE hc hb1)
    clear hc HE hb1
    go_wp2
    go_ret2
    exact HP.out
  have HE : Hid (brkE l H = if H < 1 then 9 else if l.any (fun b => decide (H < b.h)) then 19 else 0) := by show _ = _; unfold brkE; rw [if_neg (by simp [hc])]
  have hh := chk_ht l [] 0 hc
  rw [hc]
  clear hc hf
  by_cases hH : H < 1
  · have HP := Lib.hid (BrkPost.err (r := 9) (by rw [HE.out, if_pos hH]; rfl) (by decide) hb1)
    clear HE hb1
    go_wp2
    go_ret2
    exact HP.out
  have HE2 : Hid (brkE l H = if l.any (fun b => decide (H < b.h)) then 19 else 0) := by rw [HE.out, if_neg hH]; rfl
  clear HE
  go_wp2
  go_loopw [22] (fun i wr => ∃ j : Nat, j ≤ n ∧ i = .int .i64 j ∧ Below w.heap.size w wr ∧ Hid (∀ b ∈ l.take j, b.h ≤ H)) (fun i _ => n - (intOf i).toNat)
  case atStart => exact ⟨0, Nat.zero_le _, rfl, hb1, fun b hb => by simp at hb⟩
  case round =>
    obtain ⟨j, hj, rfl, hbw, hall⟩ := hrel
    have hsz := hbw.size
    by_cases hlt : j < n
    · obtain ⟨p, hp⟩ := get_of (l := l) (k := j) (by rw [HL.out]; exact hlt)
      obtain ⟨g, o, rfl, hg, c0, c1, c2, c3, c4, c5⟩ := (hx.below hbw).at6 hp
      have hbA := hbw.alloc hsz (.cells #[.string (B p.tx), .int .i64 p.h, .int .i64 p.g, .bool p.kp, .bool p.fl, .slice p.A p.na p.ca] 45)
      by_cases hb : H < p.h
      · have HP := Lib.hid (BrkPost.err (r := 19) (by rw [HE2.out, any_yes (List.mem_of_getElem? hp) hb]; rfl) (by decide) hbA)
        clear HE2 hbA
        go_wp2
        go_ret2
        exact HP.out
      · have HA := Lib.hid (all_take (P := fun b : Bx => b.h ≤ H) hall.out (by omega) hp)
        clear hall
        go_wp2
        go_roundw
        case rel => exact ⟨j + 1, by omega, by go_num, hbA, HA⟩
        case measure => simp [intOf]; omega
    · have hall2 : ∀ b ∈ l, b.h ≤ H := by have h := hall.out; rwa [List.take_of_length_le (by rw [HL.out]; omega)] at h
      have HE0 : Hid (brkE l H = 0) := by rw [HE2.out, any_no hall2]; rfl
      have HN : Hid ((pbOf l H).n = n) := HL.out
      have HS : Hid (BS l H w 0 [] [] [] 0 l.length none 0 (.slice none 0 0) wr) :=
        ⟨hbw, WRow.nil _ _, World.ownsRow_nil .., (fun x hx => by cases hx), inv_start _, (by show l.length - 0 + 0 ≤ l.length; omega), rfl, Nat.le_refl _⟩
      clear HE2 hall hb1
      go_wp2
      go_loopw [9, 10, 11] (fun gv wv pv wr => ∃ (p : Nat) (wt dn : List Nat) (ps : List Pg) (m k : Nat) (A : Option Addr) (c : Nat), gv = .slice A m c ∧ pv = .int .i64 p ∧ Hid (BS l H w p wt dn ps m k A c wv wr)) (fun _ wv pv _ => n - (intOf pv).toNat + sliceLen wv)
      case atStart => exact ⟨0, [], [], [], 0, l.length, none, 0, rfl, rfl, HS⟩
      case round =>
        clear HS hbw hsz
        obtain ⟨p, wt, dn, ps, m, k, A9, c9, rfl, rfl, HS⟩ := hrel
        have hbw := HS.out.b
        have hsz := hbw.size
        have hil := inv_len HS.out.inv
        have hpn := HS.out.inv.1
        rw [HN.out] at hpn
        have hmd := HS.out.n
        obtain ⟨AW, cW, rfl, _⟩ := HS.out.rw.form
        rw [nints_len] at HS
        simp only [nints_len]
        by_cases hcnd : p < n ∨ wt ≠ []
        · have hmd2 : m ≤ 60 := by omega
          by_cases hlt : p < n
          · have i1 : (p : Int) < (n : Int) := by omega
            have hrw0 := HS.out.rw
            have hFB : FB wr.heap.size (.slice none 0 0) 0 (.slice none 0 0) (wr.alloc (.cells #[.slice none 0 0, .int .i64 0, .slice none 0 0] 50)) := heap_alloc_new wr _
            have hba := below_alloc wr (.cells #[.slice none 0 0, .int .i64 0, .slice none 0 0] 50)
            have hWl := fun k hk => (hrw0.lt k hk).2
            have hES : ES n wr.heap.size (.slice none 0 0) (.slice none 0 0) (.slice AW wt.length cW) (pbOf l H) (earlyS (pbOf l H) [] 0 wt) w.heap.size (wr.alloc (.cells #[.slice none 0 0, .int .i64 0, .slice none 0 0] 50)) (.slice AW wt.length cW) (wr.alloc (.cells #[.slice none 0 0, .int .i64 0, .slice none 0 0] 50)) [] wt 0 (.slice none 0 0) :=
              ⟨hFB, WRow.nil _ _, Nxt.refl _ _, hrw0.step hba, Kpt.refl _ _, rfl, rfl, by simp; omega, Int.le_refl _, by simp, fun i hi => by have := (HS.out.inv.wt_lt i hi).1; omega⟩
            have hsA : (wr.alloc (.cells #[.slice none 0 0, .int .i64 0, .slice none 0 0] 50)).heap.size = wr.heap.size + 1 := by simp
            have HEA := Lib.hid (early_any A n c w.heap.size l H wr.heap.size (.slice none 0 0) (.slice none 0 0) (.slice AW wt.length cW) 0 [] wt w.heap.size (wr.alloc (.cells #[.slice none 0 0, .int .i64 0, .slice none 0 0] 50)) (hx.below (hbw.alloc hsz _)) hh (Nat.le_refl _) hsz (by omega) (fun k hk => by cases hk) hES)
            have HHW := Lib.hid hWl
            have HHA := Lib.hid hsA
            have HHB := Lib.hid hba
            clear hES hFB hrw0 hWl hsA hba
            generalize hmw : wt.length = mw at *
            go_wp2_with fail
            refine HEA.out.mono ?_
            rintro e w2 ⟨wv2, rfl, ⟨vB2, hfb2, hrb2, hnB2⟩, hrw2, hk2, ho2⟩
            have hd2 : ∀ k, wv2.ownBlock = some k → vB2.ownBlock ≠ some k := fun k e e2 => by
              rw [ho2] at e
              have h1 := HHW.out k e
              rcases hnB2 k e2 with h | h
              · cases h
              · rw [HHA.out] at h; omega
            have hFS := FS.start (p := p) (dn := dn) hh (by omega) HL.out HS.out.inv hfb2 hrb2 hrw2 hd2
            have hb2 : Below w.heap.size w w2 := (hbw.alloc hsz (.cells #[.slice none 0 0, .int .i64 0, .slice none 0 0] 50)).trans (hk2.below (by rw [HHA.out]; omega) (fun k e => by rcases e with rfl | e; exact hsz; cases e))
            have hs2 := hk2.size
            rw [HHA.out] at hs2
            obtain ⟨AW2, cW2, hvW2, _⟩ := hrw2.form
            have HFA := Lib.hid (fill_any A n c w.heap.size l H wr.heap.size vB2 (.slice none 0 0) wv2 _ _ _ _ w.heap.size p w2 _ (hx.below hb2) hh (by omega) (Nat.le_refl _) hsz hb2.size hFS)
            have HK2 := Lib.hid hk2
            have HNB2 := Lib.hid hnB2
            clear hFS hfb2 hrb2 hrw2 hk2 hnB2 hvW2
            go_wp2_with fail
            refine HFA.out.mono ?_
            rintro e w3 ⟨vB3, vL3, wv3, rfl, hfb3, hrb3, hrw3, hk3, hnB3, hnW3, hd3⟩
            obtain ⟨A3, c3, rfl, _⟩ := hrb3.form
            rw [nints_len] at hfb3 hrb3 hnB3 hd3
            generalize hm3 : (oneS (pbOf l H) p wt).1.length = m3 at *
            have hb3 : Below w.heap.size w w3 := hb2.trans (hk3.below hb2.size (fun k e => by
              rcases e with rfl | e | e | e
              · exact hsz
              · rcases HNB2.out k e with h | h
                · cases h
                · rw [HHA.out] at h; omega
              · cases e
              · rw [ho2] at e; exact ((HS.out.rw.lt k e).1)))
            have hkw : Kpt (fun k => k = wr.heap.size ∨ (Value.slice AW mw cW).ownBlock = some k) wr w3 :=
              ((Kpt.of_below HHB.out).trans2 HK2.out (fun k hk e => by
                rcases e with e | e
                · exact .inl e
                · cases e)).trans2 hk3 (fun k hk e => by
                rcases e with e | e | e | e
                · exact .inl e
                · rcases HNB2.out k e with h | h
                  · cases h
                  · rw [HHA.out] at h; omega
                · cases e
                · rw [ho2] at e; exact .inr e)
            have hro3 := own_keep HS.out.ro hkw (fun k e e2 => by
              rcases e2 with e2 | e2
              · have := (HS.out.ro.lt k e).2; omega
              · exact HS.out.rw.ne_own HS.out.ro ne_pg k e2 e)
            have hf3 : ∀ i, (Value.slice A3 m3 c3).ownBlock = some i → wr.heap.size ≤ i := fun i e => by
              rcases hnB3 i e with h | h
              · rcases HNB2.out i h with h | h
                · cases h
                · rw [HHA.out] at h; omega
              · omega
            have hn3 : ∀ i, wv3.ownBlock = some i → (Value.slice AW mw cW).ownBlock = some i ∨ wr.heap.size ≤ i := fun i e => by
              rcases hnW3 i e with h | h
              · rw [ho2] at h; exact .inl h
              · exact .inr (by omega)
            have d0 := hfb3.c0
            have d1 := hfb3.c1
            have hb3s := hb3.size
            have HRO3 := Lib.hid hro3
            have HNX := Lib.hid (fun (w4 : World) (A4 : Option Addr) (c4 : Nat) ho hg hb4 => HS.out.next (w4 := w4) (A4m := 0) (A4 := A4) (c4 := c4) (pb_in (P := fun x => 0 ≤ x) (fun b hb => by have := hh b hb; omega)) (pb_in (P := fun x => x ≤ H) hall2) (show (0 : Int) ≤ H by omega) (by rw [HN.out]; exact hcnd) hkw (fun i hi e => by rcases e with e | e; omega; exact e) hrb3 hf3 hrw3 hn3 hd3 hb3 hro3 ho hg hb4)
            clear hfb3 hrb3 hrw3 hk3 hnB3 hnW3 hd3 hkw hro3 hf3 hn3 HFA HK2 HNB2 HEA HHB
            have HOL := Lib.hid (one_less (pb_in (H := H) (P := fun x => 0 ≤ x) (fun b hb => by have := hh b hb; omega)) (pb_in (P := fun x => x ≤ H) hall2) (show (0 : Int) ≤ H by omega) HS.out.inv (by rw [HN.out]; exact hcnd))
            generalize oneS (pbOf l H) p wt = r at *
            go_wp2_with (at_builtin; refine wpList_app rfl _ _ 25 rfl 42 (.agg #[.slice none 0 0, .int .i64 0]) 2 32 Tryd.underlying25 Tryd.infoPg rfl (by decide) w3 [.slice A3 m3 c3, .int .i64 r.2.1] rfl ?c1 w.heap.size _ _ _ HRO3.out rfl rfl ?c2 (by decide) hb3s ?_)
            case c1 =>
              intro u hu
              simp only [List.mem_cons, List.not_mem_nil, or_false] at hu
              rcases hu with rfl | rfl <;> rfl
            case c2 => omega
            intro v4 w4 ho4 hg4 hb4
            obtain ⟨A4, c4, rfl, _⟩ := own_form ho4
            have HSN := Lib.hid (HNX.out w4 A4 c4 ho4 hg4 hb4)
            obtain ⟨AW3, cW3, hw3, _⟩ := HSN.out.rw.form
            rw [nints_len] at hw3
            subst hw3
            clear ho4 hg4 hb4 HNX HRO3 HS
            have hms := HOL.out
            rw [HN.out, hmw] at hms
            go_wp2
            go_roundw
            case rel => exact ⟨r.2.2.1, r.2.2.2, dn ++ r.1, _, m + 1, k - 1, A4, c4, by go_num, rfl, HSN⟩
            case measure => simp [intOf, sliceLen] <;> omega
          · have i1 : ¬ (p : Int) < (n : Int) := by omega
            have i2 : (0 : Int) < ((wt.length : Nat) : Int) := by
              have := List.length_pos_iff.2 (hcnd.resolve_left hlt); omega
            have hrw0 := HS.out.rw
            have hFB : FB wr.heap.size (.slice none 0 0) 0 (.slice none 0 0) (wr.alloc (.cells #[.slice none 0 0, .int .i64 0, .slice none 0 0] 50)) := heap_alloc_new wr _
            have hba := below_alloc wr (.cells #[.slice none 0 0, .int .i64 0, .slice none 0 0] 50)
            have hWl := fun k hk => (hrw0.lt k hk).2
            have hES : ES n wr.heap.size (.slice none 0 0) (.slice none 0 0) (.slice AW wt.length cW) (pbOf l H) (earlyS (pbOf l H) [] 0 wt) w.heap.size (wr.alloc (.cells #[.slice none 0 0, .int .i64 0, .slice none 0 0] 50)) (.slice AW wt.length cW) (wr.alloc (.cells #[.slice none 0 0, .int .i64 0, .slice none 0 0] 50)) [] wt 0 (.slice none 0 0) :=
              ⟨hFB, WRow.nil _ _, Nxt.refl _ _, hrw0.step hba, Kpt.refl _ _, rfl, rfl, by simp; omega, Int.le_refl _, by simp, fun i hi => by have := (HS.out.inv.wt_lt i hi).1; omega⟩
            have hsA : (wr.alloc (.cells #[.slice none 0 0, .int .i64 0, .slice none 0 0] 50)).heap.size = wr.heap.size + 1 := by simp
            have HEA := Lib.hid (early_any A n c w.heap.size l H wr.heap.size (.slice none 0 0) (.slice none 0 0) (.slice AW wt.length cW) 0 [] wt w.heap.size (wr.alloc (.cells #[.slice none 0 0, .int .i64 0, .slice none 0 0] 50)) (hx.below (hbw.alloc hsz _)) hh (Nat.le_refl _) hsz (by omega) (fun k hk => by cases hk) hES)
            have HHW := Lib.hid hWl
            have HHA := Lib.hid hsA
            have HHB := Lib.hid hba
            clear hES hFB hrw0 hWl hsA hba
            generalize hmw : wt.length = mw at *
            go_wp2_with fail
            refine HEA.out.mono ?_
            rintro e w2 ⟨wv2, rfl, ⟨vB2, hfb2, hrb2, hnB2⟩, hrw2, hk2, ho2⟩
            have hd2 : ∀ k, wv2.ownBlock = some k → vB2.ownBlock ≠ some k := fun k e e2 => by
              rw [ho2] at e
              have h1 := HHW.out k e
              rcases hnB2 k e2 with h | h
              · cases h
              · rw [HHA.out] at h; omega
            have hFS := FS.start (p := p) (dn := dn) hh (by omega) HL.out HS.out.inv hfb2 hrb2 hrw2 hd2
            have hb2 : Below w.heap.size w w2 := (hbw.alloc hsz (.cells #[.slice none 0 0, .int .i64 0, .slice none 0 0] 50)).trans (hk2.below (by rw [HHA.out]; omega) (fun k e => by rcases e with rfl | e; exact hsz; cases e))
            have hs2 := hk2.size
            rw [HHA.out] at hs2
            obtain ⟨AW2, cW2, hvW2, _⟩ := hrw2.form
            have HFA := Lib.hid (fill_any A n c w.heap.size l H wr.heap.size vB2 (.slice none 0 0) wv2 _ _ _ _ w.heap.size p w2 _ (hx.below hb2) hh (by omega) (Nat.le_refl _) hsz hb2.size hFS)
            have HK2 := Lib.hid hk2
            have HNB2 := Lib.hid hnB2
            clear hFS hfb2 hrb2 hrw2 hk2 hnB2 hvW2
            go_wp2_with fail
            refine HFA.out.mono ?_
            rintro e w3 ⟨vB3, vL3, wv3, rfl, hfb3, hrb3, hrw3, hk3, hnB3, hnW3, hd3⟩
            obtain ⟨A3, c3, rfl, _⟩ := hrb3.form
            rw [nints_len] at hfb3 hrb3 hnB3 hd3
            generalize hm3 : (oneS (pbOf l H) p wt).1.length = m3 at *
            have hb3 : Below w.heap.size w w3 := hb2.trans (hk3.below hb2.size (fun k e => by
              rcases e with rfl | e | e | e
              · exact hsz
              · rcases HNB2.out k e with h | h
                · cases h
                · rw [HHA.out] at h; omega
              · cases e
              · rw [ho2] at e; exact ((HS.out.rw.lt k e).1)))
            have hkw : Kpt (fun k => k = wr.heap.size ∨ (Value.slice AW mw cW).ownBlock = some k) wr w3 :=
              ((Kpt.of_below HHB.out).trans2 HK2.out (fun k hk e => by
                rcases e with e | e
                · exact .inl e
                · cases e)).trans2 hk3 (fun k hk e => by
                rcases e with e | e | e | e
                · exact .inl e
                · rcases HNB2.out k e with h | h
                  · cases h
                  · rw [HHA.out] at h; omega
                · cases e
                · rw [ho2] at e; exact .inr e)
            have hro3 := own_keep HS.out.ro hkw (fun k e e2 => by
              rcases e2 with e2 | e2
              · have := (HS.out.ro.lt k e).2; omega
              · exact HS.out.rw.ne_own HS.out.ro ne_pg k e2 e)
            have hf3 : ∀ i, (Value.slice A3 m3 c3).ownBlock = some i → wr.heap.size ≤ i := fun i e => by
              rcases hnB3 i e with h | h
              · rcases HNB2.out i h with h | h
                · cases h
                · rw [HHA.out] at h; omega
              · omega
            have hn3 : ∀ i, wv3.ownBlock = some i → (Value.slice AW mw cW).ownBlock = some i ∨ wr.heap.size ≤ i := fun i e => by
              rcases hnW3 i e with h | h
              · rw [ho2] at h; exact .inl h
              · exact .inr (by omega)
            have d0 := hfb3.c0
            have d1 := hfb3.c1
            have hb3s := hb3.size
            have HRO3 := Lib.hid hro3
            have HNX := Lib.hid (fun (w4 : World) (A4 : Option Addr) (c4 : Nat) ho hg hb4 => HS.out.next (w4 := w4) (A4m := 0) (A4 := A4) (c4 := c4) (pb_in (P := fun x => 0 ≤ x) (fun b hb => by have := hh b hb; omega)) (pb_in (P := fun x => x ≤ H) hall2) (show (0 : Int) ≤ H by omega) (by rw [HN.out]; exact hcnd) hkw (fun i hi e => by rcases e with e | e; omega; exact e) hrb3 hf3 hrw3 hn3 hd3 hb3 hro3 ho hg hb4)
            clear hfb3 hrb3 hrw3 hk3 hnB3 hnW3 hd3 hkw hro3 hf3 hn3 HFA HK2 HNB2 HEA HHB
            have HOL := Lib.hid (one_less (pb_in (H := H) (P := fun x => 0 ≤ x) (fun b hb => by have := hh b hb; omega)) (pb_in (P := fun x => x ≤ H) hall2) (show (0 : Int) ≤ H by omega) HS.out.inv (by rw [HN.out]; exact hcnd))
            generalize oneS (pbOf l H) p wt = r at *
            go_wp2_with (at_builtin; refine wpList_app rfl _ _ 25 rfl 42 (.agg #[.slice none 0 0, .int .i64 0]) 2 32 Tryd.underlying25 Tryd.infoPg rfl (by decide) w3 [.slice A3 m3 c3, .int .i64 r.2.1] rfl ?c1 w.heap.size _ _ _ HRO3.out rfl rfl ?c2 (by decide) hb3s ?_)
            case c1 =>
              intro u hu
              simp only [List.mem_cons, List.not_mem_nil, or_false] at hu
              rcases hu with rfl | rfl <;> rfl
            case c2 => omega
            intro v4 w4 ho4 hg4 hb4
            obtain ⟨A4, c4, rfl, _⟩ := own_form ho4
            have HSN := Lib.hid (HNX.out w4 A4 c4 ho4 hg4 hb4)
            obtain ⟨AW3, cW3, hw3, _⟩ := HSN.out.rw.form
            rw [nints_len] at hw3
            subst hw3
            clear ho4 hg4 hb4 HNX HRO3 HS
            have hms := HOL.out
            rw [HN.out, hmw] at hms
            go_wp2
            go_roundw
            case rel => exact ⟨r.2.2.1, r.2.2.2, dn ++ r.1, _, m + 1, k - 1, A4, c4, by go_num, rfl, HSN⟩
            case measure => simp [intOf, sliceLen] <;> omega
        · have hw0 : wt = [] := by
            cases wt with
            | nil => rfl
            | cons a r => exact absurd (Or.inr (by simp)) hcnd
          subst hw0
          have e : p = n := by have : ¬ p < n := fun h => hcnd (.inl h)
                               omega
          have HP := Lib.hid (HS.out.done (by rw [HN.out]; exact hcnd) HE0.out)
          subst e
          clear HS
          go_wp2
          go_ret2
          exact HP.out
end Go.Proofs.YtpgpkgpiengmkaaDoor
