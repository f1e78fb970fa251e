/-
  Layer 40 (page): the walk of the law PageOnce.
-/
import Derived.Test.YtpgpkgpiengmkaaDoorPgAw
import Derived.Test.YtpgpkgpiengmkaaDoorPgC
namespace Go.Proofs.YtpgpkgpiengmkaaDoor
open Go.RowKit
set_option linter.unusedVariables false
set_option linter.unusedSimpArgs false
attribute [local go_sem] B_data B_size

/-- what is known of the pages of boxes -/
structure OnOk (n : Nat) (l : List Bx) (H : Int) (ps : List Pg) : Prop where
  r : inR n ps
  nd : (fl ps).Nodup
  len : (fl ps).length = n
  asc : ascB l false (-1) (fl ps) = true
  pg : ∀ p ∈ ps, p.bs ≠ [] ∧ p.ht ≤ H ∧ sumW l 0 p.bs = p.ht
theorem fl_nat {ps : List Pg} {ns : List (List Nat × Int)} (h : ps.map pgD = ns.map nat2) : fl ps = nints (flatB ns) := by
  have h1 : (ps.map pgD).flatMap (·.1) = (ns.map nat2).flatMap (·.1) := by rw [h]
  rw [List.flatMap_map, List.flatMap_map] at h1
  have e1 : fl ps = ps.flatMap fun a => (pgD a).1 := rfl
  rw [e1, h1]
  unfold flatB nints
  rw [List.map_flatMap]
  rfl
theorem nints_nodup {l : List Nat} (h : l.Nodup) : (nints l).Nodup := by
  unfold nints
  exact List.Pairwise.map _ (fun a b hab e => hab (by omega)) h
theorem asc_nat {l : List Bx} {H : Int} (f : Bool) : ∀ (L : List Nat) (last : Int), (∀ i ∈ L, i < l.length) → ((L.filter fun i => (pbOf l H).fl i == f).Pairwise (· ≤ ·)) → (∀ i ∈ L, (pbOf l H).fl i = f → last ≤ (i : Int)) → ascB l f last (nints L) = true := by
  intro L
  induction L with
  | nil => intro last _ _ _; rfl
  | cons a r ih =>
    intro last hl hp hla
    obtain ⟨b, hb⟩ := get_of (l := l) (k := a) (hl a (List.mem_cons_self ..))
    have e : nints (a :: r) = (a : Int) :: nints r := rfl
    rw [e, ascB, flB_of hb]
    have hfa : (pbOf l H).fl a = b.fl := pb_fl hb
    by_cases hf : b.fl = f
    · rw [show (b.fl != f) = false by simpa using hf, if_neg (by decide)]
      have h1 := hla a (List.mem_cons_self ..) (by rw [hfa]; exact hf)
      rw [if_neg (by omega)]
      rw [List.filter_cons_of_pos (by rw [hfa]; simpa using hf), List.pairwise_cons] at hp
      refine ih _ (fun i hi => hl i (List.mem_cons_of_mem _ hi)) hp.2 (fun i hi hi2 => ?_)
      have := hp.1 i (List.mem_filter.2 ⟨hi, by simpa using hi2⟩)
      omega
    · rw [show (b.fl != f) = true by simpa using hf, if_pos rfl]
      rw [List.filter_cons_of_neg (by rw [hfa]; simpa using hf)] at hp
      exact ih _ (fun i hi => hl i (List.mem_cons_of_mem _ hi)) hp (fun i hi => hla i (List.mem_cons_of_mem _ hi))
theorem wrap64_in {x : Int} (h : -9223372036854775808 ≤ x) (h2 : x < 9223372036854775808) : wrap64 x = x := by
  unfold wrap64
  omega
theorem sumW_nat {l : List Bx} {H : Int} (hh : HtOk l) : ∀ (L : List Nat) (s : Int), (∀ i ∈ L, i < l.length) → 0 ≤ s → s + (L.length : Int) * 1048576 ≤ 1000000000000 → sumW l s (nints L) = s + sumH (pbOf l H) L := by
  intro L
  induction L with
  | nil => intro s _ _ _; simp [nints, sumW, sumH]
  | cons a r ih =>
    intro s hl h0 h1
    obtain ⟨b, hb⟩ := get_of (l := l) (k := a) (hl a (List.mem_cons_self ..))
    have hbh := hh b (List.mem_of_getElem? hb)
    have e : nints (a :: r) = (a : Int) :: nints r := rfl
    rw [List.length_cons] at h1
    rw [e, sumW, htB_of hb, sumH, pb_h hb]
    have hw : wrap64 (s + b.h) = s + b.h := wrap64_in (by omega) (by omega)
    rw [hw, ih _ (fun i hi => hl i (List.mem_cons_of_mem _ hi)) (by omega) (by omega)]
    omega
theorem nd_len {L : List Nat} {n : Nat} (h : L.Perm (List.range n)) : L.length = n := by rw [h.length_eq, List.length_range]
theorem on_ok {l : List Bx} {H : Int} {ps : List Pg} {n : Nat} (hn : l.length = n) (hn6 : n ≤ 60) (hE : brkE l H = 0) (hd : ps.map pgD = (brkP l H).map nat2) : OnOk n l H ps ∧ PagesOk (pbOf l H) [] 0 [] (brkP l H) ∧ HtOk l := by
  have h0 : chkB [] 0 l = 0 ∧ ¬ H < 1 ∧ l.any (fun b => decide (H < b.h)) = false := by
    unfold brkE at hE
    split at hE
    · rename_i h; exact absurd hE h
    · rename_i h
      split at hE
      · omega
      · rename_i h2
        split at hE
        · omega
        · rename_i h3; exact ⟨by simpa using h, h2, by simpa using h3⟩
  obtain ⟨hc, hH, hall⟩ := h0
  have hh := chk_ht l [] 0 hc
  have hle : ∀ b ∈ l, b.h ≤ H := fun b hb => by
    have := List.any_eq_false.1 hall b hb
    simpa using this
  have hP : PagesOk (pbOf l H) [] 0 [] (brkP l H) := by
    unfold brkP
    rw [if_pos hE]
    exact break_ok (pb_in (P := fun x => 0 ≤ x) (fun b hb => by have := hh b hb; omega)) (pb_in (P := fun x => x ≤ H) hle) (show (0 : Int) ≤ H by omega) _ [] 0 [] (inv_start _) (by show l.length - 0 + 0 ≤ l.length; omega)
  have hfl := fl_nat hd
  have hlt := pages_lt hP
  have hpm := pages_perm hP
  have hpn : (pbOf l H).n = n := hn
  refine ⟨⟨?_, ?_, ?_, ?_, ?_⟩, hP, hh⟩
  · intro x hx
    rw [hfl] at hx
    obtain ⟨i, hi, rfl⟩ := List.mem_map.1 hx
    have := hlt i hi
    omega
  · rw [hfl]; exact nints_nodup (pages_nodup hP)
  · rw [hfl, nints_len]; rw [hpn] at hpm; exact nd_len hpm
  · rw [hfl]
    exact asc_nat (H := H) false _ _ (fun i hi => by have := hlt i hi; omega) ((pages_rise hP false).imp fun h => Nat.le_of_lt h) (fun i _ _ => by omega)
  · intro p hp
    have hpd : pgD p ∈ (brkP l H).map nat2 := by rw [← hd]; exact List.mem_map.2 ⟨p, hp, rfl⟩
    obtain ⟨q, hq, hqe⟩ := List.mem_map.1 hpd
    obtain ⟨h1, h2, h3⟩ := pages_ne hP q hq
    have hb : p.bs = nints q.1 := (congrArg Prod.fst hqe).symm
    have ht : p.ht = q.2 := (congrArg Prod.snd hqe).symm
    have hql : q.1.length ≤ 60 := by
      have hs : q.1.Sublist (flatB (brkP l H)) := by unfold flatB; rw [List.flatMap_def]; exact List.sublist_flatten_of_mem (List.mem_map.2 ⟨q, hq, rfl⟩)
      have := hs.length_le
      rw [hpn] at hpm
      rw [nd_len hpm] at this
      omega
    refine ⟨fun e => h1 ?_, by rw [ht]; exact h3, ?_⟩
    · have := congrArg List.length e
      rw [hb, nints_len] at this
      exact List.eq_nil_of_length_eq_zero this
    · rw [hb, ht, h2, sumW_nat (H := H) hh q.1 0 (fun i hi => by have := hlt i (List.mem_flatMap.2 ⟨q, hq, hi⟩); omega) (Int.le_refl _) (by omega)]
      omega
set_option maxHeartbeats 8000000 in
set_option maxRecDepth 100000 in
theorem pageOnce_walk (w : World) (A : Option Addr) (n c : Nat) (l : List Bx) (hx : BxAt w w.heap.size A n l) (hn : n ≤ 140737488355328) (H : Int) (hG : GlobP w) :
    Calls Tryd.prog 7 #[.slice A n c, .int .i64 H] w fun e w' => e = .returned (.bool true) ∧ Below w.heap.size w w' := by
  have HL := Lib.hid hx.len
  go_enter Tryd.func7, Tryd.ntmps7
  go_wp2_with fail
  refine (few_any A n c l w hx hn).mono ?_
  rintro e w1 ⟨b, rfl, hbw, hfw⟩
  cases b with
  | false =>
    clear hfw
    go_wp2_with fail
    refine (awake_any _ (hG.below hbw)).mono ?_
    rintro e w9 ⟨rfl, hb9⟩
    have hb10 := hbw.trans (hb9.mono hbw.size)
    clear hb9 hbw
    go_wp2
    go_ret
    exact ⟨rfl, hb10⟩
  | true =>
    have hF := hfw rfl
    have hn60 : n ≤ 60 := by have := hF.n; rw [hx.len] at this; exact this
    clear hfw
    go_wp2_with fail
    refine (break_any A n c l H _ (hx.step hbw) hF).mono ?_
    rintro e w2 ⟨A1, m, c1, ps, rfl, hp, hd, hb2⟩
    have hx2 := (hx.step hbw).step hb2
    replace hbw := hbw.trans (hb2.mono hbw.size)
    clear hb2
    by_cases hE : brkE l H = 0
    rotate_left
    · have z1 : (brkE l H != 0) = true := by simpa using hE
      generalize brkE l H = ce at *
      clear hE hd hp hx2 hF
      go_wp2_with fail
      refine (awake_any _ (hG.below hbw)).mono ?_
      rintro e w9 ⟨rfl, hb9⟩
      have hb10 := hbw.trans (hb9.mono hbw.size)
      clear hb9 hbw
      go_wp2
      go_ret
      exact ⟨rfl, hb10⟩
    obtain ⟨hO, hP, hh⟩ := on_ok (n := n) hx.len hn60 hE hd
    rw [hE]
    have HO := Lib.hid hO
    have HM := Lib.hid hp.len
    have hm : m ≤ 60 := by
      have h1 : ps.length ≤ (fl ps).length := by
        have h2 : ∀ p ∈ ps, p.bs ≠ [] := fun p hp => (hO.pg p hp).1
        clear HO hO hP hd HM hp
        induction ps with
        | nil => exact Nat.le_refl _
        | cons a r ih =>
          have h3 := ih (fun p hp => h2 p (List.mem_cons_of_mem _ hp))
          have h4 := List.length_pos_iff.2 (h2 a (List.mem_cons_self ..))
          have e : fl (a :: r) = a.bs ++ fl r := rfl
          rw [e, List.length_append, List.length_cons]; omega
      rw [hO.len, HM.out] at h1; omega
    have hmk := run_makeBool n (by omega) w2
    have hrow := Row.made w2 4 n (.bool false)
    have hbA := below_alloc w2 (.cells (Array.replicate n (.bool false)) 4)
    generalize w2.alloc (.cells (Array.replicate n (.bool false)) 4) = w0 at *
    have HROW : Hid (Row w0 w2.heap.size 4 n (fun i => .bool (decide (((i : Nat) : Int) ∈ fl (ps.take 0))))) := hrow.congr fun i _ => by simp [fl]
    clear hrow hO hP hd hF hE
    go_wp2
    clear hmk
    go_loopw [8, 9, 10] (fun nv lv i wr => ∃ (j t : Nat) (la : Int), j ≤ m ∧ i = .int .i64 j ∧ nv = .int .i64 t ∧ lv = .int .i64 la ∧ t ≤ n ∧ Below w2.heap.size w2 wr ∧ Hid (Row wr w2.heap.size 4 n (fun i => .bool (decide (((i : Nat) : Int) ∈ fl (ps.take j))))) ∧ Hid (t = (fl (ps.take j)).length) ∧ Hid (ascB l false la (fl (ps.drop j)) = true)) (fun _ _ i _ => m - (intOf i).toNat)
    case atStart => exact ⟨0, 0, -1, Nat.zero_le _, rfl, rfl, rfl, Nat.zero_le _, hbA, HROW, rfl, HO.out.asc⟩
    case round =>
      clear hbA HROW
      obtain ⟨j, t, la, hj, rfl, rfl, rfl, htn, hb3, hrow, htl, has⟩ := hrel
      have hsz := hb3.size
      by_cases hlt : j < m
      · obtain ⟨p, hpj⟩ := get_of (l := ps) (k := j) (by rw [HM.out]; exact hlt)
        obtain ⟨hpne, hph, hpw⟩ := HO.out.pg p (List.mem_of_getElem? hpj)
        have hpr := hp.below hb3
        obtain ⟨g, o, rfl, hg, c0, c1⟩ := hpr.at2 hpj
        have HPB := Lib.hid (hp.bs p (List.mem_of_getElem? hpj))
        have HPL := Lib.hid HPB.out.ints_len
        have hnb : p.nb ≤ n := by
          have h1 : p.bs.Sublist (fl ps) := by unfold fl; rw [List.flatMap_def]; exact List.sublist_flatten_of_mem (List.mem_map.2 ⟨p, List.mem_of_getElem? hpj, rfl⟩)
          have h2 := h1.length_le
          rw [HPL.out, HO.out.len] at h2; exact h2
        have hnb0 : p.nb ≠ 0 := fun e => hpne (List.eq_nil_of_length_eq_zero (by rw [HPL.out]; exact e))
        have HPW := Lib.hid hpw
        have HAS : Hid (ascB l false la (p.bs.drop 0 ++ fl (ps.drop (j + 1))) = true) := by have h := has.out; rw [fl_drop hpj] at h; exact h
        clear has hpw hpne
        go_wp2
        go_loopw [8, 9, 11, 12] (fun nv lv sv i wr => ∃ (k t : Nat) (la s : Int), k ≤ p.nb ∧ i = .int .i64 k ∧ nv = .int .i64 t ∧ lv = .int .i64 la ∧ sv = .int .i64 s ∧ t ≤ n ∧ Below w2.heap.size w2 wr ∧ Hid (Row wr w2.heap.size 4 n (fun i => .bool (decide (((i : Nat) : Int) ∈ fl (ps.take j) ++ p.bs.take k)))) ∧ Hid (t = (fl (ps.take j) ++ p.bs.take k).length) ∧ Hid (ascB l false la (p.bs.drop k ++ fl (ps.drop (j + 1))) = true) ∧ Hid (sumW l s (p.bs.drop k) = p.ht)) (fun _ _ _ i _ => p.nb - (intOf i).toNat)
        case atStart => exact ⟨0, t, la, 0, Nat.zero_le _, rfl, rfl, rfl, rfl, htn, hb3, by rw [List.take_zero, List.append_nil]; exact hrow, by rw [List.take_zero, List.append_nil]; exact htl, HAS, HPW⟩
        case round =>
          clear hrow htl HAS HPW hb3 c0 c1 hpr hsz htn
          obtain ⟨k, t, la, s, hk, rfl, rfl, rfl, rfl, htn, hb3, hrow, htl, has, hsw⟩ := hrel
          have hsz := hb3.size
          obtain ⟨g', o', hA1, _, c0, c1⟩ := (hp.below hb3).at2 hpj
          injection hA1 with hA1
          injection hA1 with hA1 hA2 _
          subst hA1 hA2
          have i1 : (0 : Int) ≤ (j : Int) := by omega
          have i2 : (j : Int) < (m : Int) := by omega
          by_cases hka : k < p.nb
          · obtain ⟨x, hxk⟩ := get_of (l := p.bs) (k := k) (by rw [HPL.out]; exact hka)
            obtain ⟨hx0, hxn⟩ := HO.out.r x (fl_sub hpj hxk)
            obtain ⟨y, rfl⟩ : ∃ y : Nat, x = (y : Int) := ⟨x.toNat, by omega⟩
            obtain ⟨g3, o3, hA3, _, e0⟩ := (HPB.out.below hb3).int hxk
            rw [hA3] at c0
            have hyn : y < n := by omega
            obtain ⟨b, hb⟩ := get_of (l := l) (k := y) (by rw [HL.out]; exact hyn)
            obtain ⟨gb, ob, hA, hgb, b0, b1, b2, b3, b4, b5⟩ := (hx2.below hb3).at6 hb
            subst hA
            have hnin : ¬ (y : Int) ∈ fl (ps.take j) ++ p.bs.take k := fun h => nodup_not hpj hxk h HO.out.nd
            have d0 := hrow.out.cell hyn
            have df := hrow.out.free y
            have hdd : decide ((y : Int) ∈ fl (ps.take j) ++ p.bs.take k) = false := by simpa using hnin
            rw [hdd] at d0
            have HRN : Hid (Row (wr.setCell ⟨w2.heap.size, y, none⟩ (.bool true)) w2.heap.size 4 n (fun i => .bool (decide (((i : Nat) : Int) ∈ fl (ps.take j) ++ p.bs.take (k + 1))))) := by
              rw [take_one hxk, ← List.append_assoc]
              exact hrow.out.set hyn _ (by simp) (fun i _ hi => congrArg Value.bool (bool_row i hi))
            have hbN := hb3.setCell (p := ⟨w2.heap.size, y, none⟩) (Nat.le_refl _) (.bool true)
            obtain ⟨gb', ob', hA, _, _, b1', _, _, b4', _⟩ := (hx2.below hbN).at6 hb
            injection hA with hA
            injection hA with hA hA2 _
            subst hA hA2
            have HTN : Hid (t + 1 = (fl (ps.take j) ++ p.bs.take (k + 1)).length) := by show _ = _; rw [take_one hxk, ← List.append_assoc, List.length_append, ← htl.out]; rfl
            have htn2 : t + 1 ≤ n := by
              obtain ⟨r, hr⟩ := fl_split hpj hxk
              have h1 := congrArg List.length hr
              rw [HO.out.len, List.length_append, ← htl.out, List.length_cons] at h1
              omega
            have HSW : Hid (sumW l (wrap64 (s + b.h)) (p.bs.drop (k + 1)) = p.ht) := by have h := hsw.out; rw [drop_get hxk, sumW, htB_of hb] at h; exact h
            have HA := has.out
            rw [drop_get hxk, List.cons_append, ascB, flB_of hb] at HA
            clear has hsw htl hrow hnin hdd b0 b1 b2 b3 b4 b5 hx0 hxn
            cases hf : b.fl
            · rw [hf] at b4' HA
              have hyl : ¬ (y : Int) < la := fun h => by rw [show (false != false) = false from rfl, if_neg (by decide), if_pos h] at HA; cases HA
              have HA2 : Hid (ascB l false (y : Int) (p.bs.drop (k + 1) ++ fl (ps.drop (j + 1))) = true) := by rw [show (false != false) = false from rfl, if_neg (by decide), if_neg hyl] at HA; exact HA
              clear HA hf
              go_wp2
              go_roundw
              case rel => exact ⟨k + 1, t + 1, (y : Int), wrap64 (s + b.h), by omega, by go_num, by go_num, rfl, rfl, by omega, hbN, HRN, HTN, HA2, HSW⟩
              case measure => simp [intOf]; omega
            · rw [hf] at b4' HA
              have HA2 : Hid (ascB l false la (p.bs.drop (k + 1) ++ fl (ps.drop (j + 1))) = true) := by rw [show (true != false) = true from rfl, if_pos rfl] at HA; exact HA
              clear HA hf
              go_wp2
              go_roundw
              case rel => exact ⟨k + 1, t + 1, la, wrap64 (s + b.h), by omega, by go_num, by go_num, rfl, rfl, by omega, hbN, HRN, HTN, HA2, HSW⟩
              case measure => simp [intOf]; omega
          · have hs : s = p.ht := by have h := hsw.out; rw [List.drop_of_length_le (l := p.bs) (by rw [HPL.out]; omega)] at h; exact h
            subst hs
            have HJ : Hid (Row wr w2.heap.size 4 n (fun i => .bool (decide (((i : Nat) : Int) ∈ fl (ps.take (j + 1)))))) := by
              have h := hrow.out
              rw [List.take_of_length_le (l := p.bs) (by rw [HPL.out]; omega)] at h
              rw [fl_take hpj]; exact h
            have HT : Hid (t = (fl (ps.take (j + 1))).length) := by
              have h := htl.out
              rw [List.take_of_length_le (l := p.bs) (by rw [HPL.out]; omega)] at h
              rw [fl_take hpj]; exact h
            have HA2 : Hid (ascB l false la (fl (ps.drop (j + 1))) = true) := by
              have h := has.out
              rw [List.drop_of_length_le (l := p.bs) (by rw [HPL.out]; omega), List.nil_append] at h; exact h
            have q0 : ((p.nb : Int) == 0) = false := by simpa using hnb0
            have q1 : (p.ht != p.ht) = false := by simp
            have q2 : ¬ H < p.ht := by omega
            clear hrow htl has hsw
            go_wp2
            go_roundw
            case rel => exact ⟨j + 1, t, la, by omega, by go_num, rfl, rfl, htn, hb3, HJ, HT, HA2⟩
            case measure => simp [intOf]; omega
      · have ht : t = n := by have h := htl.out; rw [List.take_of_length_le (l := ps) (by rw [HM.out]; omega), HO.out.len] at h; exact h
        subst ht
        replace hbw := hbw.trans (hb3.mono hbw.size)
        clear hrow htl has hb3
        have z0 : ((t : Int) == (t : Int)) = true := by simp
        go_wp2_with fail
        refine (awake_any _ (hG.below hbw)).mono ?_
        rintro e w9 ⟨rfl, hb9⟩
        have hb10 := hbw.trans (hb9.mono hbw.size)
        clear hb9 hbw
        go_wp2
        go_ret
        exact ⟨rfl, hb10⟩
end Go.Proofs.YtpgpkgpiengmkaaDoor
