/-
  Layer 40 (page), plain: the pages of Break violate no rule.
-/
import Derived.Test.YtpgpkgpiengmkaaDoorPgOnW
import Derived.Test.YtpgpkgpiengmkaaDoorPgRe
namespace Go.Proofs.YtpgpkgpiengmkaaDoor
open Go.RowKit
set_option linter.unusedVariables false
set_option linter.unusedSimpArgs false

/-- the last of a list, or d -/
def lastD (L : List Nat) (d : Int) : Int := (L.getLast?.map fun i : Nat => (i : Int)).getD d
theorem lastD_cons (a : Nat) (r : List Nat) (d : Int) : lastD (a :: r) d = lastD r (a : Int) := by
  unfold lastD
  rw [List.getLast?_cons]
  cases r.getLast? <;> rfl
theorem inl_cons (b : Pb) (a : Nat) (r : List Nat) : inl b (a :: r) = if b.fl a then inl b r else a :: inl b r := by
  unfold inl
  cases h : b.fl a <;> simp [h]
theorem sep_spec {l : List Bx} {H : Int} : ∀ (L : List Nat) (last : Int) (loose : Bool), (∀ i ∈ L, i < l.length) →
    sepQ l last loose (nints L) = (lastD (inl (pbOf l H) L) last, loose || (inl (pbOf l H) L).any fun i => !(pbOf l H).kp i)
  | [], last, loose, _ => by simp [nints, sepQ, lastD, inl]
  | a :: r, last, loose, h => by
    obtain ⟨b, hb⟩ := get_of (l := l) (k := a) (h a (List.mem_cons_self ..))
    have e : nints (a :: r) = (a : Int) :: nints r := rfl
    have hr : ∀ i ∈ r, i < l.length := fun i hi => h i (List.mem_cons_of_mem _ hi)
    rw [e, sepQ, flB_of hb, kpB_of hb, inl_cons, pb_fl hb]
    cases b.fl
    · rw [if_neg (by decide), if_neg (by decide), sep_spec r _ _ hr, lastD_cons, List.any_cons, pb_kp hb, Bool.or_assoc]
    · rw [if_pos rfl, if_pos rfl, sep_spec r _ _ hr]
theorem fin_spec {l : List Bx} {H : Int} : ∀ (r : List Bx) (i : Nat) (cur : Int), l.drop i = r → finF i cur r = lastD (inl (pbOf l H) (List.range' i r.length)) cur
  | [], i, cur, _ => rfl
  | b :: r, i, cur, h => by
    have hi : l[i]? = some b := by
      have := congrArg (fun x => x[0]?) h
      simpa using this
    have h2 : l.drop (i + 1) = r := by
      have := congrArg (List.drop 1) h
      rw [List.drop_drop] at this
      simpa using this
    rw [finF, List.length_cons, List.range'_succ, inl_cons, pb_fl hi]
    cases b.fl
    · rw [if_neg (by decide), if_neg (by decide), fin_spec r (i + 1) _ h2, lastD_cons]
    · rw [if_pos rfl, if_pos rfl, fin_spec r (i + 1) _ h2]
theorem torn_sep {l : List Bx} {H : Int} {L : List Nat} (hL : ∀ i ∈ L, i < l.length) (h : TornQ (pbOf l H) L) : sepC l (finF 0 (-1) l) (sepQ l (-1) false (nints L)) = false := by
  rw [sep_spec (H := H) L _ _ hL, fin_spec (H := H) l 0 (-1) rfl]
  cases hg : (inl (pbOf l H) L).getLast? with
  | none =>
    unfold sepC lastD
    rw [hg]; rfl
  | some z =>
    have hne : inl (pbOf l H) L ≠ [] := fun e => by rw [e] at hg; cases hg
    have hz : z ∈ inl (pbOf l H) L := List.mem_of_getLast? hg
    have hzL : z ∈ L := (List.mem_filter.1 hz).1
    obtain ⟨b, hb⟩ := get_of (l := l) (k := z) (hL z hzL)
    have e1 : lastD (inl (pbOf l H) L) (-1) = (z : Int) := by unfold lastD; rw [hg]; rfl
    rw [e1]
    unfold sepC
    rw [kpB_of hb]
    cases hk : b.kp
    · simp
    · by_cases hf : (z : Int) = lastD (inl (pbOf l H) (List.range' 0 l.length)) (-1)
      · rw [← hf]; simp
      · have hany : ((inl (pbOf l H) L).any fun i => !(pbOf l H).kp i) = false := by
          rcases h with h | h
          · have hlen : (inl (pbOf l H) L).getD ((inl (pbOf l H) L).length - 1) 0 = z := by
              rw [List.getLast?_eq_getElem?] at hg
              rw [List.getD_eq_getElem?_getD, hg]; rfl
            refine List.any_eq_false.2 fun i hi => ?_
            obtain ⟨j, hj⟩ := List.getElem?_of_mem hi
            have hjl := (List.getElem?_eq_some_iff.1 hj).1
            have hjd : (inl (pbOf l H) L).getD j 0 = i := by rw [List.getD_eq_getElem?_getD, hj]; rfl
            by_cases hjz : j = (inl (pbOf l H) L).length - 1
            · rw [← hjz, hjd] at hlen
              rw [hlen, pb_kp hb, hk]; decide
            · rcases h with h | h | h
              · omega
              · rw [hlen, pb_kp hb, hk] at h; cases h
              · have := h j (by omega)
                rw [hjd] at this
                rw [this]; decide
          · exfalso
            apply hf
            have e0 : (List.range (pbOf l H).n) = List.range' 0 l.length := List.range_eq_range' ..
            rw [e0, hg] at h
            unfold lastD
            rw [← h]; rfl
        rw [hany]; simp
theorem sepF_false {l : List Bx} {fin : Int} : ∀ ps : List Pg, (∀ p ∈ ps, sepC l fin (sepQ l (-1) false p.bs) = false) → sepF l fin ps = false
  | [], _ => rfl
  | p :: r, h => by
    rw [sepF, h p (List.mem_cons_self ..), if_neg (by decide)]
    exact sepF_false r fun q hq => h q (List.mem_cons_of_mem _ hq)
theorem htsF_false {l : List Bx} {H : Int} : ∀ ps : List Pg, (∀ p ∈ ps, p.ht ≤ H ∧ sumW l 0 p.bs = p.ht) → htsF l H ps = false
  | [], _ => rfl
  | p :: r, h => by
    obtain ⟨h1, h2⟩ := h p (List.mem_cons_self ..)
    rw [htsF, if_neg (by rw [h2]; rintro (e | e); exact e rfl; omega)]
    exact htsF_false r fun q hq => h q (List.mem_cons_of_mem _ hq)
theorem pg_get {ps : List Pg} {ns : List (List Nat × Int)} (hd : ps.map pgD = ns.map nat2) {q : Nat} {p : Pg} (h : ps[q]? = some p) : ∃ s, ns[q]? = some s ∧ p.bs = nints s.1 := by
  have e : (ps.map pgD)[q]? = some (pgD p) := by rw [List.getElem?_map, h]; rfl
  rw [hd, List.getElem?_map] at e
  cases hq : ns[q]? with
  | none => rw [hq] at e; cases e
  | some s =>
    rw [hq] at e
    injection e with e
    exact ⟨s, rfl, (congrArg Prod.fst e).symm⟩
theorem chk_ok {l : List Bx} {H : Int} {ps : List Pg} {n : Nat} (hn : l.length = n) (hn6 : n ≤ 60) (hE : brkE l H = 0) (hd : ps.map pgD = (brkP l H).map nat2) : chkS n l H ps = [] := by
  obtain ⟨hO, hP, hh⟩ := on_ok hn hn6 hE hd
  have hfl := fl_nat hd
  have hlt := pages_lt hP
  have hpn : (pbOf l H).n = l.length := rfl
  have hA : allIn n ps := fun i hi => by
    rw [hfl]
    exact List.mem_map.2 ⟨i, pages_all hP i (by omega), rfl⟩
  have hc : cmpS n ps = [] := by unfold cmpS; rw [if_pos hO.r, if_pos hO.nd, if_pos hA]
  have h4 : ps.any (fun p => p.bs.isEmpty) = false := List.any_eq_false.2 fun p hp => by
    have := (hO.pg p hp).1
    simpa using this
  have h5 : htsF l H ps = false := htsF_false ps fun p hp => (hO.pg p hp).2
  have h7 : ascB l true (-1) (fl ps) = true := by
    rw [hfl]
    exact asc_nat (H := H) true _ _ (fun i hi => by have := hlt i hi; omega) ((pages_rise hP true).imp fun h => Nat.le_of_lt h) (fun i _ _ => by omega)
  have h7b : aheadF (onAll ps 0 (fun _ => 0)) 0 0 l = false := by
    rw [← ey_ahead hn hO.r hO.nd hA]
    refine Bool.eq_false_iff.2 fun h => ?_
    obtain ⟨q, p, hq, x, hx, h1, h2⟩ := (eyF_iff _ _).1 h
    have hxr := hO.r x (List.mem_flatMap.2 ⟨p, List.mem_of_getElem? hq, hx⟩)
    rcases h2 with h2 | ⟨q', p', hlt', hq', f, hf, h3, h4⟩
    · omega
    · obtain ⟨s, hs, hsb⟩ := pg_get hd hq
      obtain ⟨s', hs', hsb'⟩ := pg_get hd hq'
      rw [hsb] at hx
      rw [hsb'] at hf
      obtain ⟨i, hi, rfl⟩ := List.mem_map.1 hx
      obtain ⟨a, ha, rfl⟩ := List.mem_map.1 hf
      have hil := hlt i (List.mem_flatMap.2 ⟨s, List.mem_of_getElem? hs, hi⟩)
      have hal := hlt a (List.mem_flatMap.2 ⟨s', List.mem_of_getElem? hs', ha⟩)
      obtain ⟨bi, hbi⟩ := get_of (l := l) (k := i) (by omega)
      obtain ⟨ba, hba⟩ := get_of (l := l) (k := a) (by omega)
      rw [flB_of hbi] at h1
      rw [flB_of hba] at h3
      have hq1 := (List.getElem?_eq_some_iff.1 hs).1
      have hq2 := (List.getElem?_eq_some_iff.1 hs').1
      have hE := List.pairwise_iff_getElem.1 (pages_early hP) q' q hq2 hq1 hlt'
      rw [(List.getElem?_eq_some_iff.1 hs).2, (List.getElem?_eq_some_iff.1 hs').2] at hE
      have := hE a ha (by rw [pb_fl hba]; exact h3) i hi (by rw [pb_fl hbi]; exact h1)
      omega
  have h8 : sepF l (finF 0 (-1) l) ps = false := sepF_false ps fun p hp => by
    obtain ⟨q, hq⟩ := List.getElem?_of_mem hp
    obtain ⟨s, hs, hsb⟩ := pg_get hd hq
    have hm := List.mem_of_getElem? hs
    rw [hsb]
    exact torn_sep (H := H) (fun i hi => hlt i (List.mem_flatMap.2 ⟨s, hm, hi⟩)) (pages_torn hP s hm)
  unfold chkS chk4 chk5 chk6 chk7 chk8
  rw [if_pos hc, h4, h5, hO.asc, h7, h7b, h8]
  rfl
end Go.Proofs.YtpgpkgpiengmkaaDoor
