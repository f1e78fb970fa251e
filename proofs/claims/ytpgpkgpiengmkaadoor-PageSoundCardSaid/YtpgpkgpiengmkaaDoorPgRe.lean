/-
  Layer 40 (page), plain: the chapter's order of the rules is the program's.
-/
import Derived.Test.YtpgpkgpiengmkaaDoorPgRd
namespace Go.Proofs.YtpgpkgpiengmkaaDoor
open Go.RowKit
set_option linter.unusedVariables false
set_option linter.unusedSimpArgs false

theorem sep_tor {l : List Bx} : ∀ (bs : List Int) (en : Int) (free loose : Bool), (∀ x ∈ bs, 0 ≤ x) → loose = (free || (decide (0 ≤ en) && !kpB l en)) →
    ∃ free' : Bool, torQ l en free bs = ((sepQ l en loose bs).1, free') ∧ (sepQ l en loose bs).2 = (free' || (decide (0 ≤ (sepQ l en loose bs).1) && !kpB l (sepQ l en loose bs).1))
  | [], en, free, loose, _, h => ⟨free, rfl, h⟩
  | x :: r, en, free, loose, hx, h => by
    rw [torQ, sepQ]
    split
    · exact sep_tor r en free loose (fun y hy => hx y (List.mem_cons_of_mem _ hy)) h
    · refine sep_tor r x _ _ (fun y hy => hx y (List.mem_cons_of_mem _ hy)) ?_
      rw [← h, decide_eq_true (hx x (List.mem_cons_self ..))]; simp
theorem tor_sep {l : List Bx} {fin : Int} {bs : List Int} (hx : ∀ x ∈ bs, 0 ≤ x) : torC l fin (torQ l (-1) false bs) = sepC l fin (sepQ l (-1) false bs) := by
  obtain ⟨f, e1, e2⟩ := sep_tor (l := l) bs (-1) false false hx (by simp)
  rw [e1]
  unfold torC sepC
  rw [e2]
  generalize (sepQ l (-1) false bs).1 = a
  cases decide (0 ≤ a) <;> cases kpB l a <;> cases a != fin <;> cases f <;> rfl
theorem torF_sepF {l : List Bx} {fin : Int} : ∀ ps : List Pg, (∀ x ∈ fl ps, 0 ≤ x) → torF l fin ps = sepF l fin ps
  | [], _ => rfl
  | p :: r, h => by
    have h1 : ∀ x ∈ p.bs, 0 ≤ x := fun x hx => h x (List.mem_flatMap.2 ⟨p, List.mem_cons_self .., hx⟩)
    have h2 : ∀ x ∈ fl r, 0 ≤ x := fun x hx => by
      obtain ⟨q, hq, hx⟩ := List.mem_flatMap.1 hx
      exact h x (List.mem_flatMap.2 ⟨q, List.mem_cons_of_mem _ hq, hx⟩)
    rw [torF, sepF, tor_sep h1, torF_sepF r h2]
theorem ey1_iff {l : List Bx} {mo : Int} : ∀ bs : List Int, ey1 l mo bs = true ↔ ∃ x ∈ bs, flB l x = false ∧ x < mo
  | [] => by simp [ey1]
  | x :: r => by
    rw [ey1]
    have ih := ey1_iff (l := l) (mo := mo) r
    by_cases h : flB l x = false ∧ x < mo
    · rw [if_pos (by simp [h])]
      exact ⟨fun _ => ⟨x, List.mem_cons_self .., h⟩, fun _ => rfl⟩
    · rw [if_neg (by simpa using h), ih]
      constructor
      · rintro ⟨y, hy, h2⟩; exact ⟨y, List.mem_cons_of_mem _ hy, h2⟩
      · rintro ⟨y, hy, h2⟩
        rcases List.mem_cons.1 hy with rfl | hy
        · exact absurd h2 h
        · exact ⟨y, hy, h2⟩
theorem ey2_lt {l : List Bx} {x : Int} : ∀ (bs : List Int) (mo : Int), x < ey2 l mo bs ↔ (x < mo ∨ ∃ f ∈ bs, flB l f = true ∧ x < f)
  | [], mo => by simp [ey2]
  | y :: r, mo => by
    rw [ey2, ey2_lt r]
    by_cases h : flB l y = true
    · by_cases h2 : mo < y
      · rw [if_pos (by simp [h, h2])]
        constructor
        · rintro (h3 | ⟨f, hf, h3⟩)
          · exact .inr ⟨y, List.mem_cons_self .., h, h3⟩
          · exact .inr ⟨f, List.mem_cons_of_mem _ hf, h3⟩
        · rintro (h3 | ⟨f, hf, h3, h4⟩)
          · left; omega
          · rcases List.mem_cons.1 hf with rfl | hf
            · exact .inl h4
            · exact .inr ⟨f, hf, h3, h4⟩
      · rw [if_neg (by simp [h]; omega)]
        constructor
        · rintro (h3 | ⟨f, hf, h3⟩)
          · exact .inl h3
          · exact .inr ⟨f, List.mem_cons_of_mem _ hf, h3⟩
        · rintro (h3 | ⟨f, hf, h3, h4⟩)
          · exact .inl h3
          · rcases List.mem_cons.1 hf with rfl | hf
            · left; omega
            · exact .inr ⟨f, hf, h3, h4⟩
    · rw [if_neg (by simp [h])]
      constructor
      · rintro (h3 | ⟨f, hf, h3⟩)
        · exact .inl h3
        · exact .inr ⟨f, List.mem_cons_of_mem _ hf, h3⟩
      · rintro (h3 | ⟨f, hf, h3, h4⟩)
        · exact .inl h3
        · rcases List.mem_cons.1 hf with rfl | hf
          · exact absurd h3 h
          · exact .inr ⟨f, hf, h3, h4⟩
theorem eyF_iff {l : List Bx} : ∀ (ps : List Pg) (mo : Int), eyF l mo ps = true ↔
    ∃ (q : Nat) (p : Pg), ps[q]? = some p ∧ ∃ x ∈ p.bs, flB l x = false ∧ (x < mo ∨ ∃ (q' : Nat) (p' : Pg), q' < q ∧ ps[q']? = some p' ∧ ∃ f ∈ p'.bs, flB l f = true ∧ x < f)
  | [], mo => by simp [eyF]
  | p :: r, mo => by
    rw [eyF]
    by_cases h : ey1 l mo p.bs = true
    · rw [if_pos h]
      obtain ⟨x, hx, h1, h2⟩ := (ey1_iff _).1 h
      exact ⟨fun _ => ⟨0, p, rfl, x, hx, h1, .inl h2⟩, fun _ => rfl⟩
    · rw [if_neg h, eyF_iff r]
      constructor
      · rintro ⟨q, pq, hq, x, hx, h1, h2⟩
        refine ⟨q + 1, pq, by simpa using hq, x, hx, h1, ?_⟩
        rcases h2 with h2 | ⟨q', p', hlt, hq', h3⟩
        · rcases (ey2_lt _ _).1 h2 with h2 | ⟨f, hf, h3, h4⟩
          · exact .inl h2
          · exact .inr ⟨0, p, Nat.succ_pos _, rfl, f, hf, h3, h4⟩
        · exact .inr ⟨q' + 1, p', by omega, by simpa using hq', h3⟩
      · rintro ⟨q, pq, hq, x, hx, h1, h2⟩
        rcases q with _ | q
        · have e : p = pq := by simpa using hq
          subst e
          rcases h2 with h2 | ⟨q', _, hlt, _⟩
          · exact absurd ((ey1_iff _).2 ⟨x, hx, h1, h2⟩) h
          · omega
        · refine ⟨q, pq, by simpa using hq, x, hx, h1, ?_⟩
          rcases h2 with h2 | ⟨q', p', hlt, hq', f, hf, h3, h4⟩
          · exact .inl ((ey2_lt _ _).2 (.inl h2))
          · rcases q' with _ | q'
            · have e : p = p' := by simpa using hq'
              subst e
              exact .inl ((ey2_lt _ _).2 (.inr ⟨f, hf, h3, h4⟩))
            · exact .inr ⟨q', p', by omega, by simpa using hq', f, hf, h3, h4⟩
theorem on_miss : ∀ (ps : List Pg) (k : Nat) (f : Nat → Int) (i : Nat), (i : Int) ∉ fl ps → onAll ps k f i = f i
  | [], k, f, i, _ => rfl
  | p :: r, k, f, i, h => by
    have h1 : (i : Int) ∉ p.bs := fun hm => h (List.mem_flatMap.2 ⟨p, List.mem_cons_self .., hm⟩)
    have h2 : (i : Int) ∉ fl r := fun hm => by
      obtain ⟨q, hq, hx⟩ := List.mem_flatMap.1 hm
      exact h (List.mem_flatMap.2 ⟨q, List.mem_cons_of_mem _ hq, hx⟩)
    rw [onAll, on_miss r _ _ _ h2]
    unfold onP; rw [if_neg h1]
theorem on_spec : ∀ (ps : List Pg) (k : Nat) (f : Nat → Int) (i q : Nat) (p : Pg), (fl ps).Nodup → ps[q]? = some p → (i : Int) ∈ p.bs → onAll ps k f i = ((k + q : Nat) : Int)
  | [], k, f, i, q, p, _, h, _ => by simp at h
  | p0 :: r, k, f, i, q, p, hn, h, hm => by
    have e : fl (p0 :: r) = p0.bs ++ fl r := rfl
    rw [e, List.nodup_append] at hn
    rw [onAll]
    rcases q with _ | q
    · have e : p0 = p := by simpa using h
      subst e
      rw [on_miss r _ _ _ (fun hf => hn.2.2 _ hm _ hf rfl)]
      unfold onP; rw [if_pos hm]; rfl
    · rw [on_spec r (k + 1) _ i q p hn.2.1 (by simpa using h) hm]
      omega
theorem ahead_iff {on : Nat → Int} : ∀ (bs : List Bx) (i : Nat) (la : Int), aheadF on i la bs = true ↔
    ∃ (j : Nat) (b : Bx), bs[j]? = some b ∧ b.fl = true ∧ (on (i + j) < la ∨ ∃ (j' : Nat) (b' : Bx), j' < j ∧ bs[j']? = some b' ∧ b'.fl = false ∧ on (i + j) < on (i + j'))
  | [], i, la => by simp [aheadF]
  | b :: r, i, la => by
    rw [aheadF]
    cases hf : b.fl
    · rw [if_neg (by decide), ahead_iff r]
      constructor
      · rintro ⟨j, c, hj, h1, h2⟩
        refine ⟨j + 1, c, by simpa using hj, h1, ?_⟩
        have e : i + (j + 1) = i + 1 + j := by omega
        rw [e]
        rcases h2 with h2 | ⟨j', b', hlt, hj', h3, h4⟩
        · by_cases hl : la < on i
          · rw [if_pos hl] at h2
            exact .inr ⟨0, b, Nat.succ_pos _, rfl, hf, h2⟩
          · rw [if_neg hl] at h2
            exact .inl h2
        · exact .inr ⟨j' + 1, b', by omega, by simpa using hj', h3, by rw [show i + (j' + 1) = i + 1 + j' by omega]; exact h4⟩
      · rintro ⟨j, c, hj, h1, h2⟩
        rcases j with _ | j
        · have e : b = c := by simpa using hj
          subst e; rw [hf] at h1; cases h1
        · refine ⟨j, c, by simpa using hj, h1, ?_⟩
          have e : i + (j + 1) = i + 1 + j := by omega
          rw [e] at h2
          rcases h2 with h2 | ⟨j', b', hlt, hj', h3, h4⟩
          · left; split <;> omega
          · rcases j' with _ | j'
            · left
              have e : i + 0 = i := rfl
              rw [e] at h4
              split <;> omega
            · exact .inr ⟨j', b', by omega, by simpa using hj', h3, by rw [show i + 1 + j' = i + (j' + 1) by omega]; exact h4⟩
    · rw [if_pos rfl]
      by_cases hl : on i < la
      · rw [if_pos hl]
        exact ⟨fun _ => ⟨0, b, rfl, hf, .inl hl⟩, fun _ => rfl⟩
      · rw [if_neg hl, ahead_iff r]
        constructor
        · rintro ⟨j, c, hj, h1, h2⟩
          refine ⟨j + 1, c, by simpa using hj, h1, ?_⟩
          have e : i + (j + 1) = i + 1 + j := by omega
          rw [e]
          rcases h2 with h2 | ⟨j', b', hlt, hj', h3, h4⟩
          · exact .inl h2
          · exact .inr ⟨j' + 1, b', by omega, by simpa using hj', h3, by rw [show i + (j' + 1) = i + 1 + j' by omega]; exact h4⟩
        · rintro ⟨j, c, hj, h1, h2⟩
          rcases j with _ | j
          · rcases h2 with h2 | ⟨j', b', hlt, _⟩
            · exact absurd h2 hl
            · omega
          · refine ⟨j, c, by simpa using hj, h1, ?_⟩
            have e : i + (j + 1) = i + 1 + j := by omega
            rw [e] at h2
            rcases h2 with h2 | ⟨j', b', hlt, hj', h3, h4⟩
            · exact .inl h2
            · rcases j' with _ | j'
              · have e : b = b' := by simpa using hj'
                subst e; rw [hf] at h3; cases h3
              · exact .inr ⟨j', b', by omega, by simpa using hj', h3, by rw [show i + 1 + j' = i + (j' + 1) by omega]; exact h4⟩
theorem on_any : ∀ (ps : List Pg) (x : Int), x ∈ fl ps → ∃ (q : Nat) (p : Pg), ps[q]? = some p ∧ x ∈ p.bs := fun ps x h => by
  obtain ⟨p, hp, hx⟩ := List.mem_flatMap.1 h
  obtain ⟨q, hq⟩ := List.getElem?_of_mem hp
  exact ⟨q, p, hq, hx⟩
theorem ey_ahead {n : Nat} {l : List Bx} {ps : List Pg} (hl : l.length = n) (hR : inR n ps) (hN : (fl ps).Nodup) (hA : allIn n ps) : eyF l (-1) ps = aheadF (onAll ps 0 (fun _ => 0)) 0 0 l := by
  rw [Bool.eq_iff_iff, eyF_iff, ahead_iff]
  constructor
  · rintro ⟨q, p, hq, x, hx, h1, h2⟩
    have hxr := hR x (List.mem_flatMap.2 ⟨p, List.mem_of_getElem? hq, hx⟩)
    rcases h2 with h2 | ⟨q', p', hlt, hq', f, hf, h3, h4⟩
    · omega
    · have hfr := hR f (List.mem_flatMap.2 ⟨p', List.mem_of_getElem? hq', hf⟩)
      obtain ⟨a, rfl⟩ : ∃ a : Nat, f = (a : Int) := ⟨f.toNat, by omega⟩
      obtain ⟨c, rfl⟩ : ∃ c : Nat, x = (c : Int) := ⟨x.toNat, by omega⟩
      obtain ⟨ba, hba⟩ := get_of (l := l) (k := a) (by omega)
      obtain ⟨bc, hbc⟩ := get_of (l := l) (k := c) (by omega)
      rw [flB_of hba] at h3
      rw [flB_of hbc] at h1
      refine ⟨a, ba, hba, h3, .inr ⟨c, bc, by omega, hbc, h1, ?_⟩⟩
      rw [Nat.zero_add, Nat.zero_add, on_spec ps 0 _ a q' p' hN hq' hf, on_spec ps 0 _ c q p hN hq hx]
      omega
  · rintro ⟨a, ba, hba, h3, h2⟩
    have ha := (List.getElem?_eq_some_iff.1 hba).1
    obtain ⟨q', p', hq', hf⟩ := on_any ps _ (hA a (by omega))
    rw [Nat.zero_add, on_spec ps 0 _ a q' p' hN hq' hf] at h2
    rcases h2 with h2 | ⟨c, bc, hlt, hbc, h1, h4⟩
    · omega
    · have hc := (List.getElem?_eq_some_iff.1 hbc).1
      obtain ⟨q, p, hq, hx⟩ := on_any ps _ (hA c (by omega))
      rw [show (0 : Nat) + c = c from Nat.zero_add c, on_spec ps 0 _ c q p hN hq hx] at h4
      exact ⟨q, p, hq, (c : Int), hx, by rw [flB_of hbc]; exact h1, .inr ⟨q', p', by omega, hq', (a : Int), hf, by rw [flB_of hba]; exact h3, by omega⟩⟩
theorem cmp_all {n : Nat} {ps : List Pg} (h : cmpS n ps = []) : inR n ps ∧ (fl ps).Nodup ∧ allIn n ps := by
  unfold cmpS at h
  split at h
  · split at h
    · split at h
      · exact ⟨by assumption, by assumption, by assumption⟩
      · cases h
    · cases h
  · cases h
theorem rck_chk {n : Nat} {l : List Bx} {H : Int} {ps : List Pg} (hl : l.length = n) : rckS n l H ps = chkS n l H ps := by
  unfold rckS chkS
  by_cases hc : cmpS n ps = []
  · rw [if_pos hc, if_pos hc]
    obtain ⟨hR, hN, hA⟩ := cmp_all hc
    have e6 : rck6 l ps = chk6 l ps := by
      unfold rck6 chk6 rck7 chk7 rck8 chk8
      rw [ey_ahead hl hR hN hA, torF_sepF ps (fun x hx => (hR x hx).1)]
    unfold rck4 chk4 chk5 hts2
    rw [← e6]
    by_cases h1 : ps.any (fun p => p.bs.isEmpty) = true
    · rw [if_pos h1, if_pos h1, if_neg (by decide)]
    · rw [if_neg h1, if_neg h1]
      by_cases h2 : htsF l H ps = true
      · rw [if_pos h2, if_pos h2, if_neg (by decide)]
      · rw [if_neg h2, if_neg h2, if_pos rfl]
  · rw [if_neg hc, if_neg hc]
end Go.Proofs.YtpgpkgpiengmkaaDoor
