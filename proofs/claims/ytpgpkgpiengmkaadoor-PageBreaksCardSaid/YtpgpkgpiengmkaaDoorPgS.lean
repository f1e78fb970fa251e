/-
  Layer 40 (page): are pages equal? The chapter's.
-/
import Derived.Test.YtpgpkgpiengmkaaDoorPgB
namespace Go.Proofs.YtpgpkgpiengmkaaDoor
open Go.RowKit
set_option linter.unusedVariables false
set_option linter.unusedSimpArgs false
attribute [local go_sem] B_data B_size

theorem bl_post {r x : Bool} {w w' : World} (h : Hid (x = r)) (hb : Below w.heap.size w w') : BlPost x w (.returned (.bool r)) w' := ⟨by rw [h.out], hb⟩
theorem map_take_ne {α β : Type} {f : α → β} {a b : List α} {j : Nat} {x y : α} (hx : a[j]? = some x) (hy : b[j]? = some y) (h : f x ≠ f y) : a.map f ≠ b.map f := fun e => by
  have := congrArg (·[j]?) e
  simp only [List.getElem?_map, hx, hy, Option.map_some, Option.some.injEq] at this
  exact h this
theorem take_map {α β : Type} {f : α → β} {a b : List α} {j : Nat} {x y : α} (h : (a.take j).map f = (b.take j).map f) (hx : a[j]? = some x) (hy : b[j]? = some y) (he : f x = f y) : (a.take (j + 1)).map f = (b.take (j + 1)).map f := by
  rw [take_one hx, take_one hy, List.map_append, List.map_append, h]; simp [he]
set_option maxHeartbeats 8000000 in
set_option maxRecDepth 100000 in
theorem rsame_any (A E : Option Addr) (n c m d : Nat) (ps qs : List Pg) (w : World) (hp : PgAt w w.heap.size A n ps) (hq : PgAt w w.heap.size E m qs) (hn : n ≤ 1000000) (hm : m ≤ 1000000) (hb1 : ∀ x ∈ ps, x.nb ≤ 1000000) :
    Calls Tryd.prog 13 #[.slice A n c, .slice E m d] w (BlPost (decide (ps.map pgD = qs.map pgD)) w) := by
  have HL := Lib.hid hp.len
  have HM := Lib.hid hq.len
  by_cases hnm : n = m
  rotate_left
  · have HX : Hid (decide (ps.map pgD = qs.map pgD) = false) := by
      refine decide_eq_false fun e => hnm ?_
      have := congrArg List.length e
      rw [List.length_map, List.length_map, HL.out, HM.out] at this; exact this
    have z1 : ((n : Int) != (m : Int)) = true := by simp; omega
    go_enter Tryd.func13, Tryd.ntmps13
    go_wp2
    go_ret
    exact bl_post HX (Below.refl _ _)
  subst hnm
  have z1 : ((n : Int) != (n : Int)) = false := by simp
  go_enter Tryd.func13, Tryd.ntmps13
  go_wp2
  go_loopw [5] (fun i wr => ∃ j : Nat, j ≤ n ∧ i = .int .i64 j ∧ Below w.heap.size w wr ∧ Hid ((ps.take j).map pgD = (qs.take j).map pgD)) (fun i _ => n - (intOf i).toNat)
  case atStart => exact ⟨0, Nat.zero_le _, rfl, Below.refl _ _, rfl⟩
  case round =>
    obtain ⟨j, hj, rfl, hbw, hr⟩ := hrel
    by_cases hlt : j < n
    · obtain ⟨p, hpj⟩ := get_of (l := ps) (k := j) (by rw [HL.out]; exact hlt)
      obtain ⟨q, hqj⟩ := get_of (l := qs) (k := j) (by rw [HM.out]; exact hlt)
      have hpr := hp.below hbw
      have hqr := hq.below hbw
      obtain ⟨g, o, rfl, hg, c0, c1⟩ := hpr.at2 hpj
      obtain ⟨g2, o2, rfl, hg2, d0, d1⟩ := hqr.at2 hqj
      have hpb := hpr.bs p (List.mem_of_getElem? hpj)
      have hqb := hqr.bs q (List.mem_of_getElem? hqj)
      have HPL := Lib.hid hpb.ints_len
      have HQL := Lib.hid hqb.ints_len
      have hpn := hb1 p (List.mem_of_getElem? hpj)
      have i1 : (0 : Int) ≤ (j : Int) := by omega
      have i2 : (j : Int) < (n : Int) := by omega
      by_cases hht : p.ht = q.ht
      rotate_left
      · have HX : Hid (decide (ps.map pgD = qs.map pgD) = false) := decide_eq_false (map_take_ne hpj hqj fun e => hht (congrArg Prod.snd e))
        have q0 : (p.ht != q.ht) = true := by simpa using hht
        clear hht
        go_wp2
        go_quiet (fail)
        go_wp2
        go_ret
        exact bl_post HX (below_drewN hbw _)
      have q0 : (p.ht != q.ht) = false := by simpa using hht
      by_cases hnb : p.nb = q.nb
      rotate_left
      · have HX : Hid (decide (ps.map pgD = qs.map pgD) = false) := decide_eq_false (map_take_ne hpj hqj fun e => hnb (by
          have h := congrArg (fun x => x.1.length) e
          have h : p.bs.length = q.bs.length := h
          rw [HPL.out, HQL.out] at h; exact h))
        have q1 : ((p.nb : Int) != (q.nb : Int)) = true := by simp; omega
        clear hnb hht
        go_wp2
        go_quiet (fail)
        go_wp2
        go_ret
        exact bl_post HX (below_drewN hbw _)
      have q1 : ((p.nb : Int) != (q.nb : Int)) = false := by simp; omega
      have HHT := Lib.hid hht
      have HNB := Lib.hid hnb
      clear hht hnb
      go_wp2
      go_quiet (fail)
      go_wp2
      go_loopw [6] (fun i wr => ∃ k : Nat, k ≤ p.nb ∧ i = .int .i64 k ∧ Below w.heap.size w wr ∧ Hid (p.bs.take k = q.bs.take k)) (fun i _ => p.nb - (intOf i).toNat)
      case atStart => exact ⟨0, Nat.zero_le _, rfl, below_drewN hbw _, rfl⟩
      case round =>
        clear c0 c1 d0 d1 hpr hqr hpb hqb hbw
        obtain ⟨k, hk, rfl, hbw, hrk⟩ := hrel
        have hpr := hp.below hbw
        have hqr := hq.below hbw
        obtain ⟨g', o', hA1, _, c0, c1⟩ := hpr.at2 hpj
        injection hA1 with hA1
        injection hA1 with hA1 hA2 _
        subst hA1 hA2
        obtain ⟨g', o', hA1, _, d0, d1⟩ := hqr.at2 hqj
        injection hA1 with hA1
        injection hA1 with hA1 hA2 _
        subst hA1 hA2
        by_cases hka : k < p.nb
        · obtain ⟨x, hxk⟩ := get_of (l := p.bs) (k := k) (by rw [HPL.out]; exact hka)
          obtain ⟨y, hyk⟩ := get_of (l := q.bs) (k := k) (by rw [HQL.out, ← HNB.out]; exact hka)
          obtain ⟨g3, o3, hA3, _, e0⟩ := (hpr.bs p (List.mem_of_getElem? hpj)).int hxk
          obtain ⟨g4, o4, hA4, _, e1⟩ := (hqr.bs q (List.mem_of_getElem? hqj)).int hyk
          rw [hA3] at c0
          rw [hA4] at d0
          have j1 : (0 : Int) ≤ (k : Int) := by omega
          have j2 : (k : Int) < (p.nb : Int) := by omega
          have j3 : (k : Int) < (q.nb : Int) := by have := HNB.out; omega
          clear hA3 hA4
          by_cases hxy : x = y
          · have r0 : (x != y) = false := by simpa using hxy
            have HK : Hid (p.bs.take (k + 1) = q.bs.take (k + 1)) := by rw [take_one hxk, take_one hyk, hrk.out, hxy]; rfl
            clear hxy hrk
            go_wp2
            go_quiet (fail)
            go_wp2
            go_roundw
            case rel => exact ⟨k + 1, by omega, by go_num, below_drewN hbw _, HK⟩
            case measure => simp [intOf]; omega
          · have r0 : (x != y) = true := by simpa using hxy
            have HX : Hid (decide (ps.map pgD = qs.map pgD) = false) := decide_eq_false (map_take_ne hpj hqj fun e => hxy (by
              have h := congrArg (fun x => x.1[k]?) e
              have h : p.bs[k]? = q.bs[k]? := h
              rw [hxk, hyk] at h; injection h))
            clear hxy hrk
            go_wp2
            go_quiet (fail)
            go_wp2
            go_ret
            exact bl_post HX (below_drewN hbw _)
        · have HT : Hid ((ps.take (j + 1)).map pgD = (qs.take (j + 1)).map pgD) := take_map hr.out hpj hqj (by
            have h := hrk.out
            rw [List.take_of_length_le (by rw [HPL.out]; omega), List.take_of_length_le (by rw [HQL.out, ← HNB.out]; omega)] at h
            unfold pgD; rw [h, HHT.out])
          clear hr hrk
          go_wp2
          go_roundw
          case rel => exact ⟨j + 1, by omega, by go_num, hbw, HT⟩
          case measure => simp [intOf]; omega
    · have HX : Hid (decide (ps.map pgD = qs.map pgD) = true) := by
        have h := hr.out
        rw [List.take_of_length_le (by rw [HL.out]; omega), List.take_of_length_le (by rw [HM.out]; omega)] at h
        simpa [Hid] using h
      go_wp2
      go_ret
      exact bl_post HX hbw
end Go.Proofs.YtpgpkgpiengmkaaDoor
