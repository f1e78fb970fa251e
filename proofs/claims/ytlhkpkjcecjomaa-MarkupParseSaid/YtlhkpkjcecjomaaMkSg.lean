/-
  Layer 33 (markup): the reader of the chapter: node.
-/
import Derived.Test.YtlhkpkjcecjomaaMkSf
import Derived.Deep.RegionLaw
import Derived.Deep.AppendLies
namespace Go.Proofs.Ytlhkpkjcecjomaa
open Go.RowKit
set_option linter.unusedVariables false
set_option linter.unusedSimpArgs false
attribute [local go_sem] B_data B_size
attribute [local go_sem ↓] Go.wp_at_zero Go.wp_at_succ

theorem pN_rest (f : Nat) (kid : Bool) (l : List UInt8) (h : l.head? = some 60) : pN (f + 1) kid l = match pName (l.drop 1) with
    | .error e => .error e
    | .ok (nm, r1) => bindR (pAttrs (r1.length + 1) [] r1) (pRest f nm) := by
  rw [pN, if_pos h]
  cases pName (l.drop 1) with
  | error e => rfl
  | ok y =>
    obtain ⟨nm, r1⟩ := y
    simp only
    cases pAttrs (r1.length + 1) [] r1 <;> rfl
/-- what stands behind the kids -/
def pTail (nm : List UInt8) (ats : List (List UInt8 × List UInt8)) (ks : List Nd) (r4 : List UInt8) : Except Int (Nd × List UInt8) := match pExp ([60, 47] ++ nm ++ [62]) r4 with
  | .error e => .error e
  | .ok r5 => .ok (.mk nm [] ats ks, r5)
theorem pRest_kids {f : Nat} {nm : List UInt8} {ats : List (List UInt8 × List UInt8)} {r2 r3 : List UInt8} (he : emptyB nm = false) (h : pExp [62] r2 = .ok r3) : pRest f nm ats r2 = bindR (pKs f r3) (pTail nm ats) := by
  rw [pRest, if_neg (by simp [he]), h]
  simp only
  cases pKs f r3 <;> rfl
set_option maxHeartbeats 1000000 in
/-- behind an error nothing is read, however long the text is -/
theorem want_errL (rb : Nat) (s : ByteArray) (k : Nat) (x : Int) (t : List UInt8) (w : World) (h : Ry w rb s k x) (hx : x ≠ 0) :
    Calls Try.prog 56 #[.pointer (some ⟨rb, 0, none⟩), .string (B t)] w (ErPost rb s k x w) := by
  have c2 := h.c2
  have z : (x == 0) = false := by simpa using hx
  clear hx
  go_enter Try.func56, Try.ntmps56
  go_wp2
  go_loopw [4] (fun i wr => i = .int .i64 0 ∧ wr = w) (fun _ _ => 0)
  case atStart => exact ⟨rfl, rfl⟩
  case round =>
    obtain ⟨rfl, rfl⟩ := hrel
    by_cases hl : 0 < t.length
    · have d0 : decide ((0 : Int) < (t.length : Int)) = true := by simp only [decide_eq_true_eq]; omega
      have d9 : decide (0 < t.length) = true := by simpa using hl
      go_wp2
      go_end0
      exact ⟨rfl, grown_refl _ _, h⟩
    · have d0 : decide ((0 : Int) < (t.length : Int)) = false := by simp only [decide_eq_false_iff_not]; omega
      have d9 : decide (0 < t.length) = false := by simpa using hl
      go_wp2
      go_end0
      exact ⟨rfl, grown_refl _ _, h⟩
def WgPost (rb : Nat) (s : ByteArray) (k : Nat) (x : Int) (t : List UInt8) (w : World) (e : Ending) (w' : World) : Prop := e = .returned (.tuple #[]) ∧ w.grownBy w' (some rb) ∧ ∃ (k' : Nat) (x' : Int), k' ≤ s.size ∧ Ry w' rb s k' x' ∧ (x ≠ 0 → x' = x) ∧ (x = 0 → match pExp t (s.toList.drop k) with
  | .error y => x' = y
  | .ok l => x' = 0 ∧ s.toList.drop k' = l)
/-- want, whatever error there is -/
theorem want_gen (rb : Nat) (s : ByteArray) (k : Nat) (x : Int) (t : List UInt8) (w : World) (h : Ry w rb s k x) (hk : k ≤ s.size) (hs : s.size ≤ 1000000000) (ht : x = 0 → t.length ≤ 1000000000) :
    Calls Try.prog 56 #[.pointer (some ⟨rb, 0, none⟩), .string (B t)] w (WgPost rb s k x t w) := by
  by_cases hx : x = 0
  · subst hx
    refine (want_any rb s k t w h hk hs (ht rfl)).mono ?_
    rintro e w' ⟨he, hg, k', x', hk', hR, hm⟩
    exact ⟨he, hg, k', x', hk', hR, fun h => absurd rfl h, fun _ => hm⟩
  · refine (want_errL rb s k x t w h hx).mono ?_
    rintro e w' ⟨he, hg, hR⟩
    exact ⟨he, hg, k, x, hk, hR, fun _ => rfl, fun h => absurd h hx⟩
/-- the rounds that the chapter's reader has left, at most -/
def lefty (s : ByteArray) (w : World) (rb : Nat) : Nat := match w.cell? ⟨rb, 2, none⟩ with
  | some (.int _ n) => if n = 0 then s.size - rat w rb + 1 else 0
  | _ => 0
theorem lefty_at {s : ByteArray} {w : World} {rb k : Nat} {x : Int} (h : Ry w rb s k x) : lefty s w rb = if x = 0 then s.size - k + 1 else 0 := by
  unfold lefty
  rw [h.c2, ratY h]
theorem lefty_lt {s : ByteArray} {w w' : World} {rb k k' : Nat} {x' : Int} (h : Ry w rb s k 0) (h' : Ry w' rb s k' x') (hk : k < s.size) (hm : x' = 0 → k < k') : lefty s w' rb < lefty s w rb := by
  rw [lefty_at h, lefty_at h', if_pos rfl]
  by_cases hx : x' = 0
  · have := hm hx
    rw [if_pos hx]; omega
  · rw [if_neg hx]; omega
/-- what is left to be shown at the end of a node -/
def FinN (s : ByteArray) (R : Except Int (Nd × List UInt8)) (x : Int) (k : Nat) (n : Nd) : Prop := (x ≠ 0 ∧ R = .error x) ∨ (x = 0 ∧ R = .ok (n, s.toList.drop k))
theorem FinN.post {s : ByteArray} {R : Except Int (Nd × List UInt8)} {x : Int} {k : Nat} {n : Nd} {rb : Nat} {w w' : World} {c : NC} (h : FinN s R x k n) (hg : w.grownBy w' (some rb)) (hk : k ≤ s.size) (hR : Ry w' rb s k x) (hn : NdAt w' (fun b => w.heap.size ≤ b ∧ b < w'.heap.size) n c) :
    NzPost rb s R w (.returned (.agg #[.string (B c.nm), .string (B c.tx), .slice c.A c.na c.ca, .slice c.K c.nk c.ck])) w' := by
  refine ⟨c, rfl, hg, k, x, hk, hR, ?_⟩
  rcases h with ⟨_, h⟩ | ⟨h0, h⟩
  · rw [h]
  · rw [h]; exact ⟨h0, hn, rfl⟩
/-- the attributes so far, and what that says of the whole -/
def StA (s : ByteArray) (f : Nat) (u : List UInt8) (R : Except Int (Nd × List UInt8)) (j : Nat) (x : Int) (ats : List (List UInt8 × List UInt8)) : Prop :=
  (x ≠ 0 ∧ R = .error x) ∨ (x = 0 ∧ ats.length ≤ j ∧ ∃ g, s.size - j < g ∧ R = bindR (exA ats (pAttrs g (ats.map (·.1)) (s.toList.drop j))) (pRest f u))
/-- one attribute more -/
theorem StA.step {s : ByteArray} {f : Nat} {u : List UInt8} {R : Except Int (Nd × List UInt8)} {j k' : Nat} {ats : List (List UInt8 × List UInt8)} {p : List UInt8 × List UInt8} {x' : Int} (h : StA s f u R j 0 ats) (hj : j < s.size) (h32 : s[j] = 32) (hk' : k' ≤ s.size)
    (hm : match pNew (ats.map (·.1)) (pAttr (s.toList.drop (j + 1))) with
      | .error y => x' = y
      | .ok (q, l) => x' = 0 ∧ p = q ∧ s.toList.drop k' = l) : StA s f u R k' x' (ats ++ [p]) ∧ (x' = 0 → j < k') := by
  rcases h with ⟨h, _⟩ | ⟨_, hal, g, hg, hR⟩
  · exact absurd rfl h
  obtain ⟨g, rfl⟩ : ∃ g', g = g' + 1 := ⟨g - 1, by omega⟩
  have hh : (s.toList.drop j).head? = some 32 := by rw [drop_head s j hj, h32]
  rw [pAttrs, if_pos hh, List.drop_drop] at hR
  cases ha : pAttr (s.toList.drop (j + 1)) with
  | error y =>
    rw [ha] at hm hR
    simp only [pNew] at hm
    subst hm
    have := pAttr_err ha
    exact ⟨.inl ⟨this, hR⟩, fun h => absurd h this⟩
  | ok z =>
    obtain ⟨q, l⟩ := z
    rw [ha] at hm hR
    simp only [pNew] at hm
    simp only at hR
    by_cases hq : q.1 ∈ ats.map (·.1)
    · rw [if_pos hq] at hm hR
      have hm : x' = 7 := hm
      subst hm
      exact ⟨.inl ⟨by omega, hR⟩, fun h => absurd h (by omega)⟩
    · rw [if_neg hq] at hm hR
      obtain ⟨h0, rfl, hd⟩ : x' = 0 ∧ p = q ∧ s.toList.drop k' = l := hm
      have hlen : l.length + 1 ≤ s.size - (j + 1) := by
        obtain ⟨_, _, e⟩ := pAttr_some ha
        have e := congrArg List.length e
        rw [drop_len, List.length_append] at e
        simp only [mkA, List.length_append, List.length_cons, List.length_nil] at e
        omega
      have hkk : j < k' := by
        rw [← hd, drop_len] at hlen
        omega
      refine ⟨.inr ⟨h0, by rw [List.length_append]; show ats.length + 1 ≤ k'; omega, g, by omega, ?_⟩, fun _ => hkk⟩
      rw [hR, List.map_append, hd]
      congr 1
      exact exA_snoc
theorem StA.stop {s : ByteArray} {f : Nat} {u : List UInt8} {R : Except Int (Nd × List UInt8)} {j : Nat} {x : Int} {ats : List (List UInt8 × List UInt8)} (h : StA s f u R j x ats) (hb : x = 0 → ¬ [32] <+: s.toList.drop j) : (x ≠ 0 ∧ R = .error x) ∨ (x = 0 ∧ R = pRest f u ats (s.toList.drop j)) := by
  rcases h with h | ⟨h0, _, g, hg, hR⟩
  · exact .inl h
  · refine .inr ⟨h0, ?_⟩
    obtain ⟨g, rfl⟩ : ∃ g', g = g' + 1 := ⟨g - 1, by omega⟩
    have hh : ¬ (s.toList.drop j).head? = some 32 := by
      intro h
      refine hb h0 ?_
      cases hd : s.toList.drop j with
      | nil => rw [hd] at h; cases h
      | cons a r =>
        rw [hd] at h
        have : a = 32 := Option.some.inj h
        subst this
        exact ⟨r, rfl⟩
    rw [hR, pAttrs, if_neg hh]
    simp [exA, bindR]
/-- the kids so far, and what that says of the whole -/
def StK (s : ByteArray) (f : Nat) (u : List UInt8) (ats : List (List UInt8 × List UInt8)) (R : Except Int (Nd × List UInt8)) (j : Nat) (x : Int) (ks : List Nd) : Prop :=
  (x ≠ 0 ∧ R = .error x) ∨ (x = 0 ∧ ks.length ≤ j ∧ ∃ g, 2 * (s.size - j) + 2 ≤ g ∧ g ≤ f ∧ R = bindR (exA ks (pKs g (s.toList.drop j))) (pTail u ats))
end Go.Proofs.Ytlhkpkjcecjomaa
