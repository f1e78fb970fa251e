/-
  Layer 48 (graph), plain: a chain of rules: what its calls make (printed by gen_grza.py).
-/
import Derived.Test.YtbikldmhfaecpaaGrZ
namespace Go.Proofs.Ytbikldmhfaecpaa
set_option linter.unusedVariables false
set_option linter.unusedSimpArgs false
set_option maxRecDepth 100000

/-- the rule b, not called since a's value is the same -/
def base0 (x : UInt8) (S : GS) : ES × Res := ({ s := endedX (begunX S [98]) [98], known := [([98], ([x], 0))] }, ([x], 0))
def BaseZ (a : Nm) (x : UInt8) (S : GS) : Prop := getV S.vals [97] = some a ∧ getV S.vals [98] = none ∧ (∃ r, findR S.rules [98] = some r ∧ r.busy = false ∧ r.needs = [[97]]) ∧ ∃ r, findR (begunX S [98]).rules [98] = some r ∧ r.called = true ∧ r.inn = [a] ∧ r.val = [x] ∧ r.e = 0
theorem callX_sameC {S : GS} {n : Nm} {inn : List Nm} {r : RuleS} (hr : findR S.rules n = some r) (hc : r.called = true) (h : inn = r.inn) : callX S n inn = (S, (r.val, r.e)) := by
  simp only [callX, hr, hc, h, and_self, if_true]
theorem base0_eval {a : Nm} {x : UInt8} (S : GS) (f : Nat) (h : BaseZ a x S) : evalX (f + 2) ⟨S, []⟩ (nmC 1) = base0 x S := by
  obtain ⟨h1, h2, ⟨r, hr, hb, hn⟩, r', hr', hc', hi', hv', he'⟩ := h
  have hg : evalX (f + 1) { (⟨S, []⟩ : ES) with s := begunX S [98] } [97] = (⟨begunX S [98], []⟩, (a, 0)) := by
    have h1' : getV (begunX S [98]).vals [97] = some a := h1
    simp only [evalX, h1']
  have h := evalX_step (f := f + 1) (E := ⟨S, []⟩) (n := [98]) h2 hr rfl hb hn hg
  have hc := callX_sameC (S := begunX S [98]) (n := [98]) (inn := [a]) hr' hc' (by rw [hi'])
  rw [hv', he'] at hc
  show evalX (f + 1 + 1) ⟨S, []⟩ [98] = _
  rw [h, hc]
  rfl
theorem noneC (a : Nm) (x : UInt8) : ∀ n, 1 ≤ n → n ≤ 20 → findR (restC n a x n (n + 1)).rules [97] = none
  | 0, h, _ => absurd h (by omega)
  | 1, _, _ => by kernel_rfl
  | 2, _, _ => by kernel_rfl
  | 3, _, _ => by kernel_rfl
  | 4, _, _ => by kernel_rfl
  | 5, _, _ => by kernel_rfl
  | 6, _, _ => by kernel_rfl
  | 7, _, _ => by kernel_rfl
  | 8, _, _ => by kernel_rfl
  | 9, _, _ => by kernel_rfl
  | 10, _, _ => by kernel_rfl
  | 11, _, _ => by kernel_rfl
  | 12, _, _ => by kernel_rfl
  | 13, _, _ => by kernel_rfl
  | 14, _, _ => by kernel_rfl
  | 15, _, _ => by kernel_rfl
  | 16, _, _ => by kernel_rfl
  | 17, _, _ => by kernel_rfl
  | 18, _, _ => by kernel_rfl
  | 19, _, _ => by kernel_rfl
  | 20, _, _ => by kernel_rfl
  | n + 21, _, h => absurd h (by omega)
theorem cycZ (a : Nm) (x : UInt8) : ∀ n, 1 ≤ n → n ≤ 20 → (cyc (restC n a x n (n + 1)).rules (n + 1) [] [] (nmC n)).1 = false
  | 0, h, _ => absurd h (by omega)
  | 1, _, _ => by kernel_rfl
  | 2, _, _ => by kernel_rfl
  | 3, _, _ => by kernel_rfl
  | 4, _, _ => by kernel_rfl
  | 5, _, _ => by kernel_rfl
  | 6, _, _ => by kernel_rfl
  | 7, _, _ => by kernel_rfl
  | 8, _, _ => by kernel_rfl
  | 9, _, _ => by kernel_rfl
  | 10, _, _ => by kernel_rfl
  | 11, _, _ => by kernel_rfl
  | 12, _, _ => by kernel_rfl
  | 13, _, _ => by kernel_rfl
  | 14, _, _ => by kernel_rfl
  | 15, _, _ => by kernel_rfl
  | 16, _, _ => by kernel_rfl
  | 17, _, _ => by kernel_rfl
  | 18, _, _ => by kernel_rfl
  | 19, _, _ => by kernel_rfl
  | 20, _, _ => by kernel_rfl
  | n + 21, _, h => absurd h (by omega)
theorem againC0 (a : Nm) : ∀ n, 1 ≤ n → n ≤ 20 → ((upE (base0 48) (n - 1) (restC n a 48 n (n + 1))).2, (upE (base0 48) (n - 1) (restC n a 48 n (n + 1))).1.s.runs, ((upE (base0 48) (n - 1) (restC n a 48 n (n + 1))).1.s.rules.filter (·.stale)).length) = (([48], 0), n, 0)
  | 0, h, _ => absurd h (by omega)
  | 1, _, _ => by kernel_rfl
  | 2, _, _ => by kernel_rfl
  | 3, _, _ => by kernel_rfl
  | 4, _, _ => by kernel_rfl
  | 5, _, _ => by kernel_rfl
  | 6, _, _ => by kernel_rfl
  | 7, _, _ => by kernel_rfl
  | 8, _, _ => by kernel_rfl
  | 9, _, _ => by kernel_rfl
  | 10, _, _ => by kernel_rfl
  | 11, _, _ => by kernel_rfl
  | 12, _, _ => by kernel_rfl
  | 13, _, _ => by kernel_rfl
  | 14, _, _ => by kernel_rfl
  | 15, _, _ => by kernel_rfl
  | 16, _, _ => by kernel_rfl
  | 17, _, _ => by kernel_rfl
  | 18, _, _ => by kernel_rfl
  | 19, _, _ => by kernel_rfl
  | 20, _, _ => by kernel_rfl
  | n + 21, _, h => absurd h (by omega)
theorem checkZ0 (a : Nm) : ∀ n, 1 ≤ n → n ≤ 20 → chkB (base0 48) (n - 1) (restC n a 48 n (n + 1)) = true
  | 0, h, _ => absurd h (by omega)
  | 1, _, _ => by kernel_rfl
  | 2, _, _ => by kernel_rfl
  | 3, _, _ => by kernel_rfl
  | 4, _, _ => by kernel_rfl
  | 5, _, _ => by kernel_rfl
  | 6, _, _ => by kernel_rfl
  | 7, _, _ => by kernel_rfl
  | 8, _, _ => by kernel_rfl
  | 9, _, _ => by kernel_rfl
  | 10, _, _ => by kernel_rfl
  | 11, _, _ => by kernel_rfl
  | 12, _, _ => by kernel_rfl
  | 13, _, _ => by kernel_rfl
  | 14, _, _ => by kernel_rfl
  | 15, _, _ => by kernel_rfl
  | 16, _, _ => by kernel_rfl
  | 17, _, _ => by kernel_rfl
  | 18, _, _ => by kernel_rfl
  | 19, _, _ => by kernel_rfl
  | 20, _, _ => by kernel_rfl
  | n + 21, _, h => absurd h (by omega)
theorem againC1 (a : Nm) : ∀ n, 1 ≤ n → n ≤ 20 → ((upE (base0 49) (n - 1) (restC n a 49 n (n + 1))).2, (upE (base0 49) (n - 1) (restC n a 49 n (n + 1))).1.s.runs, ((upE (base0 49) (n - 1) (restC n a 49 n (n + 1))).1.s.rules.filter (·.stale)).length) = (([49], 0), n, 0)
  | 0, h, _ => absurd h (by omega)
  | 1, _, _ => by kernel_rfl
  | 2, _, _ => by kernel_rfl
  | 3, _, _ => by kernel_rfl
  | 4, _, _ => by kernel_rfl
  | 5, _, _ => by kernel_rfl
  | 6, _, _ => by kernel_rfl
  | 7, _, _ => by kernel_rfl
  | 8, _, _ => by kernel_rfl
  | 9, _, _ => by kernel_rfl
  | 10, _, _ => by kernel_rfl
  | 11, _, _ => by kernel_rfl
  | 12, _, _ => by kernel_rfl
  | 13, _, _ => by kernel_rfl
  | 14, _, _ => by kernel_rfl
  | 15, _, _ => by kernel_rfl
  | 16, _, _ => by kernel_rfl
  | 17, _, _ => by kernel_rfl
  | 18, _, _ => by kernel_rfl
  | 19, _, _ => by kernel_rfl
  | 20, _, _ => by kernel_rfl
  | n + 21, _, h => absurd h (by omega)
theorem checkZ1 (a : Nm) : ∀ n, 1 ≤ n → n ≤ 20 → chkB (base0 49) (n - 1) (restC n a 49 n (n + 1)) = true
  | 0, h, _ => absurd h (by omega)
  | 1, _, _ => by kernel_rfl
  | 2, _, _ => by kernel_rfl
  | 3, _, _ => by kernel_rfl
  | 4, _, _ => by kernel_rfl
  | 5, _, _ => by kernel_rfl
  | 6, _, _ => by kernel_rfl
  | 7, _, _ => by kernel_rfl
  | 8, _, _ => by kernel_rfl
  | 9, _, _ => by kernel_rfl
  | 10, _, _ => by kernel_rfl
  | 11, _, _ => by kernel_rfl
  | 12, _, _ => by kernel_rfl
  | 13, _, _ => by kernel_rfl
  | 14, _, _ => by kernel_rfl
  | 15, _, _ => by kernel_rfl
  | 16, _, _ => by kernel_rfl
  | 17, _, _ => by kernel_rfl
  | 18, _, _ => by kernel_rfl
  | 19, _, _ => by kernel_rfl
  | 20, _, _ => by kernel_rfl
  | n + 21, _, h => absurd h (by omega)
theorem againC2 (a : Nm) : ∀ n, 1 ≤ n → n ≤ 20 → ((upE (base0 50) (n - 1) (restC n a 50 n (n + 1))).2, (upE (base0 50) (n - 1) (restC n a 50 n (n + 1))).1.s.runs, ((upE (base0 50) (n - 1) (restC n a 50 n (n + 1))).1.s.rules.filter (·.stale)).length) = (([50], 0), n, 0)
  | 0, h, _ => absurd h (by omega)
  | 1, _, _ => by kernel_rfl
  | 2, _, _ => by kernel_rfl
  | 3, _, _ => by kernel_rfl
  | 4, _, _ => by kernel_rfl
  | 5, _, _ => by kernel_rfl
  | 6, _, _ => by kernel_rfl
  | 7, _, _ => by kernel_rfl
  | 8, _, _ => by kernel_rfl
  | 9, _, _ => by kernel_rfl
  | 10, _, _ => by kernel_rfl
  | 11, _, _ => by kernel_rfl
  | 12, _, _ => by kernel_rfl
  | 13, _, _ => by kernel_rfl
  | 14, _, _ => by kernel_rfl
  | 15, _, _ => by kernel_rfl
  | 16, _, _ => by kernel_rfl
  | 17, _, _ => by kernel_rfl
  | 18, _, _ => by kernel_rfl
  | 19, _, _ => by kernel_rfl
  | 20, _, _ => by kernel_rfl
  | n + 21, _, h => absurd h (by omega)
theorem checkZ2 (a : Nm) : ∀ n, 1 ≤ n → n ≤ 20 → chkB (base0 50) (n - 1) (restC n a 50 n (n + 1)) = true
  | 0, h, _ => absurd h (by omega)
  | 1, _, _ => by kernel_rfl
  | 2, _, _ => by kernel_rfl
  | 3, _, _ => by kernel_rfl
  | 4, _, _ => by kernel_rfl
  | 5, _, _ => by kernel_rfl
  | 6, _, _ => by kernel_rfl
  | 7, _, _ => by kernel_rfl
  | 8, _, _ => by kernel_rfl
  | 9, _, _ => by kernel_rfl
  | 10, _, _ => by kernel_rfl
  | 11, _, _ => by kernel_rfl
  | 12, _, _ => by kernel_rfl
  | 13, _, _ => by kernel_rfl
  | 14, _, _ => by kernel_rfl
  | 15, _, _ => by kernel_rfl
  | 16, _, _ => by kernel_rfl
  | 17, _, _ => by kernel_rfl
  | 18, _, _ => by kernel_rfl
  | 19, _, _ => by kernel_rfl
  | 20, _, _ => by kernel_rfl
  | n + 21, _, h => absurd h (by omega)
theorem endZ (a : Nm) (x : UInt8) : ∀ n, 1 ≤ n → n ≤ 20 → BaseZ a x (endS (n - 1) (restC n a x n (n + 1)))
  | 0, h, _ => absurd h (by omega)
  | 1, _, _ => ⟨by kernel_rfl, by kernel_rfl, ⟨⟨[98], [[97]], 1, true, [a], [x], 0, false, false⟩, by kernel_rfl, rfl, rfl⟩, ⟨⟨[98], [[97]], 1, true, [a], [x], 0, false, true⟩, by kernel_rfl, rfl, rfl, rfl, rfl⟩⟩
  | 2, _, _ => ⟨by kernel_rfl, by kernel_rfl, ⟨⟨[98], [[97]], 1, true, [a], [x], 0, false, false⟩, by kernel_rfl, rfl, rfl⟩, ⟨⟨[98], [[97]], 1, true, [a], [x], 0, false, true⟩, by kernel_rfl, rfl, rfl, rfl, rfl⟩⟩
  | 3, _, _ => ⟨by kernel_rfl, by kernel_rfl, ⟨⟨[98], [[97]], 1, true, [a], [x], 0, false, false⟩, by kernel_rfl, rfl, rfl⟩, ⟨⟨[98], [[97]], 1, true, [a], [x], 0, false, true⟩, by kernel_rfl, rfl, rfl, rfl, rfl⟩⟩
  | 4, _, _ => ⟨by kernel_rfl, by kernel_rfl, ⟨⟨[98], [[97]], 1, true, [a], [x], 0, false, false⟩, by kernel_rfl, rfl, rfl⟩, ⟨⟨[98], [[97]], 1, true, [a], [x], 0, false, true⟩, by kernel_rfl, rfl, rfl, rfl, rfl⟩⟩
  | 5, _, _ => ⟨by kernel_rfl, by kernel_rfl, ⟨⟨[98], [[97]], 1, true, [a], [x], 0, false, false⟩, by kernel_rfl, rfl, rfl⟩, ⟨⟨[98], [[97]], 1, true, [a], [x], 0, false, true⟩, by kernel_rfl, rfl, rfl, rfl, rfl⟩⟩
  | 6, _, _ => ⟨by kernel_rfl, by kernel_rfl, ⟨⟨[98], [[97]], 1, true, [a], [x], 0, false, false⟩, by kernel_rfl, rfl, rfl⟩, ⟨⟨[98], [[97]], 1, true, [a], [x], 0, false, true⟩, by kernel_rfl, rfl, rfl, rfl, rfl⟩⟩
  | 7, _, _ => ⟨by kernel_rfl, by kernel_rfl, ⟨⟨[98], [[97]], 1, true, [a], [x], 0, false, false⟩, by kernel_rfl, rfl, rfl⟩, ⟨⟨[98], [[97]], 1, true, [a], [x], 0, false, true⟩, by kernel_rfl, rfl, rfl, rfl, rfl⟩⟩
  | 8, _, _ => ⟨by kernel_rfl, by kernel_rfl, ⟨⟨[98], [[97]], 1, true, [a], [x], 0, false, false⟩, by kernel_rfl, rfl, rfl⟩, ⟨⟨[98], [[97]], 1, true, [a], [x], 0, false, true⟩, by kernel_rfl, rfl, rfl, rfl, rfl⟩⟩
  | 9, _, _ => ⟨by kernel_rfl, by kernel_rfl, ⟨⟨[98], [[97]], 1, true, [a], [x], 0, false, false⟩, by kernel_rfl, rfl, rfl⟩, ⟨⟨[98], [[97]], 1, true, [a], [x], 0, false, true⟩, by kernel_rfl, rfl, rfl, rfl, rfl⟩⟩
  | 10, _, _ => ⟨by kernel_rfl, by kernel_rfl, ⟨⟨[98], [[97]], 1, true, [a], [x], 0, false, false⟩, by kernel_rfl, rfl, rfl⟩, ⟨⟨[98], [[97]], 1, true, [a], [x], 0, false, true⟩, by kernel_rfl, rfl, rfl, rfl, rfl⟩⟩
  | 11, _, _ => ⟨by kernel_rfl, by kernel_rfl, ⟨⟨[98], [[97]], 1, true, [a], [x], 0, false, false⟩, by kernel_rfl, rfl, rfl⟩, ⟨⟨[98], [[97]], 1, true, [a], [x], 0, false, true⟩, by kernel_rfl, rfl, rfl, rfl, rfl⟩⟩
  | 12, _, _ => ⟨by kernel_rfl, by kernel_rfl, ⟨⟨[98], [[97]], 1, true, [a], [x], 0, false, false⟩, by kernel_rfl, rfl, rfl⟩, ⟨⟨[98], [[97]], 1, true, [a], [x], 0, false, true⟩, by kernel_rfl, rfl, rfl, rfl, rfl⟩⟩
  | 13, _, _ => ⟨by kernel_rfl, by kernel_rfl, ⟨⟨[98], [[97]], 1, true, [a], [x], 0, false, false⟩, by kernel_rfl, rfl, rfl⟩, ⟨⟨[98], [[97]], 1, true, [a], [x], 0, false, true⟩, by kernel_rfl, rfl, rfl, rfl, rfl⟩⟩
  | 14, _, _ => ⟨by kernel_rfl, by kernel_rfl, ⟨⟨[98], [[97]], 1, true, [a], [x], 0, false, false⟩, by kernel_rfl, rfl, rfl⟩, ⟨⟨[98], [[97]], 1, true, [a], [x], 0, false, true⟩, by kernel_rfl, rfl, rfl, rfl, rfl⟩⟩
  | 15, _, _ => ⟨by kernel_rfl, by kernel_rfl, ⟨⟨[98], [[97]], 1, true, [a], [x], 0, false, false⟩, by kernel_rfl, rfl, rfl⟩, ⟨⟨[98], [[97]], 1, true, [a], [x], 0, false, true⟩, by kernel_rfl, rfl, rfl, rfl, rfl⟩⟩
  | 16, _, _ => ⟨by kernel_rfl, by kernel_rfl, ⟨⟨[98], [[97]], 1, true, [a], [x], 0, false, false⟩, by kernel_rfl, rfl, rfl⟩, ⟨⟨[98], [[97]], 1, true, [a], [x], 0, false, true⟩, by kernel_rfl, rfl, rfl, rfl, rfl⟩⟩
  | 17, _, _ => ⟨by kernel_rfl, by kernel_rfl, ⟨⟨[98], [[97]], 1, true, [a], [x], 0, false, false⟩, by kernel_rfl, rfl, rfl⟩, ⟨⟨[98], [[97]], 1, true, [a], [x], 0, false, true⟩, by kernel_rfl, rfl, rfl, rfl, rfl⟩⟩
  | 18, _, _ => ⟨by kernel_rfl, by kernel_rfl, ⟨⟨[98], [[97]], 1, true, [a], [x], 0, false, false⟩, by kernel_rfl, rfl, rfl⟩, ⟨⟨[98], [[97]], 1, true, [a], [x], 0, false, true⟩, by kernel_rfl, rfl, rfl, rfl, rfl⟩⟩
  | 19, _, _ => ⟨by kernel_rfl, by kernel_rfl, ⟨⟨[98], [[97]], 1, true, [a], [x], 0, false, false⟩, by kernel_rfl, rfl, rfl⟩, ⟨⟨[98], [[97]], 1, true, [a], [x], 0, false, true⟩, by kernel_rfl, rfl, rfl, rfl, rfl⟩⟩
  | 20, _, _ => ⟨by kernel_rfl, by kernel_rfl, ⟨⟨[98], [[97]], 1, true, [a], [x], 0, false, false⟩, by kernel_rfl, rfl, rfl⟩, ⟨⟨[98], [[97]], 1, true, [a], [x], 0, false, true⟩, by kernel_rfl, rfl, rfl, rfl, rfl⟩⟩
  | n + 21, _, h => absurd h (by omega)
theorem rest_len (n : Nat) (a : Nm) (x : UInt8) (r c : Nat) (h : 1 ≤ n) : (restC n a x r c).rules.length = n := by
  unfold restC; simp; omega
theorem restS_len (n : Nat) (a b : Nm) (x : UInt8) (r c : Nat) (h : 1 ≤ n) : (restS n a b x r c).rules.length = n := by
  unfold restS; simp; omega
/-- Get on a chain, by what stands at its end -/
theorem getX_up {P : GS → Prop} {base : GS → ES × Res} {S : GS} {n : Nat} (h1 : 1 ≤ n) (hl : S.rules.length = n) (hc : (cyc S.rules (n + 1) [] [] (nmC n)).1 = false)
    (h0 : ∀ S f, P S → evalX (f + 2) ⟨S, []⟩ (nmC 1) = base S) (hb : chkB base (n - 1) S = true) (he : P (endS (n - 1) S)) :
    getX S (nmC n) = ((upE base (n - 1) S).1.s, (upE base (n - 1) S).2) := by
  have h := evalX_up h0 (n - 1) 0 S (chkUp_of _ _ hb he)
  rw [show n - 1 + 0 + 2 = n + 1 from by omega, show n - 1 + 1 = n from by omega] at h
  unfold getX
  rw [hl, hc, h]
  simp
theorem staleX_len (S : GS) : (staleX S).length = (S.rules.filter (·.stale)).length := by
  unfold staleX; rw [List.length_mergeSort, List.length_map]
theorem digU_of {a : Nm} {m : Nat} (h : a.length % 3 = m) : digU a = UInt8.ofNat (48 + m) := by
  unfold digU; rw [List.append_nil, h]
theorem mod3 (k : Nat) : k % 3 = 0 ∨ k % 3 = 1 ∨ k % 3 = 2 := by omega
theorem digU_eq (a b : Nm) : (digU a = digU b) ↔ (a.length % 3 = b.length % 3) := by
  rcases mod3 a.length with h | h | h <;> rcases mod3 b.length with h' | h' | h' <;> rw [digU_of h, digU_of h', h, h'] <;> decide
/-- Set on an evaluated chain -/
theorem setC (a b : Nm) {n : Nat} (h1 : 1 ≤ n) (h2 : n ≤ 20) : (setX (restC n a (digU a) n (n + 1)) [97] b).2 = if a = b then restC n a (digU a) n (n + 1) else restS n a b (digU a) n (n + 2) := by
  unfold setX
  rw [noneC a _ n h1 h2]
  have hg : getV (restC n a (digU a) n (n + 1)).vals [97] = some a := by simp [restC, getV]
  rw [hg]
  simp only [reduceCtorEq, if_false, Option.isSome_none, Bool.false_eq_true]
  by_cases hab : a = b
  · rw [if_pos hab, if_pos hab]
  · rw [if_neg hab, if_neg hab, ← touchedC a b (digU a) n h1 h2]
    simp [restC, putV]
/-- what the second Get returns, and leaves -/
theorem secondC (a b : Nm) {n : Nat} (h1 : 1 ≤ n) (h2 : n ≤ 20) :
    let S := (setX (restC n a (digU a) n (n + 1)) [97] b).2
    (getX S (nmC n)).2 = ([digU b], 0) ∧ (getX S (nmC n)).1.runs = (if a = b then n else if a.length % 3 = b.length % 3 then n + 1 else 2 * n) ∧ (staleX (getX S (nmC n)).1).length = 0 ∧ (staleX S).length = if a = b then 0 else n := by
  simp only
  rw [setC a b h1 h2]
  by_cases hab : a = b
  · subst hab
    simp only [if_true]
    rw [staleX_len, staleX_len, staleC a _ n h1 h2]
    rcases mod3 a.length with h | h | h
    · rw [digU_of h]
      have e := againC0 a n h1 h2
      simp only [Prod.mk.injEq] at e
      obtain ⟨e1, e2, e3⟩ := e
      have H := getX_up (P := BaseZ a 48) (S := restC n a 48 n (n + 1)) h1 (rest_len n a _ _ _ h1) (cycZ a _ n h1 h2) base0_eval (checkZ0 a n h1 h2) (endZ a _ n h1 h2)
      rw [show UInt8.ofNat (48 + 0) = 48 from rfl, H]
      exact ⟨e1, e2, e3, rfl⟩
    · rw [digU_of h]
      have e := againC1 a n h1 h2
      simp only [Prod.mk.injEq] at e
      obtain ⟨e1, e2, e3⟩ := e
      have H := getX_up (P := BaseZ a 49) (S := restC n a 49 n (n + 1)) h1 (rest_len n a _ _ _ h1) (cycZ a _ n h1 h2) base0_eval (checkZ1 a n h1 h2) (endZ a _ n h1 h2)
      rw [show UInt8.ofNat (48 + 1) = 49 from rfl, H]
      exact ⟨e1, e2, e3, rfl⟩
    · rw [digU_of h]
      have e := againC2 a n h1 h2
      simp only [Prod.mk.injEq] at e
      obtain ⟨e1, e2, e3⟩ := e
      have H := getX_up (P := BaseZ a 50) (S := restC n a 50 n (n + 1)) h1 (rest_len n a _ _ _ h1) (cycZ a _ n h1 h2) base0_eval (checkZ2 a n h1 h2) (endZ a _ n h1 h2)
      rw [show UInt8.ofNat (48 + 2) = 50 from rfl, H]
      exact ⟨e1, e2, e3, rfl⟩
  · rw [if_neg hab, if_neg hab, if_neg hab, staleX_len, staleX_len, staleS a b _ n h1 h2]
    rcases mod3 a.length with h | h | h <;> rcases mod3 b.length with h' | h' | h'
    · rw [digU_of h, digU_of h', h, h']
      have e := secondC00 a b n h1 h2
      simp only [Prod.mk.injEq] at e
      obtain ⟨e1, e2, e3⟩ := e
      have H := getX_up (P := BaseP a b) (S := restS n a b 48 n (n + 2)) h1 (restS_len n a b _ _ _ h1) (cycC a b _ n h1 h2) (base := baseM 0 b) (fun S f hS => (base_eval hab S f hS).trans (baseM_eq (by simpa using h') S)) (checkC00 a b n h1 h2) (endC a b _ n h1 h2)
      rw [show UInt8.ofNat (48 + 0) = 48 from rfl, H]
      exact ⟨e1, by rw [e2]; rw [if_pos rfl], e3, rfl⟩
    · rw [digU_of h, digU_of h', h, h']
      have e := secondC01 a b n h1 h2
      simp only [Prod.mk.injEq] at e
      obtain ⟨e1, e2, e3⟩ := e
      have H := getX_up (P := BaseP a b) (S := restS n a b 48 n (n + 2)) h1 (restS_len n a b _ _ _ h1) (cycC a b _ n h1 h2) (base := baseM 1 b) (fun S f hS => (base_eval hab S f hS).trans (baseM_eq (by simpa using h') S)) (checkC01 a b n h1 h2) (endC a b _ n h1 h2)
      rw [show UInt8.ofNat (48 + 0) = 48 from rfl, H]
      exact ⟨e1, by rw [e2]; rw [if_neg (by decide)], e3, rfl⟩
    · rw [digU_of h, digU_of h', h, h']
      have e := secondC02 a b n h1 h2
      simp only [Prod.mk.injEq] at e
      obtain ⟨e1, e2, e3⟩ := e
      have H := getX_up (P := BaseP a b) (S := restS n a b 48 n (n + 2)) h1 (restS_len n a b _ _ _ h1) (cycC a b _ n h1 h2) (base := baseM 2 b) (fun S f hS => (base_eval hab S f hS).trans (baseM_eq (by simpa using h') S)) (checkC02 a b n h1 h2) (endC a b _ n h1 h2)
      rw [show UInt8.ofNat (48 + 0) = 48 from rfl, H]
      exact ⟨e1, by rw [e2]; rw [if_neg (by decide)], e3, rfl⟩
    · rw [digU_of h, digU_of h', h, h']
      have e := secondC10 a b n h1 h2
      simp only [Prod.mk.injEq] at e
      obtain ⟨e1, e2, e3⟩ := e
      have H := getX_up (P := BaseP a b) (S := restS n a b 49 n (n + 2)) h1 (restS_len n a b _ _ _ h1) (cycC a b _ n h1 h2) (base := baseM 0 b) (fun S f hS => (base_eval hab S f hS).trans (baseM_eq (by simpa using h') S)) (checkC10 a b n h1 h2) (endC a b _ n h1 h2)
      rw [show UInt8.ofNat (48 + 1) = 49 from rfl, H]
      exact ⟨e1, by rw [e2]; rw [if_neg (by decide)], e3, rfl⟩
    · rw [digU_of h, digU_of h', h, h']
      have e := secondC11 a b n h1 h2
      simp only [Prod.mk.injEq] at e
      obtain ⟨e1, e2, e3⟩ := e
      have H := getX_up (P := BaseP a b) (S := restS n a b 49 n (n + 2)) h1 (restS_len n a b _ _ _ h1) (cycC a b _ n h1 h2) (base := baseM 1 b) (fun S f hS => (base_eval hab S f hS).trans (baseM_eq (by simpa using h') S)) (checkC11 a b n h1 h2) (endC a b _ n h1 h2)
      rw [show UInt8.ofNat (48 + 1) = 49 from rfl, H]
      exact ⟨e1, by rw [e2]; rw [if_pos rfl], e3, rfl⟩
    · rw [digU_of h, digU_of h', h, h']
      have e := secondC12 a b n h1 h2
      simp only [Prod.mk.injEq] at e
      obtain ⟨e1, e2, e3⟩ := e
      have H := getX_up (P := BaseP a b) (S := restS n a b 49 n (n + 2)) h1 (restS_len n a b _ _ _ h1) (cycC a b _ n h1 h2) (base := baseM 2 b) (fun S f hS => (base_eval hab S f hS).trans (baseM_eq (by simpa using h') S)) (checkC12 a b n h1 h2) (endC a b _ n h1 h2)
      rw [show UInt8.ofNat (48 + 1) = 49 from rfl, H]
      exact ⟨e1, by rw [e2]; rw [if_neg (by decide)], e3, rfl⟩
    · rw [digU_of h, digU_of h', h, h']
      have e := secondC20 a b n h1 h2
      simp only [Prod.mk.injEq] at e
      obtain ⟨e1, e2, e3⟩ := e
      have H := getX_up (P := BaseP a b) (S := restS n a b 50 n (n + 2)) h1 (restS_len n a b _ _ _ h1) (cycC a b _ n h1 h2) (base := baseM 0 b) (fun S f hS => (base_eval hab S f hS).trans (baseM_eq (by simpa using h') S)) (checkC20 a b n h1 h2) (endC a b _ n h1 h2)
      rw [show UInt8.ofNat (48 + 2) = 50 from rfl, H]
      exact ⟨e1, by rw [e2]; rw [if_neg (by decide)], e3, rfl⟩
    · rw [digU_of h, digU_of h', h, h']
      have e := secondC21 a b n h1 h2
      simp only [Prod.mk.injEq] at e
      obtain ⟨e1, e2, e3⟩ := e
      have H := getX_up (P := BaseP a b) (S := restS n a b 50 n (n + 2)) h1 (restS_len n a b _ _ _ h1) (cycC a b _ n h1 h2) (base := baseM 1 b) (fun S f hS => (base_eval hab S f hS).trans (baseM_eq (by simpa using h') S)) (checkC21 a b n h1 h2) (endC a b _ n h1 h2)
      rw [show UInt8.ofNat (48 + 2) = 50 from rfl, H]
      exact ⟨e1, by rw [e2]; rw [if_neg (by decide)], e3, rfl⟩
    · rw [digU_of h, digU_of h', h, h']
      have e := secondC22 a b n h1 h2
      simp only [Prod.mk.injEq] at e
      obtain ⟨e1, e2, e3⟩ := e
      have H := getX_up (P := BaseP a b) (S := restS n a b 50 n (n + 2)) h1 (restS_len n a b _ _ _ h1) (cycC a b _ n h1 h2) (base := baseM 2 b) (fun S f hS => (base_eval hab S f hS).trans (baseM_eq (by simpa using h') S)) (checkC22 a b n h1 h2) (endC a b _ n h1 h2)
      rw [show UInt8.ofNat (48 + 2) = 50 from rfl, H]
      exact ⟨e1, by rw [e2]; rw [if_pos rfl], e3, rfl⟩
end Go.Proofs.Ytbikldmhfaecpaa
