/-
  Layer 48 (graph), plain: a chain of rules (GraphChain).
-/
import Derived.Test.YtbikldmhfaecpaaGrP
namespace Go.Proofs.Ytbikldmhfaecpaa
set_option linter.unusedVariables false
set_option linter.unusedSimpArgs false

def nmC (i : Nat) : Nm := [UInt8.ofNat (97 + i)]
def chainC : Nat → GS → GS
  | 0, S => (ruleX S [98] [[97]] (some 1)).2
  | k + 1, S => (ruleX (chainC k S) (nmC (k + 2)) [nmC (k + 1)] (some 0)).2
/-- a value, and n rules (n at least 1: chainA a (n - 1)) -/
def chainA (a : Nm) (n : Nat) : GS := chainC n (setX GS.new [97] a).2
set_option maxRecDepth 100000
theorem chain_get19 (a : Nm) : (getX (chainA a 19) (nmC 20)).2 = ([UInt8.ofNat (48 + (a ++ []).length % 3)], 0) ∧ (getX (chainA a 19) (nmC 20)).1.runs = 20 := by constructor <;> kernel_rfl
/-- one step up a chain -/
theorem evalX_step {f : Nat} {E E' : ES} {n m s : Nm} {r : RuleS} (hv : getV E.s.vals n = none) (hr : findR E.s.rules n = some r) (hk : lookK n E.known = none) (hb : r.busy = false) (hn : r.needs = [m])
    (hg : evalX f { E with s := begunX E.s n } m = (E', (s, 0))) :
    evalX (f + 1) E n = ({ s := endedX (callX E'.s n [s]).1 n, known := E'.known ++ [(n, (callX E'.s n [s]).2)] }, (callX E'.s n [s]).2) := by
  have h : applyX (evalX f) { E with s := begunX E.s n } n r.needs = ({ E' with s := (callX E'.s n [s]).1 }, (callX E'.s n [s]).2) := by
    simp only [applyX, hn, needsX, hg, if_true, List.nil_append]
  simp only [evalX, hv, hr, hk, hb, h, Bool.false_eq_true, if_false]
/-- a step whose function is called since its needs are others -/
theorem callX_other {S : GS} {n : Nm} {inn : List Nm} {r : RuleS} (hr : findR S.rules n = some r) (h : inn ≠ r.inn) :
    callX S n inn = ({ S with runs := S.runs + 1, rules := modR n (fun r => { r with called := true, inn := inn, val := (applyV r.f inn).1, e := (applyV r.f inn).2 }) S.rules }, applyV r.f inn) := by
  simp only [callX, hr, h, and_false, if_false]
/-- up a chain: the rule 1 (b) is evaluated by base -/
def upE (base : GS → ES × Res) : Nat → GS → ES × Res
  | 0, S => base S
  | k + 1, S =>
    ({ s := endedX (callX (upE base k (begunX S (nmC (k + 2)))).1.s (nmC (k + 2)) [(upE base k (begunX S (nmC (k + 2)))).2.1]).1 (nmC (k + 2)), known := (upE base k (begunX S (nmC (k + 2)))).1.known ++ [(nmC (k + 2), (callX (upE base k (begunX S (nmC (k + 2)))).1.s (nmC (k + 2)) [(upE base k (begunX S (nmC (k + 2)))).2.1]).2)] }, (callX (upE base k (begunX S (nmC (k + 2)))).1.s (nmC (k + 2)) [(upE base k (begunX S (nmC (k + 2)))).2.1]).2)
def chkUp (P : GS → Prop) (base : GS → ES × Res) : Nat → GS → Prop
  | 0, S => P S
  | k + 1, S => getV S.vals (nmC (k + 2)) = none ∧ (∃ r, findR S.rules (nmC (k + 2)) = some r ∧ r.busy = false ∧ r.needs = [nmC (k + 1)]) ∧ (upE base k (begunX S (nmC (k + 2)))).2.2 = 0 ∧ chkUp P base k (begunX S (nmC (k + 2)))
theorem evalX_up {P : GS → Prop} {base : GS → ES × Res} (h0 : ∀ S f, P S → evalX (f + 2) ⟨S, []⟩ (nmC 1) = base S) :
    ∀ k f S, chkUp P base k S → evalX (k + f + 2) ⟨S, []⟩ (nmC (k + 1)) = upE base k S
  | 0, f, S, h => by rw [Nat.zero_add]; exact h0 S f h
  | k + 1, f, S, ⟨hv, ⟨r, hr, hb, hn⟩, hz, h⟩ => by
    have ih := evalX_up h0 k f _ h
    have hg : evalX (k + f + 2) { (⟨S, []⟩ : ES) with s := begunX S (nmC (k + 2)) } (nmC (k + 1)) = ((upE base k (begunX S (nmC (k + 2)))).1, ((upE base k (begunX S (nmC (k + 2)))).2.1, 0)) := by
      rw [← hz]; exact ih
    have := evalX_step (f := k + f + 2) (E := ⟨S, []⟩) hv hr rfl hb hn hg
    rw [show k + 1 + f + 2 = k + f + 2 + 1 from by omega]
    exact this
/-- the rule b, called since a's value is another -/
def baseB (b : Nm) (S : GS) : ES × Res :=
  ({ s := endedX { begunX S [98] with runs := S.runs + 1, rules := modR [98] (fun r => { r with called := true, inn := [b], val := (applyV r.f [b]).1, e := (applyV r.f [b]).2 }) (begunX S [98]).rules } [98], known := [([98], applyV 1 [b])] }, applyV 1 [b])
def BaseP (a b : Nm) (S : GS) : Prop := getV S.vals [97] = some b ∧ getV S.vals [98] = none ∧ (∃ r, findR S.rules [98] = some r ∧ r.busy = false ∧ r.needs = [[97]] ∧ r.inn = [a] ∧ r.f = 1) ∧ ∃ r, findR (begunX S [98]).rules [98] = some r ∧ r.inn = [a] ∧ r.f = 1
theorem base_eval {a b : Nm} (hab : a ≠ b) (S : GS) (f : Nat) (h : BaseP a b S) : evalX (f + 2) ⟨S, []⟩ (nmC 1) = baseB b S := by
  obtain ⟨h1, h2, ⟨r, hr, hb, hn, hi, hf⟩, r', hr', hi', hf'⟩ := h
  have hg : evalX (f + 1) { (⟨S, []⟩ : ES) with s := begunX S [98] } [97] = (⟨begunX S [98], []⟩, (b, 0)) := by
    have h1' : getV (begunX S [98]).vals [97] = some b := h1
    simp only [evalX, h1']
  have h := evalX_step (f := f + 1) (E := ⟨S, []⟩) (n := [98]) h2 hr rfl hb hn hg
  have hc := callX_other (S := begunX S [98]) (n := [98]) (inn := [b]) hr' (by rw [hi']; intro e; exact hab (by cases e; rfl))
  rw [hf'] at hc
  show evalX (f + 1 + 1) ⟨S, []⟩ [98] = _
  rw [h, hc]
  rfl
/-- the chain when all is evaluated: n rules, x the digit -/
def restC (n : Nat) (a : Nm) (x : UInt8) (runs changes : Nat) : GS :=
  ⟨[([97], a)], ⟨[98], [[97]], 1, true, [a], [x], 0, false, false⟩ :: (List.range (n - 1)).map fun j => ⟨nmC (j + 2), [nmC (j + 1)], 0, true, [[x]], [x], 0, false, false⟩, runs, changes⟩
def digU (a : Nm) : UInt8 := UInt8.ofNat (48 + (a ++ []).length % 3)
theorem first20 (a : Nm) : getX (chainA a 19) (nmC 20) = (restC 20 a (digU a) 20 21, ([digU a], 0)) := by kernel_rfl
theorem first7 (a : Nm) : getX (chainA a 6) (nmC 7) = (restC 7 a (digU a) 7 8, ([digU a], 0)) := by kernel_rfl
theorem first1 (a : Nm) : getX (chainA a 0) (nmC 1) = (restC 1 a (digU a) 1 2, ([digU a], 0)) := by kernel_rfl
/-- a rule's answer where the length of its text is m, less threes -/
def applyM (m f : Nat) (inn : List Nm) : Res :=
  if (if f = 0 then (join50 inn.flatten, 0) else if f = 1 then ([UInt8.ofNat (48 + m)], 0) else if f = 2 then (match inn with
    | [] => ([108, 111, 115, 116], 5)
    | x :: _ => if x = [] then ([108, 111, 115, 116], 5) else (x.take 1, 0)) else ([120], 0) : Res).2 = 0 then (if f = 0 then (join50 inn.flatten, 0) else if f = 1 then ([UInt8.ofNat (48 + m)], 0) else if f = 2 then (match inn with
    | [] => ([108, 111, 115, 116], 5)
    | x :: _ => if x = [] then ([108, 111, 115, 116], 5) else (x.take 1, 0)) else ([120], 0)) else ([], (if f = 0 then (join50 inn.flatten, 0) else if f = 1 then ([UInt8.ofNat (48 + m)], 0) else if f = 2 then (match inn with
    | [] => ([108, 111, 115, 116], 5)
    | x :: _ => if x = [] then ([108, 111, 115, 116], 5) else (x.take 1, 0)) else ([120], 0) : Res).2)
theorem applyM_eq {m f : Nat} {inn : List Nm} (hm : inn.flatten.length % 3 = m) : applyV f inn = applyM m f inn := by
  subst hm; rfl
def baseM (m : Nat) (b : Nm) (S : GS) : ES × Res :=
  ({ s := endedX { begunX S [98] with runs := S.runs + 1, rules := modR [98] (fun r => { r with called := true, inn := [b], val := (applyM m r.f [b]).1, e := (applyM m r.f [b]).2 }) (begunX S [98]).rules } [98], known := [([98], applyM m 1 [b])] }, applyM m 1 [b])
theorem baseM_eq {m : Nat} {b : Nm} (hm : [b].flatten.length % 3 = m) (S : GS) : baseB b S = baseM m b S := by
  unfold baseB baseM; simp only [applyM_eq hm]
def restS (n : Nat) (a b : Nm) (x : UInt8) (runs changes : Nat) : GS :=
  ⟨[([97], b)], ⟨[98], [[97]], 1, true, [a], [x], 0, true, false⟩ :: (List.range (n - 1)).map fun j => ⟨nmC (j + 2), [nmC (j + 1)], 0, true, [[x]], [x], 0, true, false⟩, runs, changes⟩
theorem touched20 (a b : Nm) (x : UInt8) : touchX { restC 20 a x 20 21 with vals := [([97], b)] } [97] = restS 20 a b x 20 22 := by kernel_rfl
theorem second20 (a b : Nm) : (upE (baseM 1 b) 19 (restS 20 a b 48 20 22)).2 = ([49], 0) ∧ (upE (baseM 1 b) 19 (restS 20 a b 48 20 22)).1.s.runs = 40 := by constructor <;> kernel_rfl
theorem second20' (a b : Nm) : (upE (baseM 0 b) 19 (restS 20 a b 48 20 22)).2 = ([48], 0) ∧ (upE (baseM 0 b) 19 (restS 20 a b 48 20 22)).1.s.runs = 21 := by constructor <;> kernel_rfl
/-- chkUp's steps, told by a Bool -/
def chkB (base : GS → ES × Res) : Nat → GS → Bool
  | 0, S => true
  | k + 1, S => (getV S.vals (nmC (k + 2))).isNone && (match findR S.rules (nmC (k + 2)) with
    | none => false
    | some r => !r.busy && decide (r.needs = [nmC (k + 1)])) && decide ((upE base k (begunX S (nmC (k + 2)))).2.2 = 0) && chkB base k (begunX S (nmC (k + 2)))
def endS : Nat → GS → GS
  | 0, S => S
  | k + 1, S => endS k (begunX S (nmC (k + 2)))
theorem chkUp_of {P : GS → Prop} {base : GS → ES × Res} : ∀ k S, chkB base k S = true → P (endS k S) → chkUp P base k S
  | 0, S, _, h => h
  | k + 1, S, hc, h => by
    simp only [chkB, Bool.and_eq_true, Option.isNone_iff_eq_none, decide_eq_true_eq] at hc
    obtain ⟨⟨⟨h1, h2⟩, h3⟩, h4⟩ := hc
    refine ⟨h1, ?_, h3, chkUp_of k _ h4 h⟩
    split at h2
    · cases h2
    · rename_i r hr
      simp only [Bool.and_eq_true, Bool.not_eq_true', decide_eq_true_eq] at h2
      exact ⟨r, hr, h2.1, h2.2⟩
end Go.Proofs.Ytbikldmhfaecpaa
