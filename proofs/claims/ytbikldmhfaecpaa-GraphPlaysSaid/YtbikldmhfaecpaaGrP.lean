/-
  Layer 48 (graph), plain: a graph, and what its calls make of it.
-/
import Derived.Test.YtbikldmhfaecpaaGrA
namespace Go.Proofs.Ytbikldmhfaecpaa
set_option linter.unusedVariables false
set_option linter.unusedSimpArgs false

abbrev Nm := List UInt8
abbrev Res := Nm × Nat
structure RuleS where
  name : Nm
  needs : List Nm
  f : Nat
  called : Bool
  inn : List Nm
  val : Nm
  e : Nat
  stale : Bool
  busy : Bool
structure GS where
  vals : List (Nm × Nm)
  rules : List RuleS
  runs : Nat
  changes : Nat
def GS.new : GS := ⟨[], [], 0, 0⟩
def findR : List RuleS → Nm → Option RuleS
  | [], _ => none
  | r :: q, n => if n = r.name then some r else findR q n
def getV : List (Nm × Nm) → Nm → Option Nm
  | [], _ => none
  | p :: q, n => if n = p.1 then some p.2 else getV q n
def putV (n v : Nm) : List (Nm × Nm) → List (Nm × Nm)
  | [] => [(n, v)]
  | p :: r => if n = p.1 then (n, v) :: r else p :: putV n v r
/-- the rule of a name, turned -/
def modR (n : Nm) (g : RuleS → RuleS) (rs : List RuleS) : List RuleS := rs.map fun r => if r.name = n then g r else r
/-- the rules that need a name -/
def usersOf (rs : List RuleS) (n : Nm) : List Nm := (rs.filter fun r => r.needs.contains n).map (·.name)
def pushU (seen left : List Nm) : List Nm → List Nm × List Nm
  | [] => (seen, left)
  | u :: r => if u ∈ seen then pushU seen left r else pushU (seen ++ [u]) (left ++ [u]) r
/-- the names that have been seen, when none is left -/
def touchGo (rs : List RuleS) : Nat → List Nm → List Nm → List Nm
  | 0, seen, _ => seen
  | f + 1, seen, left => match left.getLast? with
    | none => seen
    | some n => touchGo rs f (pushU seen left.dropLast (usersOf rs n)).1 (pushU seen left.dropLast (usersOf rs n)).2
def markS (seen : List Nm) (rs : List RuleS) : List RuleS := rs.map fun r => if r.name ∈ seen then { r with stale := true } else r
def touchX (S : GS) (n : Nm) : GS := { S with changes := S.changes + 1, rules := markS (touchGo S.rules (2 * S.rules.length + 1) [] [n]) S.rules }
def setX (S : GS) (n v : Nm) : Nat × GS :=
  if n = [] then (6, S) else if (findR S.rules n).isSome then (7, S) else
  match getV S.vals n with
  | none => if 1024 ≤ S.vals.length + S.rules.length then (3, S) else (0, touchX { S with vals := putV n v S.vals } n)
  | some o => if o = v then (0, S) else (0, touchX { S with vals := putV n v S.vals } n)
def ruleX (S : GS) (n : Nm) (needs : List Nm) (f : Option Nat) : Nat × GS :=
  if n = [] then (6, S) else if [] ∈ needs then (6, S) else
  match f with
  | none => (2, S)
  | some f =>
    if (getV S.vals n).isSome then (7, S) else if (findR S.rules n).isSome then (7, S) else
    if 1024 < needs.length then (3, S) else if 1024 ≤ S.vals.length + S.rules.length then (3, S) else
    (0, touchX { S with rules := S.rules ++ [⟨n, needs, f, false, [], [], 0, true, false⟩] } n)
def addS (d : List Nm) (n : Nm) : List Nm := if n ∈ d then d else d ++ [n]
/-- whether a name, one after the other, leads to a cycle -/
def cycs (g : List Nm → Nm → Bool × List Nm) : List Nm → List Nm → Bool × List Nm
  | d, [] => (false, d)
  | d, n :: r => match g d n with
    | (true, d') => (true, d')
    | (false, d') => cycs g d' r
def cyc (rs : List RuleS) : Nat → List Nm → List Nm → Nm → Bool × List Nm
  | 0, _, d, _ => (true, d)
  | f + 1, o, d, n => if n ∈ o then (true, d) else match findR rs n with
    | none => (false, d)
    | some r => if n ∈ d then (false, d) else
      match cycs (cyc rs f (o ++ [n])) d r.needs with
      | (true, d') => (true, d')
      | (false, d') => (false, addS d' n)
/-- a text of at most 50 bytes -/
def join50 (s : Nm) : Nm := if 50 < s.length then s.take 50 else s
/-- what the function with a number returns -/
def valueX (f : Nat) (inn : List Nm) : Res :=
  if f = 0 then (join50 inn.flatten, 0) else if f = 1 then ([UInt8.ofNat (48 + inn.flatten.length % 3)], 0)
  else if f = 2 then (match inn with
    | [] => ([108, 111, 115, 116], 5)
    | x :: _ => if x = [] then ([108, 111, 115, 116], 5) else (x.take 1, 0))
  else ([120], 0)
def applyV (f : Nat) (inn : List Nm) : Res := if (valueX f inn).2 = 0 then valueX f inn else ([], (valueX f inn).2)
structure ES where
  s : GS
  known : List (Nm × Res)
def lookK (n : Nm) : List (Nm × Res) → Option Res
  | [] => none
  | p :: r => if n = p.1 then some p.2 else lookK n r
/-- the values of names, or the first error -/
def needsX (g : ES → Nm → ES × Res) : ES → List Nm → List Nm → ES × (Nat ⊕ List Nm)
  | E, acc, [] => (E, .inr acc)
  | E, acc, n :: r => if (g E n).2.2 = 0 then needsX g (g E n).1 (acc ++ [(g E n).2.1]) r else ((g E n).1, .inl (g E n).2.2)
/-- a rule's function, if its needs are not those of the last call -/
def callX (S : GS) (n : Nm) (inn : List Nm) : GS × Res :=
  match findR S.rules n with
  | none => (S, ([], 0))
  | some r => if r.called = true ∧ inn = r.inn then (S, (r.val, r.e)) else
    ({ S with runs := S.runs + 1, rules := modR n (fun r => { r with called := true, inn := inn, val := (applyV r.f inn).1, e := (applyV r.f inn).2 }) S.rules }, applyV r.f inn)
def applyX (g : ES → Nm → ES × Res) (E : ES) (n : Nm) (needs : List Nm) : ES × Res :=
  match needsX g E [] needs with
  | (E', .inl e) => (E', ([], e))
  | (E', .inr inn) => ({ E' with s := (callX E'.s n inn).1 }, (callX E'.s n inn).2)
def begunX (S : GS) (n : Nm) : GS := { S with rules := modR n (fun r => { r with busy := true, stale := false }) S.rules }
def endedX (S : GS) (n : Nm) : GS := { S with rules := modR n (fun r => { r with busy := false }) S.rules }
def evalX : Nat → ES → Nm → ES × Res
  | 0, E, n => (E, ([], 10))
  | f + 1, E, n =>
    match getV E.s.vals n with
    | some v => (E, (v, 0))
    | none => match findR E.s.rules n with
      | none => (E, ([], 13))
      | some r => match lookK n E.known with
        | some a => (E, a)
        | none => if r.busy = true then (E, ([], 10)) else
          ({ s := endedX (applyX (evalX f) { E with s := begunX E.s n } n r.needs).1.s n, known := (applyX (evalX f) { E with s := begunX E.s n } n r.needs).1.known ++ [(n, (applyX (evalX f) { E with s := begunX E.s n } n r.needs).2)] }, (applyX (evalX f) { E with s := begunX E.s n } n r.needs).2)
def getX (S : GS) (n : Nm) : GS × Res :=
  if (cyc S.rules (S.rules.length + 1) [] [] n).1 = true then (S, ([], 10)) else
  ((evalX (S.rules.length + 1) ⟨S, []⟩ n).1.s, (evalX (S.rules.length + 1) ⟨S, []⟩ n).2)
def staleX (S : GS) : List Nm := ((S.rules.filter (·.stale)).map (·.name)).mergeSort fun x y => decide (x ≤ y)
end Go.Proofs.Ytbikldmhfaecpaa
