/-
  Layer 33 (markup), plain: nodes, their markup, their first error, and the reader of markup, as functions on lists of bytes.
-/
namespace Go.Proofs.YtejjidbodfoiiaaGreatDoor
set_option linter.unusedVariables false
set_option linter.unusedSimpArgs false

/-- a node of markup: its name, its text, its attributes, its kids -/
inductive Nd where
  | mk (nm tx : List UInt8) (ats : List (List UInt8 × List UInt8)) (ks : List Nd)

theorem Nd.ind {P : Nd → Prop} (h : ∀ nm tx ats ks, (∀ k ∈ ks, P k) → P (.mk nm tx ats ks)) : ∀ n, P n := by
  intro n
  exact Nd.rec (motive_1 := P) (motive_2 := fun ks => ∀ k ∈ ks, P k) (fun nm tx ats ks hk => h nm tx ats ks hk) (fun k hk => by cases hk)
    (fun k r hk hr x hx => by
      rcases List.mem_cons.1 hx with rfl | hx
      · exact hk
      · exact hr x hx) n

def Nd.nm : Nd → List UInt8
  | .mk nm _ _ _ => nm
def Nd.tx : Nd → List UInt8
  | .mk _ tx _ _ => tx
def Nd.ats : Nd → List (List UInt8 × List UInt8)
  | .mk _ _ ats _ => ats
def Nd.ks : Nd → List Nd
  | .mk _ _ _ ks => ks

/-- a byte of names -/
def partB (c : UInt8) : Bool := (decide (97 ≤ c) && decide (c ≤ 122)) || (decide (48 ≤ c) && decide (c ≤ 57)) || c == 45 || c == 58
def lowB : List UInt8 → Bool
  | [] => false
  | c :: _ => decide (97 ≤ c) && decide (c ≤ 122)
def nameB (s : List UInt8) : Bool := s.all partB && (decide (s.length ≤ 60) && lowB s)
def emptyNames : List (List UInt8) := [[98, 114], [104, 114], [105, 109, 103], [108, 105, 110, 107], [109, 101, 116, 97]]
def emptyB (s : List UInt8) : Bool := emptyNames.contains s

/-- clean text -/
def cleanB (c : UInt8) : Bool := c == 10 || (decide (32 ≤ c) && c != 127)
def contB (x : UInt8) : Bool := decide (128 ≤ x) && decide (x ≤ 191)
def two (b x : UInt8) : Bool := decide (194 ≤ b) && decide (b ≤ 223) && contB x
def sndB (b x : UInt8) : Bool := contB x && (b != 224 || decide (160 ≤ x)) && (b != 237 || decide (x ≤ 159)) && (b != 240 || decide (144 ≤ x)) && (b != 244 || decide (x ≤ 143))
def thr (b x y : UInt8) : Bool := decide (224 ≤ b) && decide (b ≤ 239) && sndB b x && contB y
def fou (b x y z : UInt8) : Bool := decide (240 ≤ b) && decide (b ≤ 244) && sndB b x && contB y && contB z
def validB : List UInt8 → Bool
  | [] => true
  | [b] => decide (b < 128) && cleanB b
  | [b, x] => if b < 128 then cleanB b && validB [x] else two b x
  | [b, x, y] => if b < 128 then cleanB b && validB [x, y] else if two b x then validB [y] else thr b x y
  | b :: x :: y :: z :: r => if b < 128 then cleanB b && validB (x :: y :: z :: r) else if two b x then validB (y :: z :: r) else if thr b x y then validB (z :: r) else if fou b x y z then validB r else false

/-- a byte, escaped -/
def escB (c : UInt8) : List UInt8 :=
  if c = 38 then [38, 97, 109, 112, 59] else if c = 60 then [38, 108, 116, 59] else if c = 62 then [38, 103, 116, 59] else if c = 34 then [38, 113, 117, 111, 116, 59] else [c]
def esc (l : List UInt8) : List UInt8 := l.flatMap escB

/-- the first error of attributes behind those with the keys S -/
def chkAs (S : List (List UInt8)) : List (List UInt8 × List UInt8) → Int
  | [] => 0
  | p :: r => if nameB p.1 = false then 6 else if validB p.2 = false then 17 else if p.1 ∈ S then 7 else chkAs (S ++ [p.1]) r
mutual
/-- the first error of a node -/
def chk : Nd → Int
  | .mk nm tx ats ks =>
    if nm = [] then (if ats ≠ [] ∨ ks ≠ [] then 5 else if tx = [] ∨ validB tx = false then 17 else 0)
    else if nameB nm = false then 6
    else if tx ≠ [] ∨ (emptyB nm = true ∧ ks ≠ []) then 5
    else if chkAs [] ats ≠ 0 then chkAs [] ats
    else chkKs false ks
/-- the first error of kids; t: a text stands ahead -/
def chkKs (t : Bool) : List Nd → Int
  | [] => 0
  | k :: r => if t = true ∧ k.nm = [] then 5 else if chk k ≠ 0 then chk k else chkKs (decide (k.nm = [])) r
end

/-- the markup of attributes -/
def mkAs (ats : List (List UInt8 × List UInt8)) : List UInt8 := ats.flatMap fun p => [32] ++ p.1 ++ [61, 34] ++ esc p.2 ++ [34]
mutual
/-- the markup of a node -/
def mku : Nd → List UInt8
  | .mk nm tx ats ks => if nm = [] then esc tx else if emptyB nm = true then [60] ++ nm ++ mkAs ats ++ [47, 62] else [60] ++ nm ++ mkAs ats ++ [62] ++ mkuL ks ++ [60, 47] ++ nm ++ [62]
def mkuL : List Nd → List UInt8
  | [] => []
  | k :: r => mku k ++ mkuL r
end
def valAs (key : List UInt8) (ats : List (List UInt8 × List UInt8)) : List (List UInt8) := (ats.filter fun p => p.1 == key).map (·.2)
mutual
/-- the values of an attribute -/
def vals (key : List UInt8) : Nd → List (List UInt8)
  | .mk nm tx ats ks => if nm = [] then [] else valAs key ats ++ valsL key ks
def valsL (key : List UInt8) : List Nd → List (List UInt8)
  | [] => []
  | k :: r => vals key k ++ valsL key r
end

/-- the reader: names -/
def pName (l : List UInt8) : Except Int (List UInt8 × List UInt8) :=
  if l.dropWhile partB = [] then .error 4 else if nameB (l.takeWhile partB) = false then .error 5 else .ok (l.takeWhile partB, l.dropWhile partB)
def pExp (t l : List UInt8) : Except Int (List UInt8) := if t <+: l then .ok (l.drop t.length) else if l <+: t then .error 4 else .error 5
/-- what a text that begins with & begins with -/
def repl (l : List UInt8) : Nat × UInt8 :=
  if [38, 97, 109, 112, 59] <+: l then (5, 38) else if [38, 108, 116, 59] <+: l then (4, 60) else if [38, 103, 116, 59] <+: l then (4, 62) else if [38, 113, 117, 111, 116, 59] <+: l then (6, 34) else (0, 0)
def unescF : Nat → List UInt8 → Option (List UInt8)
  | 0, _ => some []
  | _ + 1, [] => some []
  | k + 1, c :: r => if c = 60 ∨ c = 62 ∨ c = 34 then none else if c = 38 then (if (repl (c :: r)).1 = 0 then none else (unescF k ((c :: r).drop (repl (c :: r)).1)).map ((repl (c :: r)).2 :: ·)) else (unescF k r).map (c :: ·)
def unesc (l : List UInt8) : Option (List UInt8) := unescF l.length l
/-- clean text that is escaped -/
def pText (v : List UInt8) : Except Int (List UInt8) := if validB v = false then .error 17 else match unesc v with | none => .error 5 | some u => .ok u
def notQ (c : UInt8) : Bool := c != 34
def notL (c : UInt8) : Bool := c != 60
def pVal (l : List UInt8) : Except Int (List UInt8 × List UInt8) :=
  if l.dropWhile notQ = [] then .error 4 else match pText (l.takeWhile notQ) with | .error e => .error e | .ok u => .ok (u, (l.dropWhile notQ).drop 1)
/-- an attribute, behind the space -/
def pAttr (l : List UInt8) : Except Int ((List UInt8 × List UInt8) × List UInt8) :=
  match pName l with
  | .error e => .error e
  | .ok (k, r) => match pExp [61, 34] r with
    | .error e => .error e
    | .ok r1 => match pVal r1 with
      | .error e => .error e
      | .ok (u, r2) => .ok ((k, u), r2)
/-- attributes behind those with the keys S -/
def pAttrs : Nat → List (List UInt8) → List UInt8 → Except Int (List (List UInt8 × List UInt8) × List UInt8)
  | 0, _, l => .error 99
  | f + 1, S, l => if l.head? = some 32 then (match pAttr (l.drop 1) with
      | .error e => .error e
      | .ok (p, r) => if p.1 ∈ S then .error 7 else match pAttrs f (S ++ [p.1]) r with
        | .error e => .error e
        | .ok (ats, r') => .ok (p :: ats, r'))
    else .ok ([], l)
def pData (kid : Bool) (l : List UInt8) : Except Int (Nd × List UInt8) :=
  if l.dropWhile notL = [] ∧ kid = true then .error 4 else match pText (l.takeWhile notL) with | .error e => .error e | .ok u => .ok (.mk [] u [] [], l.dropWhile notL)
mutual
/-- a node -/
def pN : Nat → Bool → List UInt8 → Except Int (Nd × List UInt8)
  | 0, _, _ => .error 99
  | f + 1, kid, l => if l.head? = some 60 then (match pName (l.drop 1) with
      | .error e => .error e
      | .ok (nm, r1) => match pAttrs (r1.length + 1) [] r1 with
        | .error e => .error e
        | .ok (ats, r2) => if emptyB nm = true then (match pExp [47, 62] r2 with
            | .error e => .error e
            | .ok r3 => .ok (.mk nm [] ats [], r3))
          else match pExp [62] r2 with
          | .error e => .error e
          | .ok r3 => match pKs f r3 with
            | .error e => .error e
            | .ok (ks, r4) => match pExp ([60, 47] ++ nm ++ [62]) r4 with
              | .error e => .error e
              | .ok r5 => .ok (.mk nm [] ats ks, r5))
    else pData kid l
/-- kids -/
def pKs : Nat → List UInt8 → Except Int (List Nd × List UInt8)
  | 0, _ => .error 99
  | f + 1, l => if [60, 47] <+: l then .ok ([], l) else if l = [] then .error 4 else match pN f true l with
    | .error e => .error e
    | .ok (k, r) => match pKs f r with
      | .error e => .error e
      | .ok (ks, r') => .ok (k :: ks, r')
end
/-- Parse -/
def pTop (l : List UInt8) : Except Int (Nd × List UInt8) := if l = [] then .error 4 else pN (2 * l.length + 1) false l
end Go.Proofs.YtejjidbodfoiiaaGreatDoor
