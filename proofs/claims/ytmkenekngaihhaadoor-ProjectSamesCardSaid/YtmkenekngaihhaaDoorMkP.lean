/-
  Layer 33 (markup), plain: nodes, their markup, their first error, and the reader of markup, as functions on lists of bytes.
-/
namespace Go.Proofs.YtmkenekngaihhaaDoor
set_option linter.unusedVariables false
set_option linter.unusedSimpArgs false

/-- a node of markup: its name, its text, its attributes, its kids -/
inductive Nd where
  | mk (nm tx : List UInt8) (ats : List (List UInt8 × List UInt8)) (ks : List Nd)

theorem Nd.ind {P : Nd → Prop} (h : ∀ nm tx ats ks, (∀ k ∈ ks, P k) → P (.mk nm tx ats ks)) : ∀ n, P n := by
  intro n
  exact Nd.rec (motive_1 := P) (motive_2 := fun ks => ∀ k ∈ ks, P k) (fun nm tx ats ks hk => h nm tx ats ks hk) (fun k hk => by cases hk)
    (fun k r hk hr x hx => by
      rcases List.mem_cons.1 hx with rfl | hx
      · exact hk
      · exact hr x hx) n

def Nd.nm : Nd → List UInt8
  | .mk nm _ _ _ => nm
def Nd.ats : Nd → List (List UInt8 × List UInt8)
  | .mk _ _ ats _ => ats
def Nd.ks : Nd → List Nd
  | .mk _ _ _ ks => ks

/-- clean text -/
def cleanB (c : UInt8) : Bool := c == 10 || (decide (32 ≤ c) && c != 127)
def contB (x : UInt8) : Bool := decide (128 ≤ x) && decide (x ≤ 191)
def two (b x : UInt8) : Bool := decide (194 ≤ b) && decide (b ≤ 223) && contB x
def sndB (b x : UInt8) : Bool := contB x && (b != 224 || decide (160 ≤ x)) && (b != 237 || decide (x ≤ 159)) && (b != 240 || decide (144 ≤ x)) && (b != 244 || decide (x ≤ 143))
def thr (b x y : UInt8) : Bool := decide (224 ≤ b) && decide (b ≤ 239) && sndB b x && contB y
def fou (b x y z : UInt8) : Bool := decide (240 ≤ b) && decide (b ≤ 244) && sndB b x && contB y && contB z
def validB : List UInt8 → Bool
  | [] => true
  | [b] => decide (b < 128) && cleanB b
  | [b, x] => if b < 128 then cleanB b && validB [x] else two b x
  | [b, x, y] => if b < 128 then cleanB b && validB [x, y] else if two b x then validB [y] else thr b x y
  | b :: x :: y :: z :: r => if b < 128 then cleanB b && validB (x :: y :: z :: r) else if two b x then validB (y :: z :: r) else if thr b x y then validB (z :: r) else if fou b x y z then validB r else false



end Go.Proofs.YtmkenekngaihhaaDoor
