/-
  Layer 33 (markup), plain: nodes, their markup, their first error, and the reader of markup, as functions on lists of bytes.
-/
namespace Go.Proofs.YtpgpkgpiengmkaaDoor
set_option linter.unusedVariables false
set_option linter.unusedSimpArgs false

/-- clean text -/
def cleanB (c : UInt8) : Bool := c == 10 || (decide (32 ≤ c) && c != 127)
def contB (x : UInt8) : Bool := decide (128 ≤ x) && decide (x ≤ 191)
def two (b x : UInt8) : Bool := decide (194 ≤ b) && decide (b ≤ 223) && contB x
def sndB (b x : UInt8) : Bool := contB x && (b != 224 || decide (160 ≤ x)) && (b != 237 || decide (x ≤ 159)) && (b != 240 || decide (144 ≤ x)) && (b != 244 || decide (x ≤ 143))
def thr (b x y : UInt8) : Bool := decide (224 ≤ b) && decide (b ≤ 239) && sndB b x && contB y
def fou (b x y z : UInt8) : Bool := decide (240 ≤ b) && decide (b ≤ 244) && sndB b x && contB y && contB z
def validB : List UInt8 → Bool
  | [] => true
  | [b] => decide (b < 128) && cleanB b
  | [b, x] => if b < 128 then cleanB b && validB [x] else two b x
  | [b, x, y] => if b < 128 then cleanB b && validB [x, y] else if two b x then validB [y] else thr b x y
  | b :: x :: y :: z :: r => if b < 128 then cleanB b && validB (x :: y :: z :: r) else if two b x then validB (y :: z :: r) else if thr b x y then validB (z :: r) else if fou b x y z then validB r else false



end Go.Proofs.YtpgpkgpiengmkaaDoor
