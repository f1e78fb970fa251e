/-
  Layer 28 (locale): the letters of a collation.
-/
import Derived.Test.YtkndgkiglaacnaaDoorLocG
namespace Go.Proofs.YtkndgkiglaacnaaDoor
set_option linter.unusedSimpArgs false
/-- the letters: the small one and the capital one, and in es one more behind n -/
def letK (es : Bool) : Nat → List (List UInt8)
  | 0 => []
  | k + 1 => letK es k ++ [letL k] ++ (if es = true ∧ k = 13 then [[195, 177, 195, 145]] else [])
end Go.Proofs.YtkndgkiglaacnaaDoor
