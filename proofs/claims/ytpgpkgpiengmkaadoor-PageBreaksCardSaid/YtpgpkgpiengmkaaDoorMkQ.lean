/-
  Layer 33 (markup), plain: clean text escaped is clean; what is escaped is read back.
-/
import Derived.Test.YtpgpkgpiengmkaaDoorMkP
namespace Go.Proofs.YtpgpkgpiengmkaaDoor
set_option linter.unusedVariables false
set_option linter.unusedSimpArgs false

theorem validB_cons (b : UInt8) (r : List UInt8) : validB (b :: r) = if b < 128 then cleanB b && validB r else match r with
    | [] => false
    | x :: r1 => if two b x then validB r1 else match r1 with
      | [] => false
      | y :: r2 => if thr b x y then validB r2 else match r2 with
        | [] => false
        | z :: r3 => if fou b x y z then validB r3 else false := by
  rcases r with _ | ⟨x, _ | ⟨y, _ | ⟨z, r⟩⟩⟩
  · by_cases h : b < 128 <;> simp [validB, h]
  · by_cases h : b < 128 <;> simp [validB, h]
  · by_cases h : b < 128 <;> by_cases h2 : two b x = true <;> simp [validB, h, h2]
  · by_cases h : b < 128 <;> by_cases h2 : two b x = true <;> by_cases h3 : thr b x y = true <;> simp [validB, h, h2, h3]
/-- the number of bytes of the sequence that a text begins with, or 0 -/
def sq : List UInt8 → Nat
  | [] => 0
  | b :: r => if b < 128 then 1 else match r with
    | [] => 0
    | x :: r1 => if two b x then 2 else match r1 with
      | [] => 0
      | y :: r2 => if thr b x y then 3 else match r2 with
        | [] => 0
        | z :: r3 => if fou b x y z then 4 else 0
theorem validB_sq (b : UInt8) (r : List UInt8) (h : ¬ b < 128) : validB (b :: r) = if sq (b :: r) = 0 then false else validB ((b :: r).drop (sq (b :: r))) := by
  rw [validB_cons, if_neg h]
  rcases r with _ | ⟨x, _ | ⟨y, _ | ⟨z, r⟩⟩⟩ <;> simp only [sq, h, if_false]
  · simp
  · by_cases h2 : two b x = true <;> simp [h2]
  · by_cases h2 : two b x = true
    · simp [h2]
    · by_cases h3 : thr b x y = true <;> simp [h2, h3]
  · by_cases h2 : two b x = true
    · simp [h2]
    · by_cases h3 : thr b x y = true
      · simp [h2, h3]
      · by_cases h4 : fou b x y z = true <;> simp [h2, h3, h4]
theorem sq_le (l : List UInt8) : sq l ≤ l.length := by
  rcases l with _ | ⟨b, _ | ⟨x, _ | ⟨y, _ | ⟨z, r⟩⟩⟩⟩ <;> simp only [sq, List.length] <;> repeat (first | omega | split)

end Go.Proofs.YtpgpkgpiengmkaaDoor
