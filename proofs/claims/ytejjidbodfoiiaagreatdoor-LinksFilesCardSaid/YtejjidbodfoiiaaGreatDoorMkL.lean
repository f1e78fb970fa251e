/-
  Layer 33 (markup): Escape, the chapter's.
-/
import Derived.Test.YtejjidbodfoiiaaGreatDoorMkK
import Derived.Lib.SlBytesConst
namespace Go.Proofs.YtejjidbodfoiiaaGreatDoor
open Go.RowKit
set_option linter.unusedVariables false
set_option linter.unusedSimpArgs false
attribute [local go_sem] B_data B_size

def u8s (l : List UInt8) : List Value := l.map fun b => .int .u8 (b.toNat : Int)
theorem u8s_len (l : List UInt8) : (u8s l).length = l.length := by simp [u8s]
theorem u8s_app (a b : List UInt8) : u8s (a ++ b) = u8s a ++ u8s b := by simp [u8s]
theorem conv_rd {w : World} {M n : Nat} {A : Option Addr} {l : List UInt8} (h : Rd w M 1 A n (u8s l)) (c : Nat) : (convert 108 9 (.slice A n c)).run Tryz.prog w = .ok (.string (B l)) w := by
  have hl : l.length = n := by have := h.1; rw [u8s_len] at this; omega
  rcases A with _ | ad
  · have hn : n = 0 := by
      rcases Nat.eq_zero_or_pos n with h0 | h0
      · exact h0
      · obtain ⟨ad, e, _⟩ := h.2 h0; cases e
    subst hn
    obtain rfl : l = [] := List.eq_nil_of_length_eq_zero hl
    rw [run_convert_bytes_string w 108 9 5 none 0 c Tryz.underlying108 Tryz.underlying5 Tryz.underlying9]; rfl
  · subst hl
    refine run_convert_bytes_back w 108 9 5 ad c l Tryz.underlying108 Tryz.underlying5 Tryz.underlying9 (fun j hj => ?_)
    obtain ⟨ad', e, _, hc⟩ := h.2 (by omega)
    injection e with e
    subst e
    exact hc j _ (by simp [u8s, hj])
end Go.Proofs.YtejjidbodfoiiaaGreatDoor
