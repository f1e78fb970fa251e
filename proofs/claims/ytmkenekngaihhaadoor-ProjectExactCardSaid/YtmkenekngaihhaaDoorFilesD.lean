/-
  Layer 16 (files): the reference's name, parts, joined and Clean.
-/
import Derived.Test.YtmkenekngaihhaaDoorFilesC
namespace Go.Proofs.YtmkenekngaihhaaDoor.Fil
set_option linter.unusedSimpArgs false
open Go.RowKit
set_option linter.unusedVariables false
attribute [local go_sem] B_data B_size

theorem B_app (a b : List UInt8) : B (a ++ b) = B a ++ B b := by
  apply ByteArray.ext; simp [B]
end Go.Proofs.YtmkenekngaihhaaDoor.Fil
