/-
  Layer 28 (locale): the walk of the law LocaleCollations.
-/
import Derived.Test.YtkndgkiglaacnaaDoorLocColW
import Derived.Test.YtkndgkiglaacnaaDoorLocTde
import Derived.Test.YtkndgkiglaacnaaDoorLocTfr
import Derived.Test.YtkndgkiglaacnaaDoorLocTes
import Derived.Test.YtkndgkiglaacnaaDoorLocHno
namespace Go.Proofs.YtkndgkiglaacnaaDoor
open Go.RowKit
set_option linter.unusedVariables false
set_option linter.unusedSimpArgs false

theorem good_no : goodC (digT ++ letK false 26) [] = true := by decide +kernel
theorem good_de : goodC (digT ++ letK false 26) rank_de = true := by decide +kernel
theorem good_fr : goodC (digT ++ letK false 26) rank_fr = true := by decide +kernel
theorem good_es : goodC (digT ++ letK true 26) rank_es = true := by decide +kernel
theorem few_no : ∀ lf, goodO [] (digT ++ letK false 26) = some lf → lf.length ≤ 500 := by
  have h : ((goodO [] (digT ++ letK false 26)).all fun l => decide (l.length ≤ 500)) = true := by decide +kernel
  intro lf e
  rw [e] at h
  simpa using h
theorem few_es : ∀ lf, goodO [] (digT ++ letK true 26) = some lf → lf.length ≤ 500 := by
  have h : ((goodO [] (digT ++ letK true 26)).all fun l => decide (l.length ≤ 500)) = true := by decide +kernel
  intro lf e
  rw [e] at h
  simpa using h
theorem localeCollations_walk (w : World) (a : ByteArray) (_ : a.size ≤ maxLen) (hG : GlobL w) :
    Calls Tryd.prog 9 #[.string a] w fun e w' => e = .returned (.bool true) ∧ Below w.heap.size w w' := by
  obtain ⟨l, rfl⟩ : ∃ l, a = B l := ⟨a.toList, (B_self a).symm⟩
  have len_no : (digT ++ letK false 26).length ≤ 100 := by decide +kernel
  have len_es : (digT ++ letK true 26).length ≤ 100 := by decide +kernel
  rcases lang_cases l with rfl | rfl | rfl | rfl | ⟨h0, h1, h2, h3, h4⟩
  · exact collations_at _ _ _ w hG (fun w h => coll_no _ w h (by decide) (by decide) (by decide)) (fun w => rcoll_no _ w (by decide) (by decide) (by decide)) good_no len_no (by decide) few_no
  · exact collations_at _ _ _ w hG coll_de rcoll_de good_de len_no (by decide) few_no
  · exact collations_at _ _ _ w hG coll_fr rcoll_fr good_fr len_no (by decide) few_no
  · exact collations_at _ _ _ w hG coll_es rcoll_es good_es len_es (by decide) few_es
  · have e : ixL l = -1 := by unfold ixL; rw [h4]; rfl
    exact collations_at _ _ _ w hG (fun w h => coll_no l w h h1 h2 h3) (fun w => rcoll_no l w (by rw [e]; rfl) (by rw [e]; rfl) (by rw [e]; rfl)) good_no len_no (by decide) few_no
end Go.Proofs.YtkndgkiglaacnaaDoor
