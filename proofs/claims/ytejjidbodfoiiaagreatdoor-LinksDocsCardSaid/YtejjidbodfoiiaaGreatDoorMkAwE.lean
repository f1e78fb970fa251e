/-
  Layer 33 (markup): the examples of the statements: awake.
  Layer 33 (markup): the walk of the law MarkupExact.
-/
import Derived.Test.YtejjidbodfoiiaaGreatDoorMkRf
import Derived.Test.YtejjidbodfoiiaaGreatDoorMkX
import Derived.Test.YtejjidbodfoiiaaGreatDoorMkN
import Derived.Laws.StructEq
import Derived.Laws.EntriesVeiled
namespace Go.Proofs.YtejjidbodfoiiaaGreatDoor
open Go.RowKit
set_option linter.unusedVariables false
set_option linter.unusedSimpArgs false
attribute [local go_sem] B_data B_size
attribute [local go_sem ↓] Go.wp_at_zero Go.wp_at_succ

theorem rd_newN (w : World) (xs : List Value) (t : TypeId) (sz n : Nat) (hn : xs.length = n * sz) : Rd (w.alloc (.cells xs.toArray t)) (w.heap.size + 1) sz (some ⟨w.heap.size, 0, none⟩) n xs :=
  ⟨hn, fun _ => ⟨⟨w.heap.size, 0, none⟩, rfl, Nat.lt_succ_self _, fun j u hj => by
    rw [addr_lit, cell_of_row (w.alloc (.cells xs.toArray t)) w.heap.size _ xs.toArray t (0, 0) (heap_alloc_new w _)]
    simpa using hj⟩⟩
theorem Rd.rdB {w : World} {M sz n : Nat} {A : Option Addr} {xs : List Value} (h : Rd w M sz A n xs) : RdS w (fun b => b < M) sz A n xs := h.rdS (fun _ h => h)
theorem rd0 {w : World} {S : Nat → Prop} {sz : Nat} {A : Option Addr} : RdS w S sz A 0 [] := ⟨by simp, fun h => absurd h (Nat.lt_irrefl 0)⟩
theorem NdB.step {W W' : World} {n : Nd} {c : NC} (h : NdB W W.heap.size n c) (hb : Below W.heap.size W W') : NdB W' W'.heap.size n c := (h.below hb).more hb.size
/-- a node of one kid, of two -/
theorem nd_kids {W : World} {nm : List UInt8} {ks : List Nd} {cs : List NC} {K : Option Addr} {ck : Nat} {xs : List Value} (hK : Rd W W.heap.size 4 K ks.length xs) (hx : xs = cs.flatMap NC.cells) (hk : KsAt W (fun b => b < W.heap.size) ks cs) : NdB W W.heap.size (.mk nm [] [] ks) ⟨nm, [], none, 0, 0, K, ks.length, ck⟩ := by
  subst hx
  exact ⟨rfl, rfl, rd0, cs, hK.rdB, hk⟩
end Go.Proofs.YtejjidbodfoiiaaGreatDoor
namespace Go.Proofs.YtejjidbodfoiiaaGreatDoor
open Go.RowKit
set_option linter.unusedVariables false
set_option linter.unusedSimpArgs false
attribute [local go_sem] B_data B_size
attribute [local go_sem ↓] Go.wp_at_zero Go.wp_at_succ

theorem sz_mku : ∀ n, chk n = 0 → szN n ≤ 16 * (mku n).length := by
  refine Nd.ind ?_
  intro nm tx ats ks IH hc
  rw [chk_iff] at hc
  rcases hc with ⟨rfl, rfl, rfl, h1, h2⟩ | ⟨h1, h2, rfl, h4, h5, h6⟩
  · rw [mku, if_pos rfl, szN, szL]
    have := esc_len tx
    have := List.length_pos_iff.2 h1
    simp [mkAs]
    omega
  · have hL : ∀ t, chkKs t ks = 0 → szL ks ≤ 16 * (mkuL ks).length := by
      clear h1 h2 h4 h5 h6
      induction ks with
      | nil => intro t _; rw [szL]; omega
      | cons k r ih =>
        intro t h
        obtain ⟨_, a, b⟩ := (chkKs_cons t k r).1 h
        have := IH k (List.mem_cons_self ..) a
        have := ih (fun x hx => IH x (List.mem_cons_of_mem _ hx)) _ b
        rw [szL, mkuL, List.length_append]
        omega
    have hl := hL _ h6
    rw [szN, mku_elem nm [] ats ks h1, tailN]
    have h0 := List.length_pos_iff.2 h1
    cases he : emptyB nm
    · rw [if_neg (by simp)]
      simp only [List.length_cons, List.length_append, List.length_nil]
      omega
    · rw [if_pos rfl]
      have hk := h4 he
      subst hk
      simp only [szL, List.length_cons, List.length_append, List.length_nil]
      omega
end Go.Proofs.YtejjidbodfoiiaaGreatDoor
