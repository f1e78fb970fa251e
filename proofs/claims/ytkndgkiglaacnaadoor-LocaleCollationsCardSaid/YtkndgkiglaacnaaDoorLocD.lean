/-
  Layer 28 (locale): the words of the languages, on both sides.
-/
import Derived.Test.YtkndgkiglaacnaaDoorLocA
import Derived.Test.YtkndgkiglaacnaaDoorMap
namespace Go.Proofs.YtkndgkiglaacnaaDoor
set_option linter.unusedSimpArgs false
open Go.RowKit
set_option linter.unusedVariables false
attribute [local go_sem] B_data B_size

/-- the words of a language: key, singular, plural -/
def wordT : Nat → List (List UInt8 × List UInt8 × List UInt8)
  | 0 => [([115, 101, 99, 116, 105, 111, 110], [83, 101, 99, 116, 105, 111, 110], [83, 101, 99, 116, 105, 111, 110, 115]), ([102, 105, 103, 117, 114, 101], [70, 105, 103, 117, 114, 101], [70, 105, 103, 117, 114, 101, 115]), ([116, 97, 98, 108, 101], [84, 97, 98, 108, 101], [84, 97, 98, 108, 101, 115]), ([101, 113, 117, 97, 116, 105, 111, 110], [69, 113, 117, 97, 116, 105, 111, 110], [69, 113, 117, 97, 116, 105, 111, 110, 115]), ([112, 97, 103, 101], [80, 97, 103, 101], [80, 97, 103, 101, 115]), ([97, 110, 100], [97, 110, 100], [97, 110, 100]), ([111, 116, 104, 101, 114, 115], [111, 116, 104, 101, 114, 115], [111, 116, 104, 101, 114, 115]), ([101, 100, 105, 116, 101, 100], [101, 100, 105, 116, 101, 100, 32, 98, 121], [101, 100, 105, 116, 101, 100, 32, 98, 121]), ([99, 111, 110, 116, 101, 110, 116, 115], [67, 111, 110, 116, 101, 110, 116, 115], [67, 111, 110, 116, 101, 110, 116, 115]), ([105, 110, 100, 101, 120], [73, 110, 100, 101, 120], [73, 110, 100, 101, 120, 101, 115]), ([114, 101, 102, 101, 114, 101, 110, 99, 101, 115], [82, 101, 102, 101, 114, 101, 110, 99, 101, 115], [82, 101, 102, 101, 114, 101, 110, 99, 101, 115]), ([103, 108, 111, 115, 115, 97, 114, 121], [71, 108, 111, 115, 115, 97, 114, 121], [71, 108, 111, 115, 115, 97, 114, 105, 101, 115]), ([110, 111, 116, 101], [78, 111, 116, 101], [78, 111, 116, 101, 115]), ([99, 104, 97, 112, 116, 101, 114], [67, 104, 97, 112, 116, 101, 114], [67, 104, 97, 112, 116, 101, 114, 115])]
  | 1 => [([115, 101, 99, 116, 105, 111, 110], [65, 98, 115, 99, 104, 110, 105, 116, 116], [65, 98, 115, 99, 104, 110, 105, 116, 116, 101]), ([102, 105, 103, 117, 114, 101], [65, 98, 98, 105, 108, 100, 117, 110, 103], [65, 98, 98, 105, 108, 100, 117, 110, 103, 101, 110]), ([116, 97, 98, 108, 101], [84, 97, 98, 101, 108, 108, 101], [84, 97, 98, 101, 108, 108, 101, 110]), ([101, 113, 117, 97, 116, 105, 111, 110], [71, 108, 101, 105, 99, 104, 117, 110, 103], [71, 108, 101, 105, 99, 104, 117, 110, 103, 101, 110]), ([112, 97, 103, 101], [83, 101, 105, 116, 101], [83, 101, 105, 116, 101, 110]), ([97, 110, 100], [117, 110, 100], [117, 110, 100]), ([111, 116, 104, 101, 114, 115], [97, 110, 100, 101, 114, 101], [97, 110, 100, 101, 114, 101]), ([101, 100, 105, 116, 101, 100], [104, 101, 114, 97, 117, 115, 103, 101, 103, 101, 98, 101, 110, 32, 118, 111, 110], [104, 101, 114, 97, 117, 115, 103, 101, 103, 101, 98, 101, 110, 32, 118, 111, 110]), ([99, 111, 110, 116, 101, 110, 116, 115], [73, 110, 104, 97, 108, 116], [73, 110, 104, 97, 108, 116]), ([105, 110, 100, 101, 120], [82, 101, 103, 105, 115, 116, 101, 114], [82, 101, 103, 105, 115, 116, 101, 114]), ([114, 101, 102, 101, 114, 101, 110, 99, 101, 115], [76, 105, 116, 101, 114, 97, 116, 117, 114], [76, 105, 116, 101, 114, 97, 116, 117, 114]), ([103, 108, 111, 115, 115, 97, 114, 121], [71, 108, 111, 115, 115, 97, 114], [71, 108, 111, 115, 115, 97, 114, 101]), ([110, 111, 116, 101], [65, 110, 109, 101, 114, 107, 117, 110, 103], [65, 110, 109, 101, 114, 107, 117, 110, 103, 101, 110]), ([99, 104, 97, 112, 116, 101, 114], [75, 97, 112, 105, 116, 101, 108], [75, 97, 112, 105, 116, 101, 108])]
  | 2 => [([115, 101, 99, 116, 105, 111, 110], [83, 101, 99, 116, 105, 111, 110], [83, 101, 99, 116, 105, 111, 110, 115]), ([102, 105, 103, 117, 114, 101], [70, 105, 103, 117, 114, 101], [70, 105, 103, 117, 114, 101, 115]), ([116, 97, 98, 108, 101], [84, 97, 98, 108, 101, 97, 117], [84, 97, 98, 108, 101, 97, 117, 120]), ([101, 113, 117, 97, 116, 105, 111, 110], [195, 137, 113, 117, 97, 116, 105, 111, 110], [195, 137, 113, 117, 97, 116, 105, 111, 110, 115]), ([112, 97, 103, 101], [80, 97, 103, 101], [80, 97, 103, 101, 115]), ([97, 110, 100], [101, 116], [101, 116]), ([111, 116, 104, 101, 114, 115], [97, 117, 116, 114, 101, 115], [97, 117, 116, 114, 101, 115]), ([101, 100, 105, 116, 101, 100], [195, 169, 100, 105, 116, 195, 169, 32, 112, 97, 114], [195, 169, 100, 105, 116, 195, 169, 32, 112, 97, 114]), ([99, 111, 110, 116, 101, 110, 116, 115], [84, 97, 98, 108, 101, 32, 100, 101, 115, 32, 109, 97, 116, 105, 195, 168, 114, 101, 115], [84, 97, 98, 108, 101, 32, 100, 101, 115, 32, 109, 97, 116, 105, 195, 168, 114, 101, 115]), ([105, 110, 100, 101, 120], [73, 110, 100, 101, 120], [73, 110, 100, 101, 120]), ([114, 101, 102, 101, 114, 101, 110, 99, 101, 115], [82, 195, 169, 102, 195, 169, 114, 101, 110, 99, 101, 115], [82, 195, 169, 102, 195, 169, 114, 101, 110, 99, 101, 115]), ([103, 108, 111, 115, 115, 97, 114, 121], [71, 108, 111, 115, 115, 97, 105, 114, 101], [71, 108, 111, 115, 115, 97, 105, 114, 101, 115]), ([110, 111, 116, 101], [78, 111, 116, 101], [78, 111, 116, 101, 115]), ([99, 104, 97, 112, 116, 101, 114], [67, 104, 97, 112, 105, 116, 114, 101], [67, 104, 97, 112, 105, 116, 114, 101, 115])]
  | 3 => [([115, 101, 99, 116, 105, 111, 110], [83, 101, 99, 99, 105, 195, 179, 110], [83, 101, 99, 99, 105, 111, 110, 101, 115]), ([102, 105, 103, 117, 114, 101], [70, 105, 103, 117, 114, 97], [70, 105, 103, 117, 114, 97, 115]), ([116, 97, 98, 108, 101], [84, 97, 98, 108, 97], [84, 97, 98, 108, 97, 115]), ([101, 113, 117, 97, 116, 105, 111, 110], [69, 99, 117, 97, 99, 105, 195, 179, 110], [69, 99, 117, 97, 99, 105, 111, 110, 101, 115]), ([112, 97, 103, 101], [80, 195, 161, 103, 105, 110, 97], [80, 195, 161, 103, 105, 110, 97, 115]), ([97, 110, 100], [121], [121]), ([111, 116, 104, 101, 114, 115], [111, 116, 114, 111, 115], [111, 116, 114, 111, 115]), ([101, 100, 105, 116, 101, 100], [101, 100, 105, 116, 97, 100, 111, 32, 112, 111, 114], [101, 100, 105, 116, 97, 100, 111, 32, 112, 111, 114]), ([99, 111, 110, 116, 101, 110, 116, 115], [67, 111, 110, 116, 101, 110, 105, 100, 111], [67, 111, 110, 116, 101, 110, 105, 100, 111]), ([105, 110, 100, 101, 120], [195, 141, 110, 100, 105, 99, 101], [195, 141, 110, 100, 105, 99, 101, 115]), ([114, 101, 102, 101, 114, 101, 110, 99, 101, 115], [82, 101, 102, 101, 114, 101, 110, 99, 105, 97, 115], [82, 101, 102, 101, 114, 101, 110, 99, 105, 97, 115]), ([103, 108, 111, 115, 115, 97, 114, 121], [71, 108, 111, 115, 97, 114, 105, 111], [71, 108, 111, 115, 97, 114, 105, 111, 115]), ([110, 111, 116, 101], [78, 111, 116, 97], [78, 111, 116, 97, 115]), ([99, 104, 97, 112, 116, 101, 114], [67, 97, 112, 195, 173, 116, 117, 108, 111], [67, 97, 112, 195, 173, 116, 117, 108, 111, 115])]
  | _ => []
/-- a word, as the map has it -/
def wordV (p : List UInt8 × List UInt8 × List UInt8) : List UInt8 × Value := (p.1, .agg #[.string (B p.2.1), .string (B p.2.2)])
def wordM (i : Nat) : List (List UInt8 × Value) := (wordT i).map wordV
def look3 (k : List UInt8) : List (List UInt8 × List UInt8 × List UInt8) → Option (List UInt8 × List UInt8)
  | [] => none
  | p :: r => if k = p.1 then some p.2 else look3 k r
theorem look3_map (k : List UInt8) (l : List (List UInt8 × List UInt8 × List UInt8)) : lookL k (l.map wordV) = (look3 k l).map fun q => .agg #[.string (B q.1), .string (B q.2)] := by
  induction l with
  | nil => rfl
  | cons p r ih =>
    rw [List.map_cons, lookL, look3]
    by_cases h : k = p.1
    · rw [if_pos h, if_pos (by exact h)]; rfl
    · rw [if_neg h, if_neg (by exact h)]; exact ih
/-- the words of a key in a language -/
def termF (i : Nat) (k : List UInt8) : Option (List UInt8 × List UInt8) := look3 k (wordT i)

/-- a map that is being filled -/
def MapAt (M : Nat) (w0 : World) (b : Nat) (kvs : List (List UInt8 × Value)) (w : World) : Prop := SMap w b kvs ∧ Below M w0 w ∧ M ≤ b
theorem run_mk (w : World) : (Instr.makeMap 49 none).run Tryd.prog w = .ok (.map (some w.heap.size)) (w.alloc (.map #[] 0)) := rfl
theorem wpList_ins {P : Program} {w : World} {ops : Array Oper} {rest : List Oper} {o : Oper} {a : Act} {Q : Exit → Act → World → Prop} (hgd : o.guard = none) (T K E : TypeId) (m k v : Operand) (ho : o.op = .insert T m k v)
    (hT : P.underlying T = some (.map K E)) (hK : P.underlying K = some .string) (M : Nat) (w0 : World) (b : Nat) (kvs : List (List UInt8 × Value)) (hs : MapAt M w0 b kvs w) (hm : a.eval m = .map (some b)) (kl : List UInt8) (hk : a.eval k = .string (B kl)) (val : Value) (hv : a.eval v = val) (hn : lookL kl kvs = none)
    (h : ∀ w', MapAt M w0 b (kvs ++ [(kl, val)]) w' → wpList P ops Q rest (a.put o.dst undef) w') :
    wpList P ops Q (o :: rest) a w := by
  refine wpList_plain hgd fun K' hK' => ?_
  obtain ⟨w', hrun, r1, r2⟩ := SMap.put hT hK hs.1 kl val hn
  unfold Oper.wp
  simp [execOp, ho, hm, hk, hv, hrun, Result.andThen]
  refine hK' _ _ (h w' ⟨r1, hs.2.1.grown r2 (Nat.le_of_lt (Nat.lt_of_le_of_lt hs.2.2 hs.1.lt)) (fun k hk => ?_), hs.2.2⟩)
  injection hk with hk
  rw [← hk]; exact hs.2.2


set_option maxHeartbeats 8000000 in
set_option maxRecDepth 100000 in
theorem words_en0 (w : World) : Calls Tryd.prog 26 #[.string (B [101, 110])] w fun e w' => e = .returned (.map (some w.heap.size)) ∧ SMap w' w.heap.size (wordM 0) ∧ Below w.heap.size w w' := by
  have h0 : MapAt w.heap.size w w.heap.size [] (w.alloc (.map #[] 0)) := ⟨SMap.made w, below_alloc _ _, Nat.le_refl _⟩
  have hmk := run_mk
  go_enter Tryd.func26, Tryd.ntmps26
  go_wp2_with (refine wpList_ins rfl 49 9 47 _ _ _ rfl Tryd.underlying49 Tryd.underlying9 w.heap.size w w.heap.size _ h0 rfl [115, 101, 99, 116, 105, 111, 110] rfl _ rfl (by kernel_rfl) ?_)
  intro w1 h1
  clear h0
  go_wp2_with (refine wpList_ins rfl 49 9 47 _ _ _ rfl Tryd.underlying49 Tryd.underlying9 w.heap.size w w.heap.size _ h1 rfl [102, 105, 103, 117, 114, 101] rfl _ rfl (by kernel_rfl) ?_)
  intro w2 h2
  clear h1
  go_wp2_with (refine wpList_ins rfl 49 9 47 _ _ _ rfl Tryd.underlying49 Tryd.underlying9 w.heap.size w w.heap.size _ h2 rfl [116, 97, 98, 108, 101] rfl _ rfl (by kernel_rfl) ?_)
  intro w3 h3
  clear h2
  go_wp2_with (refine wpList_ins rfl 49 9 47 _ _ _ rfl Tryd.underlying49 Tryd.underlying9 w.heap.size w w.heap.size _ h3 rfl [101, 113, 117, 97, 116, 105, 111, 110] rfl _ rfl (by kernel_rfl) ?_)
  intro w4 h4
  clear h3
  go_wp2_with (refine wpList_ins rfl 49 9 47 _ _ _ rfl Tryd.underlying49 Tryd.underlying9 w.heap.size w w.heap.size _ h4 rfl [112, 97, 103, 101] rfl _ rfl (by kernel_rfl) ?_)
  intro w5 h5
  clear h4
  go_wp2_with (refine wpList_ins rfl 49 9 47 _ _ _ rfl Tryd.underlying49 Tryd.underlying9 w.heap.size w w.heap.size _ h5 rfl [97, 110, 100] rfl _ rfl (by kernel_rfl) ?_)
  intro w6 h6
  clear h5
  go_wp2_with (refine wpList_ins rfl 49 9 47 _ _ _ rfl Tryd.underlying49 Tryd.underlying9 w.heap.size w w.heap.size _ h6 rfl [111, 116, 104, 101, 114, 115] rfl _ rfl (by kernel_rfl) ?_)
  intro w7 h7
  clear h6
  go_wp2_with (refine wpList_ins rfl 49 9 47 _ _ _ rfl Tryd.underlying49 Tryd.underlying9 w.heap.size w w.heap.size _ h7 rfl [101, 100, 105, 116, 101, 100] rfl _ rfl (by kernel_rfl) ?_)
  intro w8 h8
  clear h7
  go_wp2_with (refine wpList_ins rfl 49 9 47 _ _ _ rfl Tryd.underlying49 Tryd.underlying9 w.heap.size w w.heap.size _ h8 rfl [99, 111, 110, 116, 101, 110, 116, 115] rfl _ rfl (by kernel_rfl) ?_)
  intro w9 h9
  clear h8
  go_wp2_with (refine wpList_ins rfl 49 9 47 _ _ _ rfl Tryd.underlying49 Tryd.underlying9 w.heap.size w w.heap.size _ h9 rfl [105, 110, 100, 101, 120] rfl _ rfl (by kernel_rfl) ?_)
  intro w10 h10
  clear h9
  go_wp2_with (refine wpList_ins rfl 49 9 47 _ _ _ rfl Tryd.underlying49 Tryd.underlying9 w.heap.size w w.heap.size _ h10 rfl [114, 101, 102, 101, 114, 101, 110, 99, 101, 115] rfl _ rfl (by kernel_rfl) ?_)
  intro w11 h11
  clear h10
  go_wp2_with (refine wpList_ins rfl 49 9 47 _ _ _ rfl Tryd.underlying49 Tryd.underlying9 w.heap.size w w.heap.size _ h11 rfl [103, 108, 111, 115, 115, 97, 114, 121] rfl _ rfl (by kernel_rfl) ?_)
  intro w12 h12
  clear h11
  go_wp2_with (refine wpList_ins rfl 49 9 47 _ _ _ rfl Tryd.underlying49 Tryd.underlying9 w.heap.size w w.heap.size _ h12 rfl [110, 111, 116, 101] rfl _ rfl (by kernel_rfl) ?_)
  intro w13 h13
  clear h12
  go_wp2_with (refine wpList_ins rfl 49 9 47 _ _ _ rfl Tryd.underlying49 Tryd.underlying9 w.heap.size w w.heap.size _ h13 rfl [99, 104, 97, 112, 116, 101, 114] rfl _ rfl (by kernel_rfl) ?_)
  intro w14 h14
  clear h13
  go_wp2
  go_ret
  exact ⟨rfl, h14.1, h14.2.1⟩

set_option maxHeartbeats 8000000 in
set_option maxRecDepth 100000 in
theorem words_de0 (w : World) : Calls Tryd.prog 26 #[.string (B [100, 101])] w fun e w' => e = .returned (.map (some w.heap.size)) ∧ SMap w' w.heap.size (wordM 1) ∧ Below w.heap.size w w' := by
  have h0 : MapAt w.heap.size w w.heap.size [] (w.alloc (.map #[] 0)) := ⟨SMap.made w, below_alloc _ _, Nat.le_refl _⟩
  have hmk := run_mk
  go_enter Tryd.func26, Tryd.ntmps26
  go_wp2_with (refine wpList_ins rfl 49 9 47 _ _ _ rfl Tryd.underlying49 Tryd.underlying9 w.heap.size w w.heap.size _ h0 rfl [115, 101, 99, 116, 105, 111, 110] rfl _ rfl (by kernel_rfl) ?_)
  intro w1 h1
  clear h0
  go_wp2_with (refine wpList_ins rfl 49 9 47 _ _ _ rfl Tryd.underlying49 Tryd.underlying9 w.heap.size w w.heap.size _ h1 rfl [102, 105, 103, 117, 114, 101] rfl _ rfl (by kernel_rfl) ?_)
  intro w2 h2
  clear h1
  go_wp2_with (refine wpList_ins rfl 49 9 47 _ _ _ rfl Tryd.underlying49 Tryd.underlying9 w.heap.size w w.heap.size _ h2 rfl [116, 97, 98, 108, 101] rfl _ rfl (by kernel_rfl) ?_)
  intro w3 h3
  clear h2
  go_wp2_with (refine wpList_ins rfl 49 9 47 _ _ _ rfl Tryd.underlying49 Tryd.underlying9 w.heap.size w w.heap.size _ h3 rfl [101, 113, 117, 97, 116, 105, 111, 110] rfl _ rfl (by kernel_rfl) ?_)
  intro w4 h4
  clear h3
  go_wp2_with (refine wpList_ins rfl 49 9 47 _ _ _ rfl Tryd.underlying49 Tryd.underlying9 w.heap.size w w.heap.size _ h4 rfl [112, 97, 103, 101] rfl _ rfl (by kernel_rfl) ?_)
  intro w5 h5
  clear h4
  go_wp2_with (refine wpList_ins rfl 49 9 47 _ _ _ rfl Tryd.underlying49 Tryd.underlying9 w.heap.size w w.heap.size _ h5 rfl [97, 110, 100] rfl _ rfl (by kernel_rfl) ?_)
  intro w6 h6
  clear h5
  go_wp2_with (refine wpList_ins rfl 49 9 47 _ _ _ rfl Tryd.underlying49 Tryd.underlying9 w.heap.size w w.heap.size _ h6 rfl [111, 116, 104, 101, 114, 115] rfl _ rfl (by kernel_rfl) ?_)
  intro w7 h7
  clear h6
  go_wp2_with (refine wpList_ins rfl 49 9 47 _ _ _ rfl Tryd.underlying49 Tryd.underlying9 w.heap.size w w.heap.size _ h7 rfl [101, 100, 105, 116, 101, 100] rfl _ rfl (by kernel_rfl) ?_)
  intro w8 h8
  clear h7
  go_wp2_with (refine wpList_ins rfl 49 9 47 _ _ _ rfl Tryd.underlying49 Tryd.underlying9 w.heap.size w w.heap.size _ h8 rfl [99, 111, 110, 116, 101, 110, 116, 115] rfl _ rfl (by kernel_rfl) ?_)
  intro w9 h9
  clear h8
  go_wp2_with (refine wpList_ins rfl 49 9 47 _ _ _ rfl Tryd.underlying49 Tryd.underlying9 w.heap.size w w.heap.size _ h9 rfl [105, 110, 100, 101, 120] rfl _ rfl (by kernel_rfl) ?_)
  intro w10 h10
  clear h9
  go_wp2_with (refine wpList_ins rfl 49 9 47 _ _ _ rfl Tryd.underlying49 Tryd.underlying9 w.heap.size w w.heap.size _ h10 rfl [114, 101, 102, 101, 114, 101, 110, 99, 101, 115] rfl _ rfl (by kernel_rfl) ?_)
  intro w11 h11
  clear h10
  go_wp2_with (refine wpList_ins rfl 49 9 47 _ _ _ rfl Tryd.underlying49 Tryd.underlying9 w.heap.size w w.heap.size _ h11 rfl [103, 108, 111, 115, 115, 97, 114, 121] rfl _ rfl (by kernel_rfl) ?_)
  intro w12 h12
  clear h11
  go_wp2_with (refine wpList_ins rfl 49 9 47 _ _ _ rfl Tryd.underlying49 Tryd.underlying9 w.heap.size w w.heap.size _ h12 rfl [110, 111, 116, 101] rfl _ rfl (by kernel_rfl) ?_)
  intro w13 h13
  clear h12
  go_wp2_with (refine wpList_ins rfl 49 9 47 _ _ _ rfl Tryd.underlying49 Tryd.underlying9 w.heap.size w w.heap.size _ h13 rfl [99, 104, 97, 112, 116, 101, 114] rfl _ rfl (by kernel_rfl) ?_)
  intro w14 h14
  clear h13
  go_wp2
  go_ret
  exact ⟨rfl, h14.1, h14.2.1⟩

set_option maxHeartbeats 8000000 in
set_option maxRecDepth 100000 in
theorem words_fr0 (w : World) : Calls Tryd.prog 47 #[.string (B [102, 114])] w fun e w' => e = .returned (.map (some w.heap.size)) ∧ SMap w' w.heap.size (wordM 2) ∧ Below w.heap.size w w' := by
  have h0 : MapAt w.heap.size w w.heap.size [] (w.alloc (.map #[] 0)) := ⟨SMap.made w, below_alloc _ _, Nat.le_refl _⟩
  have hmk := run_mk
  go_enter Tryd.func47, Tryd.ntmps47
  go_wp2_with (refine wpList_ins rfl 49 9 47 _ _ _ rfl Tryd.underlying49 Tryd.underlying9 w.heap.size w w.heap.size _ h0 rfl [115, 101, 99, 116, 105, 111, 110] rfl _ rfl (by kernel_rfl) ?_)
  intro w1 h1
  clear h0
  go_wp2_with (refine wpList_ins rfl 49 9 47 _ _ _ rfl Tryd.underlying49 Tryd.underlying9 w.heap.size w w.heap.size _ h1 rfl [102, 105, 103, 117, 114, 101] rfl _ rfl (by kernel_rfl) ?_)
  intro w2 h2
  clear h1
  go_wp2_with (refine wpList_ins rfl 49 9 47 _ _ _ rfl Tryd.underlying49 Tryd.underlying9 w.heap.size w w.heap.size _ h2 rfl [116, 97, 98, 108, 101] rfl _ rfl (by kernel_rfl) ?_)
  intro w3 h3
  clear h2
  go_wp2_with (refine wpList_ins rfl 49 9 47 _ _ _ rfl Tryd.underlying49 Tryd.underlying9 w.heap.size w w.heap.size _ h3 rfl [101, 113, 117, 97, 116, 105, 111, 110] rfl _ rfl (by kernel_rfl) ?_)
  intro w4 h4
  clear h3
  go_wp2_with (refine wpList_ins rfl 49 9 47 _ _ _ rfl Tryd.underlying49 Tryd.underlying9 w.heap.size w w.heap.size _ h4 rfl [112, 97, 103, 101] rfl _ rfl (by kernel_rfl) ?_)
  intro w5 h5
  clear h4
  go_wp2_with (refine wpList_ins rfl 49 9 47 _ _ _ rfl Tryd.underlying49 Tryd.underlying9 w.heap.size w w.heap.size _ h5 rfl [97, 110, 100] rfl _ rfl (by kernel_rfl) ?_)
  intro w6 h6
  clear h5
  go_wp2_with (refine wpList_ins rfl 49 9 47 _ _ _ rfl Tryd.underlying49 Tryd.underlying9 w.heap.size w w.heap.size _ h6 rfl [111, 116, 104, 101, 114, 115] rfl _ rfl (by kernel_rfl) ?_)
  intro w7 h7
  clear h6
  go_wp2_with (refine wpList_ins rfl 49 9 47 _ _ _ rfl Tryd.underlying49 Tryd.underlying9 w.heap.size w w.heap.size _ h7 rfl [101, 100, 105, 116, 101, 100] rfl _ rfl (by kernel_rfl) ?_)
  intro w8 h8
  clear h7
  go_wp2_with (refine wpList_ins rfl 49 9 47 _ _ _ rfl Tryd.underlying49 Tryd.underlying9 w.heap.size w w.heap.size _ h8 rfl [99, 111, 110, 116, 101, 110, 116, 115] rfl _ rfl (by kernel_rfl) ?_)
  intro w9 h9
  clear h8
  go_wp2_with (refine wpList_ins rfl 49 9 47 _ _ _ rfl Tryd.underlying49 Tryd.underlying9 w.heap.size w w.heap.size _ h9 rfl [105, 110, 100, 101, 120] rfl _ rfl (by kernel_rfl) ?_)
  intro w10 h10
  clear h9
  go_wp2_with (refine wpList_ins rfl 49 9 47 _ _ _ rfl Tryd.underlying49 Tryd.underlying9 w.heap.size w w.heap.size _ h10 rfl [114, 101, 102, 101, 114, 101, 110, 99, 101, 115] rfl _ rfl (by kernel_rfl) ?_)
  intro w11 h11
  clear h10
  go_wp2_with (refine wpList_ins rfl 49 9 47 _ _ _ rfl Tryd.underlying49 Tryd.underlying9 w.heap.size w w.heap.size _ h11 rfl [103, 108, 111, 115, 115, 97, 114, 121] rfl _ rfl (by kernel_rfl) ?_)
  intro w12 h12
  clear h11
  go_wp2_with (refine wpList_ins rfl 49 9 47 _ _ _ rfl Tryd.underlying49 Tryd.underlying9 w.heap.size w w.heap.size _ h12 rfl [110, 111, 116, 101] rfl _ rfl (by kernel_rfl) ?_)
  intro w13 h13
  clear h12
  go_wp2_with (refine wpList_ins rfl 49 9 47 _ _ _ rfl Tryd.underlying49 Tryd.underlying9 w.heap.size w w.heap.size _ h13 rfl [99, 104, 97, 112, 116, 101, 114] rfl _ rfl (by kernel_rfl) ?_)
  intro w14 h14
  clear h13
  go_wp2
  go_ret
  exact ⟨rfl, h14.1, h14.2.1⟩

set_option maxHeartbeats 8000000 in
set_option maxRecDepth 100000 in
theorem words_es0 (w : World) : Calls Tryd.prog 47 #[.string (B [101, 115])] w fun e w' => e = .returned (.map (some w.heap.size)) ∧ SMap w' w.heap.size (wordM 3) ∧ Below w.heap.size w w' := by
  have h0 : MapAt w.heap.size w w.heap.size [] (w.alloc (.map #[] 0)) := ⟨SMap.made w, below_alloc _ _, Nat.le_refl _⟩
  have hmk := run_mk
  go_enter Tryd.func47, Tryd.ntmps47
  go_wp2_with (refine wpList_ins rfl 49 9 47 _ _ _ rfl Tryd.underlying49 Tryd.underlying9 w.heap.size w w.heap.size _ h0 rfl [115, 101, 99, 116, 105, 111, 110] rfl _ rfl (by kernel_rfl) ?_)
  intro w1 h1
  clear h0
  go_wp2_with (refine wpList_ins rfl 49 9 47 _ _ _ rfl Tryd.underlying49 Tryd.underlying9 w.heap.size w w.heap.size _ h1 rfl [102, 105, 103, 117, 114, 101] rfl _ rfl (by kernel_rfl) ?_)
  intro w2 h2
  clear h1
  go_wp2_with (refine wpList_ins rfl 49 9 47 _ _ _ rfl Tryd.underlying49 Tryd.underlying9 w.heap.size w w.heap.size _ h2 rfl [116, 97, 98, 108, 101] rfl _ rfl (by kernel_rfl) ?_)
  intro w3 h3
  clear h2
  go_wp2_with (refine wpList_ins rfl 49 9 47 _ _ _ rfl Tryd.underlying49 Tryd.underlying9 w.heap.size w w.heap.size _ h3 rfl [101, 113, 117, 97, 116, 105, 111, 110] rfl _ rfl (by kernel_rfl) ?_)
  intro w4 h4
  clear h3
  go_wp2_with (refine wpList_ins rfl 49 9 47 _ _ _ rfl Tryd.underlying49 Tryd.underlying9 w.heap.size w w.heap.size _ h4 rfl [112, 97, 103, 101] rfl _ rfl (by kernel_rfl) ?_)
  intro w5 h5
  clear h4
  go_wp2_with (refine wpList_ins rfl 49 9 47 _ _ _ rfl Tryd.underlying49 Tryd.underlying9 w.heap.size w w.heap.size _ h5 rfl [97, 110, 100] rfl _ rfl (by kernel_rfl) ?_)
  intro w6 h6
  clear h5
  go_wp2_with (refine wpList_ins rfl 49 9 47 _ _ _ rfl Tryd.underlying49 Tryd.underlying9 w.heap.size w w.heap.size _ h6 rfl [111, 116, 104, 101, 114, 115] rfl _ rfl (by kernel_rfl) ?_)
  intro w7 h7
  clear h6
  go_wp2_with (refine wpList_ins rfl 49 9 47 _ _ _ rfl Tryd.underlying49 Tryd.underlying9 w.heap.size w w.heap.size _ h7 rfl [101, 100, 105, 116, 101, 100] rfl _ rfl (by kernel_rfl) ?_)
  intro w8 h8
  clear h7
  go_wp2_with (refine wpList_ins rfl 49 9 47 _ _ _ rfl Tryd.underlying49 Tryd.underlying9 w.heap.size w w.heap.size _ h8 rfl [99, 111, 110, 116, 101, 110, 116, 115] rfl _ rfl (by kernel_rfl) ?_)
  intro w9 h9
  clear h8
  go_wp2_with (refine wpList_ins rfl 49 9 47 _ _ _ rfl Tryd.underlying49 Tryd.underlying9 w.heap.size w w.heap.size _ h9 rfl [105, 110, 100, 101, 120] rfl _ rfl (by kernel_rfl) ?_)
  intro w10 h10
  clear h9
  go_wp2_with (refine wpList_ins rfl 49 9 47 _ _ _ rfl Tryd.underlying49 Tryd.underlying9 w.heap.size w w.heap.size _ h10 rfl [114, 101, 102, 101, 114, 101, 110, 99, 101, 115] rfl _ rfl (by kernel_rfl) ?_)
  intro w11 h11
  clear h10
  go_wp2_with (refine wpList_ins rfl 49 9 47 _ _ _ rfl Tryd.underlying49 Tryd.underlying9 w.heap.size w w.heap.size _ h11 rfl [103, 108, 111, 115, 115, 97, 114, 121] rfl _ rfl (by kernel_rfl) ?_)
  intro w12 h12
  clear h11
  go_wp2_with (refine wpList_ins rfl 49 9 47 _ _ _ rfl Tryd.underlying49 Tryd.underlying9 w.heap.size w w.heap.size _ h12 rfl [110, 111, 116, 101] rfl _ rfl (by kernel_rfl) ?_)
  intro w13 h13
  clear h12
  go_wp2_with (refine wpList_ins rfl 49 9 47 _ _ _ rfl Tryd.underlying49 Tryd.underlying9 w.heap.size w w.heap.size _ h13 rfl [99, 104, 97, 112, 116, 101, 114] rfl _ rfl (by kernel_rfl) ?_)
  intro w14 h14
  clear h13
  go_wp2
  go_ret
  exact ⟨rfl, h14.1, h14.2.1⟩
theorem romance_no (l : List UInt8) (w : World) (h3 : (l == [102, 114]) = false) (h4 : (l == [101, 115]) = false) : Calls Tryd.prog 47 #[.string (B l)] w fun e w' => e = .returned (.map none) ∧ w = w' := by
  go_enter Tryd.func47, Tryd.ntmps47
  go_wp2
  go_ret
  exact ⟨rfl, rfl⟩
theorem words_en (w : World) : Calls Tryd.prog 26 #[.string (B [101, 110])] w fun e w' => e = .returned (.map (some w.heap.size)) ∧ SMap w' w.heap.size (wordM 0) ∧ Below w.heap.size w w' := words_en0 w
theorem words_de (w : World) : Calls Tryd.prog 26 #[.string (B [100, 101])] w fun e w' => e = .returned (.map (some w.heap.size)) ∧ SMap w' w.heap.size (wordM 1) ∧ Below w.heap.size w w' := words_de0 w
theorem words_fr (w : World) : Calls Tryd.prog 26 #[.string (B [102, 114])] w fun e w' => e = .returned (.map (some w.heap.size)) ∧ SMap w' w.heap.size (wordM 2) ∧ Below w.heap.size w w' := by
  go_enter Tryd.func26, Tryd.ntmps26
  go_wp2_with fail
  refine (words_fr0 w).mono ?_
  rintro e w1 ⟨rfl, hs, hb⟩
  go_wp2
  go_ret
  exact ⟨rfl, hs, hb⟩
theorem words_es (w : World) : Calls Tryd.prog 26 #[.string (B [101, 115])] w fun e w' => e = .returned (.map (some w.heap.size)) ∧ SMap w' w.heap.size (wordM 3) ∧ Below w.heap.size w w' := by
  go_enter Tryd.func26, Tryd.ntmps26
  go_wp2_with fail
  refine (words_es0 w).mono ?_
  rintro e w1 ⟨rfl, hs, hb⟩
  go_wp2
  go_ret
  exact ⟨rfl, hs, hb⟩
theorem words_no (l : List UInt8) (w : World) (h1 : (l == [101, 110]) = false) (h2 : (l == [100, 101]) = false) (h3 : (l == [102, 114]) = false) (h4 : (l == [101, 115]) = false) : Calls Tryd.prog 26 #[.string (B l)] w fun e w' => e = .returned (.map none) ∧ w = w' := by
  go_enter Tryd.func26, Tryd.ntmps26
  go_wp2_with fail
  refine (romance_no l w h3 h4).mono ?_
  rintro e w1 ⟨rfl, rfl⟩
  go_wp2
  go_ret
  exact ⟨rfl, rfl⟩
/-- what Term returns -/
def termS (l k : List UInt8) (n : Int) : List UInt8 := match termF (lang4 l) k with | none => [] | some p => if n = 1 then p.1 else p.2
def termB (l k : List UInt8) : Bool := (termF (lang4 l) k).isSome
def TermRet (l k : List UInt8) (n : Int) : Ending := .returned (.tuple #[.string (B (termS l k n)), .bool (termB l k)])
theorem term_none {l k : List UInt8} {n : Int} (h : termF (lang4 l) k = none) : TermRet l k n = .returned (.tuple #[.string ⟨#[]⟩, .bool false]) := by unfold TermRet termS termB; rw [h]; rfl
theorem term_some {l k : List UInt8} {n : Int} {p : List UInt8 × List UInt8} (h : termF (lang4 l) k = some p) : TermRet l k n = .returned (.tuple #[.string (B (if n = 1 then p.1 else p.2)), .bool true]) := by unfold TermRet termS termB; rw [h]; rfl
theorem zero2 (w : World) : (zeroValue 47).run Tryd.prog w = .ok (.agg #[.string ⟨#[]⟩, .string ⟨#[]⟩]) w := by kernel_rfl
theorem look_word (i b : Nat) (w : World) (h : SMap w b (wordM i)) (k : List UInt8) : (Instr.lookup 49 (.map (some b)) (.string (B k)) true).run Tryd.prog w = .ok (.tuple #[((termF i k).map fun q => .agg #[.string (B q.1), .string (B q.2)]).getD (.agg #[.string ⟨#[]⟩, .string ⟨#[]⟩]), .bool (termF i k).isSome]) w := by
  have := (SMap.look (T := 49) (K := 9) (E := 47) Tryd.underlying49 Tryd.underlying9 h k _ (zero2 w)).2
  rw [this]
  unfold wordM termF
  rw [look3_map]
  cases look3 k (wordT i) <;> rfl
theorem look_nil2 (w : World) (k : ByteArray) : (Instr.lookup 49 (.map none) (.string k) true).run Tryd.prog w = .ok (.tuple #[.agg #[.string ⟨#[]⟩, .string ⟨#[]⟩], .bool false]) w := by
  simp [Instr.lookup, run_underlying Tryd.underlying49, run_checkKey_string Tryd.underlying49 Tryd.underlying9, Instr.findKey, run_underlying Tryd.underlying9, Instr.findNow]


set_option maxHeartbeats 2000000 in
theorem term_lang (l k : List UInt8) (n : Int) (w : World) (i : Nat) (hi : lang4 l = i)
    (HC : Hid (Calls Tryd.prog 26 #[.string (B l)] w fun e w' => e = .returned (.map (some w.heap.size)) ∧ SMap w' w.heap.size (wordM i) ∧ Below w.heap.size w w')) :
    Calls Tryd.prog 10 #[.string (B l), .string (B k), .int .i64 n] w fun e w' => e = TermRet l k n ∧ Below w.heap.size w w' := by
  cases ht : termF i k with
  | none =>
    rw [term_none (by rw [hi]; exact ht)]
    clear hi
    go_enter Tryd.func10, Tryd.ntmps10
    go_wp2_with fail
    refine HC.out.mono ?_
    rintro e w1 ⟨rfl, hs, hb⟩
    have hlk := look_word i _ w1 hs k
    rw [ht] at hlk
    simp only [Option.map_none, Option.getD_none, Option.isSome_none] at hlk
    clear ht hs HC
    have hz := hb.size
    go_wp2
    go_ret2
    exact ⟨rfl, hb.alloc hz _⟩
  | some q =>
    rw [term_some (by rw [hi]; exact ht)]
    clear hi
    by_cases hn : n = 1
    · have e1 : (n == 1) = true := by simp [hn]
      rw [if_pos hn]
      clear hn
      go_enter Tryd.func10, Tryd.ntmps10
      go_wp2_with fail
      refine HC.out.mono ?_
      rintro e w1 ⟨rfl, hs, hb⟩
      have hlk := look_word i _ w1 hs k
      rw [ht] at hlk
      simp only [Option.map_some, Option.getD_some, Option.isSome_some] at hlk
      clear ht hs HC
      have hz := hb.size
      go_wp2
      go_ret2
      exact ⟨rfl, hb.alloc hz _⟩
    · have e1 : (n == 1) = false := by simpa using hn
      rw [if_neg hn]
      clear hn
      go_enter Tryd.func10, Tryd.ntmps10
      go_wp2_with fail
      refine HC.out.mono ?_
      rintro e w1 ⟨rfl, hs, hb⟩
      have hlk := look_word i _ w1 hs k
      rw [ht] at hlk
      simp only [Option.map_some, Option.getD_some, Option.isSome_some] at hlk
      clear ht hs HC
      have hz := hb.size
      go_wp2
      go_ret2
      exact ⟨rfl, hb.alloc hz _⟩
set_option maxHeartbeats 1000000 in
theorem term_any (l k : List UInt8) (n : Int) (w : World) : Calls Tryd.prog 10 #[.string (B l), .string (B k), .int .i64 n] w fun e w' => e = TermRet l k n ∧ Below w.heap.size w w' := by
  rcases lang_cases l with rfl | rfl | rfl | rfl | ⟨h1, h2, h3, h4, h⟩
  · exact term_lang _ k n w 0 rfl (words_en w)
  · exact term_lang _ k n w 1 rfl (words_de w)
  · exact term_lang _ k n w 2 rfl (words_fr w)
  · exact term_lang _ k n w 3 rfl (words_es w)
  · rw [term_none (by rw [h]; rfl)]
    clear h
    have hlk := fun w => look_nil2 w (B k)
    have HC := Lib.hid (words_no l w h1 h2 h3 h4)
    clear h1 h2 h3 h4
    go_enter Tryd.func10, Tryd.ntmps10
    go_wp2_with fail
    refine HC.out.mono ?_
    rintro e w1 ⟨rfl, rfl⟩
    go_wp2
    go_ret2
    exact ⟨rfl, below_alloc _ _⟩


/-- the keys -/
def keyT : List (List UInt8) := [[115, 101, 99, 116, 105, 111, 110], [102, 105, 103, 117, 114, 101], [116, 97, 98, 108, 101], [101, 113, 117, 97, 116, 105, 111, 110], [112, 97, 103, 101], [97, 110, 100], [111, 116, 104, 101, 114, 115], [101, 100, 105, 116, 101, 100], [99, 111, 110, 116, 101, 110, 116, 115], [105, 110, 100, 101, 120], [114, 101, 102, 101, 114, 101, 110, 99, 101, 115], [103, 108, 111, 115, 115, 97, 114, 121], [110, 111, 116, 101], [99, 104, 97, 112, 116, 101, 114]]
/-- the words of a key, as cells -/
def rowA : Nat → Array Value
  | 0 => #[.string ⟨#[83, 101, 99, 116, 105, 111, 110]⟩, .string ⟨#[83, 101, 99, 116, 105, 111, 110, 115]⟩, .string ⟨#[65, 98, 115, 99, 104, 110, 105, 116, 116]⟩, .string ⟨#[65, 98, 115, 99, 104, 110, 105, 116, 116, 101]⟩, .string ⟨#[83, 101, 99, 116, 105, 111, 110]⟩, .string ⟨#[83, 101, 99, 116, 105, 111, 110, 115]⟩, .string ⟨#[83, 101, 99, 99, 105, 195, 179, 110]⟩, .string ⟨#[83, 101, 99, 99, 105, 111, 110, 101, 115]⟩]
  | 1 => #[.string ⟨#[70, 105, 103, 117, 114, 101]⟩, .string ⟨#[70, 105, 103, 117, 114, 101, 115]⟩, .string ⟨#[65, 98, 98, 105, 108, 100, 117, 110, 103]⟩, .string ⟨#[65, 98, 98, 105, 108, 100, 117, 110, 103, 101, 110]⟩, .string ⟨#[70, 105, 103, 117, 114, 101]⟩, .string ⟨#[70, 105, 103, 117, 114, 101, 115]⟩, .string ⟨#[70, 105, 103, 117, 114, 97]⟩, .string ⟨#[70, 105, 103, 117, 114, 97, 115]⟩]
  | 2 => #[.string ⟨#[84, 97, 98, 108, 101]⟩, .string ⟨#[84, 97, 98, 108, 101, 115]⟩, .string ⟨#[84, 97, 98, 101, 108, 108, 101]⟩, .string ⟨#[84, 97, 98, 101, 108, 108, 101, 110]⟩, .string ⟨#[84, 97, 98, 108, 101, 97, 117]⟩, .string ⟨#[84, 97, 98, 108, 101, 97, 117, 120]⟩, .string ⟨#[84, 97, 98, 108, 97]⟩, .string ⟨#[84, 97, 98, 108, 97, 115]⟩]
  | 3 => #[.string ⟨#[69, 113, 117, 97, 116, 105, 111, 110]⟩, .string ⟨#[69, 113, 117, 97, 116, 105, 111, 110, 115]⟩, .string ⟨#[71, 108, 101, 105, 99, 104, 117, 110, 103]⟩, .string ⟨#[71, 108, 101, 105, 99, 104, 117, 110, 103, 101, 110]⟩, .string ⟨#[195, 137, 113, 117, 97, 116, 105, 111, 110]⟩, .string ⟨#[195, 137, 113, 117, 97, 116, 105, 111, 110, 115]⟩, .string ⟨#[69, 99, 117, 97, 99, 105, 195, 179, 110]⟩, .string ⟨#[69, 99, 117, 97, 99, 105, 111, 110, 101, 115]⟩]
  | 4 => #[.string ⟨#[80, 97, 103, 101]⟩, .string ⟨#[80, 97, 103, 101, 115]⟩, .string ⟨#[83, 101, 105, 116, 101]⟩, .string ⟨#[83, 101, 105, 116, 101, 110]⟩, .string ⟨#[80, 97, 103, 101]⟩, .string ⟨#[80, 97, 103, 101, 115]⟩, .string ⟨#[80, 195, 161, 103, 105, 110, 97]⟩, .string ⟨#[80, 195, 161, 103, 105, 110, 97, 115]⟩]
  | 5 => #[.string ⟨#[97, 110, 100]⟩, .string ⟨#[97, 110, 100]⟩, .string ⟨#[117, 110, 100]⟩, .string ⟨#[117, 110, 100]⟩, .string ⟨#[101, 116]⟩, .string ⟨#[101, 116]⟩, .string ⟨#[121]⟩, .string ⟨#[121]⟩]
  | 6 => #[.string ⟨#[111, 116, 104, 101, 114, 115]⟩, .string ⟨#[111, 116, 104, 101, 114, 115]⟩, .string ⟨#[97, 110, 100, 101, 114, 101]⟩, .string ⟨#[97, 110, 100, 101, 114, 101]⟩, .string ⟨#[97, 117, 116, 114, 101, 115]⟩, .string ⟨#[97, 117, 116, 114, 101, 115]⟩, .string ⟨#[111, 116, 114, 111, 115]⟩, .string ⟨#[111, 116, 114, 111, 115]⟩]
  | 7 => #[.string ⟨#[101, 100, 105, 116, 101, 100, 32, 98, 121]⟩, .string ⟨#[101, 100, 105, 116, 101, 100, 32, 98, 121]⟩, .string ⟨#[104, 101, 114, 97, 117, 115, 103, 101, 103, 101, 98, 101, 110, 32, 118, 111, 110]⟩, .string ⟨#[104, 101, 114, 97, 117, 115, 103, 101, 103, 101, 98, 101, 110, 32, 118, 111, 110]⟩, .string ⟨#[195, 169, 100, 105, 116, 195, 169, 32, 112, 97, 114]⟩, .string ⟨#[195, 169, 100, 105, 116, 195, 169, 32, 112, 97, 114]⟩, .string ⟨#[101, 100, 105, 116, 97, 100, 111, 32, 112, 111, 114]⟩, .string ⟨#[101, 100, 105, 116, 97, 100, 111, 32, 112, 111, 114]⟩]
  | 8 => #[.string ⟨#[67, 111, 110, 116, 101, 110, 116, 115]⟩, .string ⟨#[67, 111, 110, 116, 101, 110, 116, 115]⟩, .string ⟨#[73, 110, 104, 97, 108, 116]⟩, .string ⟨#[73, 110, 104, 97, 108, 116]⟩, .string ⟨#[84, 97, 98, 108, 101, 32, 100, 101, 115, 32, 109, 97, 116, 105, 195, 168, 114, 101, 115]⟩, .string ⟨#[84, 97, 98, 108, 101, 32, 100, 101, 115, 32, 109, 97, 116, 105, 195, 168, 114, 101, 115]⟩, .string ⟨#[67, 111, 110, 116, 101, 110, 105, 100, 111]⟩, .string ⟨#[67, 111, 110, 116, 101, 110, 105, 100, 111]⟩]
  | 9 => #[.string ⟨#[73, 110, 100, 101, 120]⟩, .string ⟨#[73, 110, 100, 101, 120, 101, 115]⟩, .string ⟨#[82, 101, 103, 105, 115, 116, 101, 114]⟩, .string ⟨#[82, 101, 103, 105, 115, 116, 101, 114]⟩, .string ⟨#[73, 110, 100, 101, 120]⟩, .string ⟨#[73, 110, 100, 101, 120]⟩, .string ⟨#[195, 141, 110, 100, 105, 99, 101]⟩, .string ⟨#[195, 141, 110, 100, 105, 99, 101, 115]⟩]
  | 10 => #[.string ⟨#[82, 101, 102, 101, 114, 101, 110, 99, 101, 115]⟩, .string ⟨#[82, 101, 102, 101, 114, 101, 110, 99, 101, 115]⟩, .string ⟨#[76, 105, 116, 101, 114, 97, 116, 117, 114]⟩, .string ⟨#[76, 105, 116, 101, 114, 97, 116, 117, 114]⟩, .string ⟨#[82, 195, 169, 102, 195, 169, 114, 101, 110, 99, 101, 115]⟩, .string ⟨#[82, 195, 169, 102, 195, 169, 114, 101, 110, 99, 101, 115]⟩, .string ⟨#[82, 101, 102, 101, 114, 101, 110, 99, 105, 97, 115]⟩, .string ⟨#[82, 101, 102, 101, 114, 101, 110, 99, 105, 97, 115]⟩]
  | 11 => #[.string ⟨#[71, 108, 111, 115, 115, 97, 114, 121]⟩, .string ⟨#[71, 108, 111, 115, 115, 97, 114, 105, 101, 115]⟩, .string ⟨#[71, 108, 111, 115, 115, 97, 114]⟩, .string ⟨#[71, 108, 111, 115, 115, 97, 114, 101]⟩, .string ⟨#[71, 108, 111, 115, 115, 97, 105, 114, 101]⟩, .string ⟨#[71, 108, 111, 115, 115, 97, 105, 114, 101, 115]⟩, .string ⟨#[71, 108, 111, 115, 97, 114, 105, 111]⟩, .string ⟨#[71, 108, 111, 115, 97, 114, 105, 111, 115]⟩]
  | 12 => #[.string ⟨#[78, 111, 116, 101]⟩, .string ⟨#[78, 111, 116, 101, 115]⟩, .string ⟨#[65, 110, 109, 101, 114, 107, 117, 110, 103]⟩, .string ⟨#[65, 110, 109, 101, 114, 107, 117, 110, 103, 101, 110]⟩, .string ⟨#[78, 111, 116, 101]⟩, .string ⟨#[78, 111, 116, 101, 115]⟩, .string ⟨#[78, 111, 116, 97]⟩, .string ⟨#[78, 111, 116, 97, 115]⟩]
  | _ => #[.string ⟨#[67, 104, 97, 112, 116, 101, 114]⟩, .string ⟨#[67, 104, 97, 112, 116, 101, 114, 115]⟩, .string ⟨#[75, 97, 112, 105, 116, 101, 108]⟩, .string ⟨#[75, 97, 112, 105, 116, 101, 108]⟩, .string ⟨#[67, 104, 97, 112, 105, 116, 114, 101]⟩, .string ⟨#[67, 104, 97, 112, 105, 116, 114, 101, 115]⟩, .string ⟨#[67, 97, 112, 195, 173, 116, 117, 108, 111]⟩, .string ⟨#[67, 97, 112, 195, 173, 116, 117, 108, 111, 115]⟩]
def entry (i j : Nat) : List UInt8 × List UInt8 := ((wordT i).getD j ([], [], [])).2
theorem i4 {i : Nat} (h : i < 4) : i = 0 ∨ i = 1 ∨ i = 2 ∨ i = 3 := by omega
theorem j14 {j : Nat} (h : j < 14) : j = 0 ∨ j = 1 ∨ j = 2 ∨ j = 3 ∨ j = 4 ∨ j = 5 ∨ j = 6 ∨ j = 7 ∨ j = 8 ∨ j = 9 ∨ j = 10 ∨ j = 11 ∨ j = 12 ∨ j = 13 := by omega
set_option maxRecDepth 100000 in
theorem row_cell (i j : Nat) (hi : i < 4) (hj : j < 14) (w : World) : (w.alloc (.cells (rowA j) 47)).cell? ⟨w.heap.size, i * 2, none⟩ = some (.string (B (entry i j).1)) ∧ (w.alloc (.cells (rowA j) 47)).cell? ⟨w.heap.size, i * 2 + 1, none⟩ = some (.string (B (entry i j).2)) := by
  rw [cell_of_row _ w.heap.size (i * 2) (rowA j) 47 (0, 0) (heap_alloc_new w _), cell_of_row _ w.heap.size (i * 2 + 1) (rowA j) 47 (0, 0) (heap_alloc_new w _)]
  rcases i4 hi with rfl | rfl | rfl | rfl <;> rcases j14 hj with rfl | rfl | rfl | rfl | rfl | rfl | rfl | rfl | rfl | rfl | rfl | rfl | rfl | rfl <;> exact ⟨rfl, rfl⟩
set_option maxRecDepth 100000 in
theorem term_at (i j : Nat) (hi : i < 4) (hj : j < 14) : termF i (keyT.getD j []) = some (entry i j) := by
  rcases i4 hi with rfl | rfl | rfl | rfl <;> rcases j14 hj with rfl | rfl | rfl | rfl | rfl | rfl | rfl | rfl | rfl | rfl | rfl | rfl | rfl | rfl <;> kernel_rfl
theorem key_at {k : List UInt8} (h : k ∈ keyT) : ∃ j, j < 14 ∧ k = keyT.getD j [] := by
  obtain ⟨j, hj, rfl⟩ := List.getElem_of_mem h
  exact ⟨j, hj, by simp [hj]⟩
theorem look3_none {k : List UInt8} {l : List (List UInt8 × List UInt8 × List UInt8)} (h : k ∉ l.map (·.1)) : look3 k l = none := by
  induction l with
  | nil => rfl
  | cons p r ih =>
    simp only [List.map_cons, List.mem_cons, not_or] at h
    rw [look3, if_neg h.1, ih h.2]
theorem term_out (i : Nat) {k : List UInt8} (h : k ∉ keyT) : termF i k = none := by
  unfold termF
  by_cases hi : i < 4
  · apply look3_none
    rcases i4 hi with rfl | rfl | rfl | rfl <;> exact h
  · have : wordT i = [] := by unfold wordT; split <;> first | omega | rfl
    rw [this]; rfl

set_option maxHeartbeats 2000000 in
set_option maxRecDepth 100000 in
theorem rwords_0 (w : World) : Calls Tryd.prog 28 #[.string (B [115, 101, 99, 116, 105, 111, 110])] w fun e w' => e = .returned (.slice (some ⟨w.heap.size, 0, none⟩) 4 4) ∧ w.alloc (.cells (rowA 0) 47) = w' := by
  go_enter Tryd.func28, Tryd.ntmps28
  go_wp2
  go_ret
  exact ⟨rfl, rfl⟩
set_option maxHeartbeats 2000000 in
set_option maxRecDepth 100000 in
theorem rwords_1 (w : World) : Calls Tryd.prog 28 #[.string (B [102, 105, 103, 117, 114, 101])] w fun e w' => e = .returned (.slice (some ⟨w.heap.size, 0, none⟩) 4 4) ∧ w.alloc (.cells (rowA 1) 47) = w' := by
  go_enter Tryd.func28, Tryd.ntmps28
  go_wp2
  go_ret
  exact ⟨rfl, rfl⟩
set_option maxHeartbeats 2000000 in
set_option maxRecDepth 100000 in
theorem rwords_2 (w : World) : Calls Tryd.prog 28 #[.string (B [116, 97, 98, 108, 101])] w fun e w' => e = .returned (.slice (some ⟨w.heap.size, 0, none⟩) 4 4) ∧ w.alloc (.cells (rowA 2) 47) = w' := by
  go_enter Tryd.func28, Tryd.ntmps28
  go_wp2
  go_ret
  exact ⟨rfl, rfl⟩
set_option maxHeartbeats 2000000 in
set_option maxRecDepth 100000 in
theorem rwords_3 (w : World) : Calls Tryd.prog 28 #[.string (B [101, 113, 117, 97, 116, 105, 111, 110])] w fun e w' => e = .returned (.slice (some ⟨w.heap.size, 0, none⟩) 4 4) ∧ w.alloc (.cells (rowA 3) 47) = w' := by
  go_enter Tryd.func28, Tryd.ntmps28
  go_wp2
  go_ret
  exact ⟨rfl, rfl⟩
set_option maxHeartbeats 2000000 in
set_option maxRecDepth 100000 in
theorem rwords_4 (w : World) : Calls Tryd.prog 28 #[.string (B [112, 97, 103, 101])] w fun e w' => e = .returned (.slice (some ⟨w.heap.size, 0, none⟩) 4 4) ∧ w.alloc (.cells (rowA 4) 47) = w' := by
  go_enter Tryd.func28, Tryd.ntmps28
  go_wp2
  go_ret
  exact ⟨rfl, rfl⟩
set_option maxHeartbeats 2000000 in
set_option maxRecDepth 100000 in
theorem rwords_5 (w : World) : Calls Tryd.prog 28 #[.string (B [97, 110, 100])] w fun e w' => e = .returned (.slice (some ⟨w.heap.size, 0, none⟩) 4 4) ∧ w.alloc (.cells (rowA 5) 47) = w' := by
  go_enter Tryd.func28, Tryd.ntmps28
  go_wp2
  go_ret
  exact ⟨rfl, rfl⟩
set_option maxHeartbeats 2000000 in
set_option maxRecDepth 100000 in
theorem rwords_6 (w : World) : Calls Tryd.prog 28 #[.string (B [111, 116, 104, 101, 114, 115])] w fun e w' => e = .returned (.slice (some ⟨w.heap.size, 0, none⟩) 4 4) ∧ w.alloc (.cells (rowA 6) 47) = w' := by
  go_enter Tryd.func28, Tryd.ntmps28
  go_wp2
  go_ret
  exact ⟨rfl, rfl⟩
set_option maxHeartbeats 2000000 in
set_option maxRecDepth 100000 in
theorem rwords_7 (w : World) : Calls Tryd.prog 28 #[.string (B [101, 100, 105, 116, 101, 100])] w fun e w' => e = .returned (.slice (some ⟨w.heap.size, 0, none⟩) 4 4) ∧ w.alloc (.cells (rowA 7) 47) = w' := by
  go_enter Tryd.func28, Tryd.ntmps28
  go_wp2
  go_ret
  exact ⟨rfl, rfl⟩
set_option maxHeartbeats 2000000 in
set_option maxRecDepth 100000 in
theorem rwords_8 (w : World) : Calls Tryd.prog 28 #[.string (B [99, 111, 110, 116, 101, 110, 116, 115])] w fun e w' => e = .returned (.slice (some ⟨w.heap.size, 0, none⟩) 4 4) ∧ w.alloc (.cells (rowA 8) 47) = w' := by
  go_enter Tryd.func28, Tryd.ntmps28
  go_wp2
  go_ret
  exact ⟨rfl, rfl⟩
set_option maxHeartbeats 2000000 in
set_option maxRecDepth 100000 in
theorem rwords_9 (w : World) : Calls Tryd.prog 28 #[.string (B [105, 110, 100, 101, 120])] w fun e w' => e = .returned (.slice (some ⟨w.heap.size, 0, none⟩) 4 4) ∧ w.alloc (.cells (rowA 9) 47) = w' := by
  go_enter Tryd.func28, Tryd.ntmps28
  go_wp2
  go_ret
  exact ⟨rfl, rfl⟩
set_option maxHeartbeats 2000000 in
set_option maxRecDepth 100000 in
theorem rwords_10 (w : World) : Calls Tryd.prog 28 #[.string (B [114, 101, 102, 101, 114, 101, 110, 99, 101, 115])] w fun e w' => e = .returned (.slice (some ⟨w.heap.size, 0, none⟩) 4 4) ∧ w.alloc (.cells (rowA 10) 47) = w' := by
  go_enter Tryd.func28, Tryd.ntmps28
  go_wp2
  go_ret
  exact ⟨rfl, rfl⟩
set_option maxHeartbeats 2000000 in
set_option maxRecDepth 100000 in
theorem rwords_11 (w : World) : Calls Tryd.prog 28 #[.string (B [103, 108, 111, 115, 115, 97, 114, 121])] w fun e w' => e = .returned (.slice (some ⟨w.heap.size, 0, none⟩) 4 4) ∧ w.alloc (.cells (rowA 11) 47) = w' := by
  go_enter Tryd.func28, Tryd.ntmps28
  go_wp2
  go_ret
  exact ⟨rfl, rfl⟩
set_option maxHeartbeats 2000000 in
set_option maxRecDepth 100000 in
theorem rwords_12 (w : World) : Calls Tryd.prog 28 #[.string (B [110, 111, 116, 101])] w fun e w' => e = .returned (.slice (some ⟨w.heap.size, 0, none⟩) 4 4) ∧ w.alloc (.cells (rowA 12) 47) = w' := by
  go_enter Tryd.func28, Tryd.ntmps28
  go_wp2
  go_ret
  exact ⟨rfl, rfl⟩
set_option maxHeartbeats 2000000 in
set_option maxRecDepth 100000 in
theorem rwords_13 (w : World) : Calls Tryd.prog 28 #[.string (B [99, 104, 97, 112, 116, 101, 114])] w fun e w' => e = .returned (.slice (some ⟨w.heap.size, 0, none⟩) 4 4) ∧ w.alloc (.cells (rowA 13) 47) = w' := by
  go_enter Tryd.func28, Tryd.ntmps28
  go_wp2
  go_ret
  exact ⟨rfl, rfl⟩
theorem rwords_at (j : Nat) (hj : j < 14) (w : World) : Calls Tryd.prog 28 #[.string (B (keyT.getD j []))] w fun e w' => e = .returned (.slice (some ⟨w.heap.size, 0, none⟩) 4 4) ∧ w.alloc (.cells (rowA j) 47) = w' := by
  rcases j14 hj with rfl | rfl | rfl | rfl | rfl | rfl | rfl | rfl | rfl | rfl | rfl | rfl | rfl | rfl
  · exact rwords_0 w
  · exact rwords_1 w
  · exact rwords_2 w
  · exact rwords_3 w
  · exact rwords_4 w
  · exact rwords_5 w
  · exact rwords_6 w
  · exact rwords_7 w
  · exact rwords_8 w
  · exact rwords_9 w
  · exact rwords_10 w
  · exact rwords_11 w
  · exact rwords_12 w
  · exact rwords_13 w
set_option maxHeartbeats 2000000 in
set_option maxRecDepth 100000 in
theorem rwords_no (k : List UInt8) (w : World) (h : k ∉ keyT) : Calls Tryd.prog 28 #[.string (B k)] w fun e w' => e = .returned (.slice none 0 0) ∧ w = w' := by
  simp only [keyT, List.mem_cons, List.not_mem_nil, or_false, not_or] at h
  obtain ⟨g0, g1, g2, g3, g4, g5, g6, g7, g8, g9, g10, g11, g12, g13⟩ := h
  have k0 : (k == [115, 101, 99, 116, 105, 111, 110]) = false := by simpa using g0
  have k1 : (k == [102, 105, 103, 117, 114, 101]) = false := by simpa using g1
  have k2 : (k == [116, 97, 98, 108, 101]) = false := by simpa using g2
  have k3 : (k == [101, 113, 117, 97, 116, 105, 111, 110]) = false := by simpa using g3
  have k4 : (k == [112, 97, 103, 101]) = false := by simpa using g4
  have k5 : (k == [97, 110, 100]) = false := by simpa using g5
  have k6 : (k == [111, 116, 104, 101, 114, 115]) = false := by simpa using g6
  have k7 : (k == [101, 100, 105, 116, 101, 100]) = false := by simpa using g7
  have k8 : (k == [99, 111, 110, 116, 101, 110, 116, 115]) = false := by simpa using g8
  have k9 : (k == [105, 110, 100, 101, 120]) = false := by simpa using g9
  have k10 : (k == [114, 101, 102, 101, 114, 101, 110, 99, 101, 115]) = false := by simpa using g10
  have k11 : (k == [103, 108, 111, 115, 115, 97, 114, 121]) = false := by simpa using g11
  have k12 : (k == [110, 111, 116, 101]) = false := by simpa using g12
  have k13 : (k == [99, 104, 97, 112, 116, 101, 114]) = false := by simpa using g13
  clear g0 g1 g2 g3 g4 g5 g6 g7 g8 g9 g10 g11 g12 g13
  go_enter Tryd.func28, Tryd.ntmps28
  go_wp2
  go_ret
  exact ⟨rfl, rfl⟩
set_option maxHeartbeats 2000000 in
theorem rterm_any (l k : List UInt8) (n : Int) (w : World) : Calls Tryd.prog 11 #[.string (B l), .string (B k), .int .i64 n] w fun e w' => e = TermRet l k n ∧ Below w.heap.size w w' := by
  have HC := Lib.hid (rindex_any l w)
  by_cases hk : k ∈ keyT
  · obtain ⟨j, hj, rfl⟩ := key_at hk
    have HW := Lib.hid (rwords_at j hj)
    by_cases hl : lang4 l < 4
    · rw [show ixL l = (lang4 l : Int) from by unfold ixL; rw [if_pos hl]] at HC
      have HR := Lib.hid (row_cell (lang4 l) j hl hj)
      rw [term_some (term_at (lang4 l) j hl hj)]
      clear hk
      generalize lang4 l = i at *
      generalize keyT.getD j [] = kk at *
      generalize entry i j = q at *
      have d0 : decide ((i : Int) < 0) = false := by simp
      by_cases hn : n = 1
      · have e1 : (n == 1) = true := by simp [hn]
        rw [if_pos hn]
        clear hn
        go_enter Tryd.func11, Tryd.ntmps11
        go_wp2_with fail
        refine HC.out.mono ?_
        rintro e w1 ⟨rfl, hb⟩
        go_wp2_with fail
        refine (HW.out w1).mono ?_
        rintro e w2 ⟨rfl, hw⟩
        have hc := HR.out w1
        rw [hw] at hc
        obtain ⟨c1, c2⟩ := hc
        have hb2 : Below w.heap.size w w2 := by rw [← hw]; exact hb.alloc hb.size _
        clear hw HC HW HR
        go_wp2
        go_ret2
        exact ⟨rfl, hb2⟩
      · have e1 : (n == 1) = false := by simpa using hn
        rw [if_neg hn]
        clear hn
        go_enter Tryd.func11, Tryd.ntmps11
        go_wp2_with fail
        refine HC.out.mono ?_
        rintro e w1 ⟨rfl, hb⟩
        go_wp2_with fail
        refine (HW.out w1).mono ?_
        rintro e w2 ⟨rfl, hw⟩
        have hc := HR.out w1
        rw [hw] at hc
        obtain ⟨c1, c2⟩ := hc
        have hb2 : Below w.heap.size w w2 := by rw [← hw]; exact hb.alloc hb.size _
        clear hw HC HW HR
        go_wp2
        go_ret2
        exact ⟨rfl, hb2⟩
    · rw [show ixL l = -1 from by unfold ixL; rw [if_neg hl]] at HC
      have e4 : wordT (lang4 l) = [] := by unfold wordT; split <;> first | omega | rfl
      rw [term_none (by unfold termF; rw [e4]; rfl)]
      clear hk e4 hl
      generalize keyT.getD j [] = kk at *
      go_enter Tryd.func11, Tryd.ntmps11
      go_wp2_with fail
      refine HC.out.mono ?_
      rintro e w1 ⟨rfl, hb⟩
      go_wp2_with fail
      refine (HW.out w1).mono ?_
      rintro e w2 ⟨rfl, hw⟩
      have hb2 : Below w.heap.size w w2 := by rw [← hw]; exact hb.alloc hb.size _
      clear hw HC HW
      go_wp2
      go_ret2
      exact ⟨rfl, hb2⟩
  · rw [term_none (term_out _ hk)]
    have HW := Lib.hid (fun w => rwords_no k w hk)
    clear hk
    have hix : ixL l < 0 ∨ (0 : Int) ≤ ixL l := by omega
    generalize ixL l = ix at *
    rcases hix with hx | hx
    · have d0 : decide (ix < 0) = true := by simpa using hx
      go_enter Tryd.func11, Tryd.ntmps11
      go_wp2_with fail
      refine HC.out.mono ?_
      rintro e w1 ⟨rfl, hb⟩
      go_wp2_with fail
      refine (HW.out w1).mono ?_
      rintro e w2 ⟨rfl, rfl⟩
      go_wp2
      go_ret2
      exact ⟨rfl, hb⟩
    · have d0 : decide (ix < 0) = false := by simpa using hx
      go_enter Tryd.func11, Tryd.ntmps11
      go_wp2_with fail
      refine HC.out.mono ?_
      rintro e w1 ⟨rfl, hb⟩
      go_wp2_with fail
      refine (HW.out w1).mono ?_
      rintro e w2 ⟨rfl, rfl⟩
      go_wp2
      go_ret2
      exact ⟨rfl, hb⟩
end Go.Proofs.YtkndgkiglaacnaaDoor
