/-
  No cell of these rows narrows 'for every input' (looked for: loops, veiled, ifaces, maps, wideKeys, modest, calm, conditions, laid).
  DERIVED. THE GIVEN ROWS OF THIS SEAT. 5 by the template 'for every input the law returns true; each argument reads behind the call as it read before'; 0 by the template 'total and deterministic' (their statements: YtbikldmhfaecpaaTotals.lean).
  GIVEN WITH THE SEED: the statements are not yours to turn. If you find one false, say at which input.
  Laid BY PROGRAM, IN A SANDBOX (cutbox-rows.mjs): the forced cells as the released guide's own fill.sh prints them over the translation affcbd4e79102091… (all of the seat's roots in one cut). By AI agents, Wed Nov 11 2026. No macro, syntax, notation, axiom, sorry.
-/
import Derived.Test.YtbikldmhfaecpaaChecked
import GoSem.Claim
import GoSem.ClaimJoined
import GoSem.ClaimMapViews
import Derived.JoinedTies
import Derived.KernelRfl
namespace Go.Proofs.Ytbikldmhfaecpaa
/- THE CELL 'sum', in the pinned program and in every row, IS THE sha256 OF THE DUMP (.gsa) THAT YtbikldmhfaecpaaProg.lean LOADS. Nothing in Lean hashes anything: it is a label: what it is worth is what the hold of that sum in a sandbox is worth. -/
noncomputable def Try.pinned : Pinned := { name := "ytbikldmhfaecpaa", sum := "affcbd4e7910209102160dc1e44f2dcf31a8f8660e75026239870f143e1838bc", checked := Try.checked }
namespace Rows
def none {H : Type} : Left H := { results := [], args := [] }

/-- 'publisherlaw48.GraphPlays': WHATEVER THE INPUT: true; the input reads as it did. -/
def graphPlaysSpec : ChangeSpec := { name := "graphPlays", fn := fun _ => fun
  | [d] => { results := [.lit (.bool true)], args := [d] }
  | _ => none }
def graphPlaysRow : OpenClaim := { program := "ytbikldmhfaecpaa", sum := "affcbd4e7910209102160dc1e44f2dcf31a8f8660e75026239870f143e1838bc", func := "publisher/publisherlaw48.GraphPlays", spec := "graphPlays", unfollowed := true, recurses := true, apart := false }
def GraphPlaysSaid : Prop := graphPlaysRow.holds Try.pinned (OpenSpec.ofChange graphPlaysSpec)

/-- ITS FALSE NEIGHBOUR: 'it returns false'. Refute it at one input. -/
def graphPlaysWrong : ChangeSpec := { name := "graphPlays", fn := fun _ => fun
  | [d] => { results := [.lit (.bool false)], args := [d] }
  | _ => none }
def GraphPlaysWrongFalsely : Prop := graphPlaysRow.holds Try.pinned (OpenSpec.ofChange graphPlaysWrong)

/-- 'publisherlaw48.GraphFresh': WHATEVER THE INPUT: true; the input reads as it did. -/
def graphFreshSpec : ChangeSpec := { name := "graphFresh", fn := fun _ => fun
  | [d1, d2] => { results := [.lit (.bool true)], args := [d1, d2] }
  | _ => none }
def graphFreshRow : OpenClaim := { program := "ytbikldmhfaecpaa", sum := "affcbd4e7910209102160dc1e44f2dcf31a8f8660e75026239870f143e1838bc", func := "publisher/publisherlaw48.GraphFresh", spec := "graphFresh", unfollowed := true, recurses := true, apart := false }
def GraphFreshSaid : Prop := graphFreshRow.holds Try.pinned (OpenSpec.ofChange graphFreshSpec)

/-- ITS FALSE NEIGHBOUR: 'it returns false'. Refute it at one input. -/
def graphFreshWrong : ChangeSpec := { name := "graphFresh", fn := fun _ => fun
  | [d1, d2] => { results := [.lit (.bool false)], args := [d1, d2] }
  | _ => none }
def GraphFreshWrongFalsely : Prop := graphFreshRow.holds Try.pinned (OpenSpec.ofChange graphFreshWrong)

/-- 'publisherlaw48.GraphRests': WHATEVER THE INPUT: true; the input reads as it did. -/
def graphRestsSpec : ChangeSpec := { name := "graphRests", fn := fun _ => fun
  | [d1, d2] => { results := [.lit (.bool true)], args := [d1, d2] }
  | _ => none }
def graphRestsRow : OpenClaim := { program := "ytbikldmhfaecpaa", sum := "affcbd4e7910209102160dc1e44f2dcf31a8f8660e75026239870f143e1838bc", func := "publisher/publisherlaw48.GraphRests", spec := "graphRests", unfollowed := true, recurses := true, apart := false }
def GraphRestsSaid : Prop := graphRestsRow.holds Try.pinned (OpenSpec.ofChange graphRestsSpec)

/-- ITS FALSE NEIGHBOUR: 'it returns false'. Refute it at one input. -/
def graphRestsWrong : ChangeSpec := { name := "graphRests", fn := fun _ => fun
  | [d1, d2] => { results := [.lit (.bool false)], args := [d1, d2] }
  | _ => none }
def GraphRestsWrongFalsely : Prop := graphRestsRow.holds Try.pinned (OpenSpec.ofChange graphRestsWrong)

/-- 'publisherlaw48.GraphChain': WHATEVER THE INPUT: true; the input reads as it did. -/
def graphChainSpec : ChangeSpec := { name := "graphChain", fn := fun _ => fun
  | [d1, d2, d3] => { results := [.lit (.bool true)], args := [d1, d2, d3] }
  | _ => none }
def graphChainRow : OpenClaim := { program := "ytbikldmhfaecpaa", sum := "affcbd4e7910209102160dc1e44f2dcf31a8f8660e75026239870f143e1838bc", func := "publisher/publisherlaw48.GraphChain", spec := "graphChain", unfollowed := true, recurses := true, apart := false }
def GraphChainSaid : Prop := graphChainRow.holds Try.pinned (OpenSpec.ofChange graphChainSpec)

/-- ITS FALSE NEIGHBOUR: 'it returns false'. Refute it at one input. -/
def graphChainWrong : ChangeSpec := { name := "graphChain", fn := fun _ => fun
  | [d1, d2, d3] => { results := [.lit (.bool false)], args := [d1, d2, d3] }
  | _ => none }
def GraphChainWrongFalsely : Prop := graphChainRow.holds Try.pinned (OpenSpec.ofChange graphChainWrong)

/-- 'publisherlaw48.GraphNil': WHATEVER THE INPUT: true; the input reads as it did. -/
def graphNilSpec : ChangeSpec := { name := "graphNil", fn := fun _ => fun
  | [d1, d2] => { results := [.lit (.bool true)], args := [d1, d2] }
  | _ => none }
def graphNilRow : OpenClaim := { program := "ytbikldmhfaecpaa", sum := "affcbd4e7910209102160dc1e44f2dcf31a8f8660e75026239870f143e1838bc", func := "publisher/publisherlaw48.GraphNil", spec := "graphNil", unfollowed := true, recurses := true, apart := false }
def GraphNilSaid : Prop := graphNilRow.holds Try.pinned (OpenSpec.ofChange graphNilSpec)

/-- ITS FALSE NEIGHBOUR: 'it returns false'. Refute it at one input. -/
def graphNilWrong : ChangeSpec := { name := "graphNil", fn := fun _ => fun
  | [d1, d2] => { results := [.lit (.bool false)], args := [d1, d2] }
  | _ => none }
def GraphNilWrongFalsely : Prop := graphNilRow.holds Try.pinned (OpenSpec.ofChange graphNilWrong)

/- THE SECOND FORM. 'bulk': how many values and letters a reading holds, each counted each time it is reached (what is shared counts as often as it is met; a slice's spare places count too). A statement '..UptoSaid' is the law's where the arguments, and the package variables that the reading takes, are together of bulk at most 1048576: NARROWER than '..Said'. Prove '..Said' where nothing that the law and all that it calls make is longer than what came in: it says more and counts as full. Else prove '..UptoSaid'. A law counts once. -/
mutual
def uptoBulk {H : Type} : DataW H → Nat
  | .lit (.string bytes) => bytes.length + 1
  | .lit _ => 1
  | .nil => 1
  | .ptr d => uptoBulk d + 1
  | .slice elems spare => uptoBulkAll elems + uptoBulkAll spare + 1
  | .agg parts => uptoBulkAll parts + 1
  | .iface _ d => uptoBulk d + 1
  | .map entries => uptoBulkEntries entries + 1
  | .held _ => 1
def uptoBulkAll {H : Type} : List (DataW H) → Nat
  | [] => 0
  | d :: r => uptoBulk d + uptoBulkAll r
def uptoBulkEntries {H : Type} : List (Lit × DataW H) → Nat
  | [] => 0
  | x :: r => uptoBulkEntry x + uptoBulkEntries r
def uptoBulkEntry {H : Type} : Lit × DataW H → Nat
  | (.string bytes, d) => bytes.length + uptoBulk d + 1
  | (_, d) => uptoBulk d + 1
 end
def uptoSmall : (H : Type) → List (DataW H) → Bool := fun _ ds => decide (uptoBulkAll ds ≤ 1048576)
def OpenSpec.upto (s : _root_.Go.ChangeSpec) : _root_.Go.OpenSpec := { _root_.Go.OpenSpec.ofChange s with cond := some uptoSmall }

/-- 'publisherlaw48.GraphPlays', WHERE WHAT IT READS IS OF BULK AT MOST 1048576: true; the input reads as it did. -/
def graphPlaysUptoRow : OpenClaim := { program := "ytbikldmhfaecpaa", sum := "affcbd4e7910209102160dc1e44f2dcf31a8f8660e75026239870f143e1838bc", func := "publisher/publisherlaw48.GraphPlays", spec := "graphPlays", unfollowed := true, recurses := true, apart := false, narrowed := true }
def GraphPlaysUptoSaid : Prop := graphPlaysUptoRow.holds Try.pinned (OpenSpec.upto graphPlaysSpec)

/-- 'publisherlaw48.GraphFresh', WHERE WHAT IT READS IS OF BULK AT MOST 1048576: true; the input reads as it did. -/
def graphFreshUptoRow : OpenClaim := { program := "ytbikldmhfaecpaa", sum := "affcbd4e7910209102160dc1e44f2dcf31a8f8660e75026239870f143e1838bc", func := "publisher/publisherlaw48.GraphFresh", spec := "graphFresh", unfollowed := true, recurses := true, apart := false, narrowed := true }
def GraphFreshUptoSaid : Prop := graphFreshUptoRow.holds Try.pinned (OpenSpec.upto graphFreshSpec)

/-- 'publisherlaw48.GraphRests', WHERE WHAT IT READS IS OF BULK AT MOST 1048576: true; the input reads as it did. -/
def graphRestsUptoRow : OpenClaim := { program := "ytbikldmhfaecpaa", sum := "affcbd4e7910209102160dc1e44f2dcf31a8f8660e75026239870f143e1838bc", func := "publisher/publisherlaw48.GraphRests", spec := "graphRests", unfollowed := true, recurses := true, apart := false, narrowed := true }
def GraphRestsUptoSaid : Prop := graphRestsUptoRow.holds Try.pinned (OpenSpec.upto graphRestsSpec)

/-- 'publisherlaw48.GraphChain', WHERE WHAT IT READS IS OF BULK AT MOST 1048576: true; the input reads as it did. -/
def graphChainUptoRow : OpenClaim := { program := "ytbikldmhfaecpaa", sum := "affcbd4e7910209102160dc1e44f2dcf31a8f8660e75026239870f143e1838bc", func := "publisher/publisherlaw48.GraphChain", spec := "graphChain", unfollowed := true, recurses := true, apart := false, narrowed := true }
def GraphChainUptoSaid : Prop := graphChainUptoRow.holds Try.pinned (OpenSpec.upto graphChainSpec)

/-- 'publisherlaw48.GraphNil', WHERE WHAT IT READS IS OF BULK AT MOST 1048576: true; the input reads as it did. -/
def graphNilUptoRow : OpenClaim := { program := "ytbikldmhfaecpaa", sum := "affcbd4e7910209102160dc1e44f2dcf31a8f8660e75026239870f143e1838bc", func := "publisher/publisherlaw48.GraphNil", spec := "graphNil", unfollowed := true, recurses := true, apart := false, narrowed := true }
def GraphNilUptoSaid : Prop := graphNilUptoRow.holds Try.pinned (OpenSpec.upto graphNilSpec)

end Rows
end Go.Proofs.Ytbikldmhfaecpaa
