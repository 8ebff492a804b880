/-
  No cell of these rows narrows 'for every input' (looked for: loops, veiled, ifaces, maps, wideKeys, modest, calm, conditions, laid).
  DERIVED. THE GIVEN ROWS OF THIS SEAT. 7 by the template 'for every input the law returns true; each argument reads behind the call as it read before'; 0 by the template 'total and deterministic' (their statements: YthinfcjijphooaaTotals.lean).
  GIVEN WITH THE SEED: the statements are not yours to turn. If you find one false, say at which input.
  Laid BY PROGRAM, IN A SANDBOX (cutbox-rows.mjs): the forced cells as the released guide's own fill.sh prints them over the translation 6f6417c6e9f76049… (all of the seat's roots in one cut). By AI agents, Wed Nov 11 2026. No macro, syntax, notation, axiom, sorry.
-/
import Derived.Test.YthinfcjijphooaaChecked
import GoSem.Claim
import GoSem.ClaimJoined
import GoSem.ClaimMapViews
import Derived.JoinedTies
import Derived.KernelRfl
namespace Go.Proofs.Ythinfcjijphooaa
/- THE CELL 'sum', in the pinned program and in every row, IS THE sha256 OF THE DUMP (.gsa) THAT YthinfcjijphooaaProg.lean LOADS. Nothing in Lean hashes anything: it is a label: what it is worth is what the hold of that sum in a sandbox is worth. -/
noncomputable def Try.pinned : Pinned := { name := "ythinfcjijphooaa", sum := "6f6417c6e9f76049085f4f8309baff5c1be79fea3dd640eec50a24c0faeb9d38", checked := Try.checked }
namespace Rows
def none {H : Type} : Left H := { results := [], args := [] }

/-- 'copyholdtop.TopFiltered': WHATEVER THE INPUT: true; the input reads as it did. -/
def topFilteredSpec : ChangeSpec := { name := "topFiltered", fn := fun _ => fun
  | [d1, d2] => { results := [.lit (.bool true)], args := [d1, d2] }
  | _ => none }
def topFilteredRow : OpenClaim := { program := "ythinfcjijphooaa", sum := "6f6417c6e9f76049085f4f8309baff5c1be79fea3dd640eec50a24c0faeb9d38", func := "copyhold/copyholdtop.TopFiltered", spec := "topFiltered", apart := false }
def TopFilteredSaid : Prop := topFilteredRow.holds Try.pinned (OpenSpec.ofChange topFilteredSpec)

/-- ITS FALSE NEIGHBOUR: 'it returns false'. Refute it at one input. -/
def topFilteredWrong : ChangeSpec := { name := "topFiltered", fn := fun _ => fun
  | [d1, d2] => { results := [.lit (.bool false)], args := [d1, d2] }
  | _ => none }
def TopFilteredWrongFalsely : Prop := topFilteredRow.holds Try.pinned (OpenSpec.ofChange topFilteredWrong)

/-- 'copyholdtop.TopLeased': WHATEVER THE INPUT: true; the input reads as it did. -/
def topLeasedSpec : ChangeSpec := { name := "topLeased", fn := fun _ => fun
  | [d] => { results := [.lit (.bool true)], args := [d] }
  | _ => none }
def topLeasedRow : OpenClaim := { program := "ythinfcjijphooaa", sum := "6f6417c6e9f76049085f4f8309baff5c1be79fea3dd640eec50a24c0faeb9d38", func := "copyhold/copyholdtop.TopLeased", spec := "topLeased", inPlace := ["internal/abi.NoEscape", "internal/bytealg.MakeNoZero"], unfollowed := true, recurses := true, apart := false }
def TopLeasedSaid : Prop := topLeasedRow.holds Try.pinned (OpenSpec.ofChange topLeasedSpec)

/-- ITS FALSE NEIGHBOUR: 'it returns false'. Refute it at one input. -/
def topLeasedWrong : ChangeSpec := { name := "topLeased", fn := fun _ => fun
  | [d] => { results := [.lit (.bool false)], args := [d] }
  | _ => none }
def TopLeasedWrongFalsely : Prop := topLeasedRow.holds Try.pinned (OpenSpec.ofChange topLeasedWrong)

/-- 'copyholdtop.TopNested': WHATEVER THE INPUT: true; the input reads as it did. -/
def topNestedSpec : ChangeSpec := { name := "topNested", fn := fun _ => fun
  | [d] => { results := [.lit (.bool true)], args := [d] }
  | _ => none }
def topNestedRow : OpenClaim := { program := "ythinfcjijphooaa", sum := "6f6417c6e9f76049085f4f8309baff5c1be79fea3dd640eec50a24c0faeb9d38", func := "copyhold/copyholdtop.TopNested", spec := "topNested", inPlace := ["slices.overlaps[copyhold/cidr.Prefix]"], unfollowed := true, recurses := true, apart := false }
def TopNestedSaid : Prop := topNestedRow.holds Try.pinned (OpenSpec.ofChange topNestedSpec)

/-- ITS FALSE NEIGHBOUR: 'it returns false'. Refute it at one input. -/
def topNestedWrong : ChangeSpec := { name := "topNested", fn := fun _ => fun
  | [d] => { results := [.lit (.bool false)], args := [d] }
  | _ => none }
def TopNestedWrongFalsely : Prop := topNestedRow.holds Try.pinned (OpenSpec.ofChange topNestedWrong)

/-- 'copyholdtop.TopGapped': WHATEVER THE INPUT: true; the input reads as it did. -/
def topGappedSpec : ChangeSpec := { name := "topGapped", fn := fun _ => fun
  | [d1, d2] => { results := [.lit (.bool true)], args := [d1, d2] }
  | _ => none }
def topGappedRow : OpenClaim := { program := "ythinfcjijphooaa", sum := "6f6417c6e9f76049085f4f8309baff5c1be79fea3dd640eec50a24c0faeb9d38", func := "copyhold/copyholdtop.TopGapped", spec := "topGapped", inPlace := ["math/bits.Add64"], unfollowed := true, recurses := true, apart := false }
def TopGappedSaid : Prop := topGappedRow.holds Try.pinned (OpenSpec.ofChange topGappedSpec)

/-- ITS FALSE NEIGHBOUR: 'it returns false'. Refute it at one input. -/
def topGappedWrong : ChangeSpec := { name := "topGapped", fn := fun _ => fun
  | [d1, d2] => { results := [.lit (.bool false)], args := [d1, d2] }
  | _ => none }
def TopGappedWrongFalsely : Prop := topGappedRow.holds Try.pinned (OpenSpec.ofChange topGappedWrong)

/-- 'copyholdtop.TopJoined': WHATEVER THE INPUT: true; the input reads as it did. -/
def topJoinedSpec : ChangeSpec := { name := "topJoined", fn := fun _ => fun
  | [d1, d2] => { results := [.lit (.bool true)], args := [d1, d2] }
  | _ => none }
def topJoinedRow : OpenClaim := { program := "ythinfcjijphooaa", sum := "6f6417c6e9f76049085f4f8309baff5c1be79fea3dd640eec50a24c0faeb9d38", func := "copyhold/copyholdtop.TopJoined", spec := "topJoined", inPlace := ["internal/abi.NoEscape", "internal/bytealg.MakeNoZero"], unfollowed := true, recurses := true, apart := false }
def TopJoinedSaid : Prop := topJoinedRow.holds Try.pinned (OpenSpec.ofChange topJoinedSpec)

/-- ITS FALSE NEIGHBOUR: 'it returns false'. Refute it at one input. -/
def topJoinedWrong : ChangeSpec := { name := "topJoined", fn := fun _ => fun
  | [d1, d2] => { results := [.lit (.bool false)], args := [d1, d2] }
  | _ => none }
def TopJoinedWrongFalsely : Prop := topJoinedRow.holds Try.pinned (OpenSpec.ofChange topJoinedWrong)

/-- 'copyholdtop.TopBlocked': WHATEVER THE INPUT: true; the input reads as it did. -/
def topBlockedSpec : ChangeSpec := { name := "topBlocked", fn := fun _ => fun
  | [d1, d2, d3, d4] => { results := [.lit (.bool true)], args := [d1, d2, d3, d4] }
  | _ => none }
def topBlockedRow : OpenClaim := { program := "ythinfcjijphooaa", sum := "6f6417c6e9f76049085f4f8309baff5c1be79fea3dd640eec50a24c0faeb9d38", func := "copyhold/copyholdtop.TopBlocked", spec := "topBlocked", inPlace := ["internal/abi.NoEscape", "internal/bytealg.MakeNoZero"], unfollowed := true, recurses := true, apart := false }
def TopBlockedSaid : Prop := topBlockedRow.holds Try.pinned (OpenSpec.ofChange topBlockedSpec)

/-- ITS FALSE NEIGHBOUR: 'it returns false'. Refute it at one input. -/
def topBlockedWrong : ChangeSpec := { name := "topBlocked", fn := fun _ => fun
  | [d1, d2, d3, d4] => { results := [.lit (.bool false)], args := [d1, d2, d3, d4] }
  | _ => none }
def TopBlockedWrongFalsely : Prop := topBlockedRow.holds Try.pinned (OpenSpec.ofChange topBlockedWrong)

/-- 'copyholdtop.TopMerged': WHATEVER THE INPUT: true; the input reads as it did. -/
def topMergedSpec : ChangeSpec := { name := "topMerged", fn := fun _ => fun
  | [d1, d2, d3] => { results := [.lit (.bool true)], args := [d1, d2, d3] }
  | _ => none }
def topMergedRow : OpenClaim := { program := "ythinfcjijphooaa", sum := "6f6417c6e9f76049085f4f8309baff5c1be79fea3dd640eec50a24c0faeb9d38", func := "copyhold/copyholdtop.TopMerged", spec := "topMerged", inPlace := ["internal/abi.NoEscape", "internal/bytealg.MakeNoZero", "internal/bytealg.abigen_runtime_cmpstring"], unfollowed := true, recurses := true, apart := false }
def TopMergedSaid : Prop := topMergedRow.holds Try.pinned (OpenSpec.ofChange topMergedSpec)

/-- ITS FALSE NEIGHBOUR: 'it returns false'. Refute it at one input. -/
def topMergedWrong : ChangeSpec := { name := "topMerged", fn := fun _ => fun
  | [d1, d2, d3] => { results := [.lit (.bool false)], args := [d1, d2, d3] }
  | _ => none }
def TopMergedWrongFalsely : Prop := topMergedRow.holds Try.pinned (OpenSpec.ofChange topMergedWrong)

/- THE SECOND FORM. 'bulk': how many values and letters a reading holds, each counted each time it is reached (what is shared counts as often as it is met; a slice's spare places count too). A statement '..UptoSaid' is the law's where the arguments, and the package variables that the reading takes, are together of bulk at most 1048576: NARROWER than '..Said'. Prove '..Said' where nothing that the law and all that it calls make is longer than what came in: it says more and counts as full. Else prove '..UptoSaid'. A law counts once. -/
mutual
def uptoBulk {H : Type} : DataW H → Nat
  | .lit (.string bytes) => bytes.length + 1
  | .lit _ => 1
  | .nil => 1
  | .ptr d => uptoBulk d + 1
  | .slice elems spare => uptoBulkAll elems + uptoBulkAll spare + 1
  | .agg parts => uptoBulkAll parts + 1
  | .iface _ d => uptoBulk d + 1
  | .map entries => uptoBulkEntries entries + 1
  | .held _ => 1
def uptoBulkAll {H : Type} : List (DataW H) → Nat
  | [] => 0
  | d :: r => uptoBulk d + uptoBulkAll r
def uptoBulkEntries {H : Type} : List (Lit × DataW H) → Nat
  | [] => 0
  | x :: r => uptoBulkEntry x + uptoBulkEntries r
def uptoBulkEntry {H : Type} : Lit × DataW H → Nat
  | (.string bytes, d) => bytes.length + uptoBulk d + 1
  | (_, d) => uptoBulk d + 1
 end
def uptoSmall : (H : Type) → List (DataW H) → Bool := fun _ ds => decide (uptoBulkAll ds ≤ 1048576)
def OpenSpec.upto (s : _root_.Go.ChangeSpec) : _root_.Go.OpenSpec := { _root_.Go.OpenSpec.ofChange s with cond := some uptoSmall }

/-- 'copyholdtop.TopFiltered', WHERE WHAT IT READS IS OF BULK AT MOST 1048576: true; the input reads as it did. -/
def topFilteredUptoRow : OpenClaim := { program := "ythinfcjijphooaa", sum := "6f6417c6e9f76049085f4f8309baff5c1be79fea3dd640eec50a24c0faeb9d38", func := "copyhold/copyholdtop.TopFiltered", spec := "topFiltered", apart := false, narrowed := true }
def TopFilteredUptoSaid : Prop := topFilteredUptoRow.holds Try.pinned (OpenSpec.upto topFilteredSpec)

/-- 'copyholdtop.TopLeased', WHERE WHAT IT READS IS OF BULK AT MOST 1048576: true; the input reads as it did. -/
def topLeasedUptoRow : OpenClaim := { program := "ythinfcjijphooaa", sum := "6f6417c6e9f76049085f4f8309baff5c1be79fea3dd640eec50a24c0faeb9d38", func := "copyhold/copyholdtop.TopLeased", spec := "topLeased", inPlace := ["internal/abi.NoEscape", "internal/bytealg.MakeNoZero"], unfollowed := true, recurses := true, apart := false, narrowed := true }
def TopLeasedUptoSaid : Prop := topLeasedUptoRow.holds Try.pinned (OpenSpec.upto topLeasedSpec)

/-- 'copyholdtop.TopNested', WHERE WHAT IT READS IS OF BULK AT MOST 1048576: true; the input reads as it did. -/
def topNestedUptoRow : OpenClaim := { program := "ythinfcjijphooaa", sum := "6f6417c6e9f76049085f4f8309baff5c1be79fea3dd640eec50a24c0faeb9d38", func := "copyhold/copyholdtop.TopNested", spec := "topNested", inPlace := ["slices.overlaps[copyhold/cidr.Prefix]"], unfollowed := true, recurses := true, apart := false, narrowed := true }
def TopNestedUptoSaid : Prop := topNestedUptoRow.holds Try.pinned (OpenSpec.upto topNestedSpec)

/-- 'copyholdtop.TopGapped', WHERE WHAT IT READS IS OF BULK AT MOST 1048576: true; the input reads as it did. -/
def topGappedUptoRow : OpenClaim := { program := "ythinfcjijphooaa", sum := "6f6417c6e9f76049085f4f8309baff5c1be79fea3dd640eec50a24c0faeb9d38", func := "copyhold/copyholdtop.TopGapped", spec := "topGapped", inPlace := ["math/bits.Add64"], unfollowed := true, recurses := true, apart := false, narrowed := true }
def TopGappedUptoSaid : Prop := topGappedUptoRow.holds Try.pinned (OpenSpec.upto topGappedSpec)

/-- 'copyholdtop.TopJoined', WHERE WHAT IT READS IS OF BULK AT MOST 1048576: true; the input reads as it did. -/
def topJoinedUptoRow : OpenClaim := { program := "ythinfcjijphooaa", sum := "6f6417c6e9f76049085f4f8309baff5c1be79fea3dd640eec50a24c0faeb9d38", func := "copyhold/copyholdtop.TopJoined", spec := "topJoined", inPlace := ["internal/abi.NoEscape", "internal/bytealg.MakeNoZero"], unfollowed := true, recurses := true, apart := false, narrowed := true }
def TopJoinedUptoSaid : Prop := topJoinedUptoRow.holds Try.pinned (OpenSpec.upto topJoinedSpec)

/-- 'copyholdtop.TopBlocked', WHERE WHAT IT READS IS OF BULK AT MOST 1048576: true; the input reads as it did. -/
def topBlockedUptoRow : OpenClaim := { program := "ythinfcjijphooaa", sum := "6f6417c6e9f76049085f4f8309baff5c1be79fea3dd640eec50a24c0faeb9d38", func := "copyhold/copyholdtop.TopBlocked", spec := "topBlocked", inPlace := ["internal/abi.NoEscape", "internal/bytealg.MakeNoZero"], unfollowed := true, recurses := true, apart := false, narrowed := true }
def TopBlockedUptoSaid : Prop := topBlockedUptoRow.holds Try.pinned (OpenSpec.upto topBlockedSpec)

/-- 'copyholdtop.TopMerged', WHERE WHAT IT READS IS OF BULK AT MOST 1048576: true; the input reads as it did. -/
def topMergedUptoRow : OpenClaim := { program := "ythinfcjijphooaa", sum := "6f6417c6e9f76049085f4f8309baff5c1be79fea3dd640eec50a24c0faeb9d38", func := "copyhold/copyholdtop.TopMerged", spec := "topMerged", inPlace := ["internal/abi.NoEscape", "internal/bytealg.MakeNoZero", "internal/bytealg.abigen_runtime_cmpstring"], unfollowed := true, recurses := true, apart := false, narrowed := true }
def TopMergedUptoSaid : Prop := topMergedUptoRow.holds Try.pinned (OpenSpec.upto topMergedSpec)

end Rows
end Go.Proofs.Ythinfcjijphooaa
