/-
  No cell of these rows narrows 'for every input' (looked for: loops, veiled, ifaces, maps, wideKeys, modest, calm, conditions, laid).
  DERIVED. THE GIVEN ROWS OF THIS SEAT. 5 by the template 'for every input the law returns true; each argument reads behind the call as it read before'; 0 by the template 'total and deterministic' (their statements: YtnnnpdendnjkhaaTotals.lean).
  GIVEN WITH THE SEED: the statements are not yours to turn. If you find one false, say at which input.
  Laid BY PROGRAM, IN A SANDBOX (cutbox-rows.mjs): the forced cells as the released guide's own fill.sh prints them over the translation 41eb344eca08af1d… (all of the seat's roots in one cut). By AI agents, Wed Nov 11 2026. No macro, syntax, notation, axiom, sorry.
-/
import Derived.Test.YtnnnpdendnjkhaaChecked
import GoSem.Claim
import GoSem.ClaimJoined
import GoSem.ClaimMapViews
import Derived.JoinedTies
import Derived.KernelRfl
namespace Go.Proofs.Ytnnnpdendnjkhaa
/- THE CELL 'sum', in the pinned program and in every row, IS THE sha256 OF THE DUMP (.gsa) THAT YtnnnpdendnjkhaaProg.lean LOADS. Nothing in Lean hashes anything: it is a label: what it is worth is what the hold of that sum in a sandbox is worth. -/
noncomputable def Try.pinned : Pinned := { name := "ytnnnpdendnjkhaa", sum := "41eb344eca08af1da63d8fdae1d80ee885cfd1a21399ba7a2f2ec0100a2a6fc1", checked := Try.checked }
namespace Rows
def none {H : Type} : Left H := { results := [], args := [] }

/-- 'laws.FnExactGroupsOfChain': WHATEVER THE INPUT: true; the input reads as it did. -/
def fnExactGroupsOfChainSpec : ChangeSpec := { name := "fnExactGroupsOfChain", fn := fun _ => fun
  | [d] => { results := [.lit (.bool true)], args := [d] }
  | _ => none }
def fnExactGroupsOfChainRow : OpenClaim := { program := "ytnnnpdendnjkhaa", sum := "41eb344eca08af1da63d8fdae1d80ee885cfd1a21399ba7a2f2ec0100a2a6fc1", func := "loop.example/g01339/laws.FnExactGroupsOfChain", spec := "fnExactGroupsOfChain", unfollowed := true, recurses := true, apart := false }
def FnExactGroupsOfChainSaid : Prop := fnExactGroupsOfChainRow.holds Try.pinned (OpenSpec.ofChange fnExactGroupsOfChainSpec)

/-- ITS FALSE NEIGHBOUR: 'it returns false'. Refute it at one input. -/
def fnExactGroupsOfChainWrong : ChangeSpec := { name := "fnExactGroupsOfChain", fn := fun _ => fun
  | [d] => { results := [.lit (.bool false)], args := [d] }
  | _ => none }
def FnExactGroupsOfChainWrongFalsely : Prop := fnExactGroupsOfChainRow.holds Try.pinned (OpenSpec.ofChange fnExactGroupsOfChainWrong)

/-- 'laws.FnExactWeighChain': WHATEVER THE INPUT: true; the input reads as it did. -/
def fnExactWeighChainSpec : ChangeSpec := { name := "fnExactWeighChain", fn := fun _ => fun
  | [d1, d2] => { results := [.lit (.bool true)], args := [d1, d2] }
  | _ => none }
def fnExactWeighChainRow : OpenClaim := { program := "ytnnnpdendnjkhaa", sum := "41eb344eca08af1da63d8fdae1d80ee885cfd1a21399ba7a2f2ec0100a2a6fc1", func := "loop.example/g01339/laws.FnExactWeighChain", spec := "fnExactWeighChain", unfollowed := true, recurses := true, apart := false }
def FnExactWeighChainSaid : Prop := fnExactWeighChainRow.holds Try.pinned (OpenSpec.ofChange fnExactWeighChainSpec)

/-- ITS FALSE NEIGHBOUR: 'it returns false'. Refute it at one input. -/
def fnExactWeighChainWrong : ChangeSpec := { name := "fnExactWeighChain", fn := fun _ => fun
  | [d1, d2] => { results := [.lit (.bool false)], args := [d1, d2] }
  | _ => none }
def FnExactWeighChainWrongFalsely : Prop := fnExactWeighChainRow.holds Try.pinned (OpenSpec.ofChange fnExactWeighChainWrong)

/-- 'laws.FnExactRestOf': WHATEVER THE INPUT: true; the input reads as it did. -/
def fnExactRestOfSpec : ChangeSpec := { name := "fnExactRestOf", fn := fun _ => fun
  | [d1, d2, d3] => { results := [.lit (.bool true)], args := [d1, d2, d3] }
  | _ => none }
def fnExactRestOfRow : OpenClaim := { program := "ytnnnpdendnjkhaa", sum := "41eb344eca08af1da63d8fdae1d80ee885cfd1a21399ba7a2f2ec0100a2a6fc1", func := "loop.example/g01339/laws.FnExactRestOf", spec := "fnExactRestOf", unfollowed := true, recurses := true, apart := false }
def FnExactRestOfSaid : Prop := fnExactRestOfRow.holds Try.pinned (OpenSpec.ofChange fnExactRestOfSpec)

/-- ITS FALSE NEIGHBOUR: 'it returns false'. Refute it at one input. -/
def fnExactRestOfWrong : ChangeSpec := { name := "fnExactRestOf", fn := fun _ => fun
  | [d1, d2, d3] => { results := [.lit (.bool false)], args := [d1, d2, d3] }
  | _ => none }
def FnExactRestOfWrongFalsely : Prop := fnExactRestOfRow.holds Try.pinned (OpenSpec.ofChange fnExactRestOfWrong)

/-- 'laws.FnExactTimesTo': WHATEVER THE INPUT: true; the input reads as it did. -/
def fnExactTimesToSpec : ChangeSpec := { name := "fnExactTimesTo", fn := fun _ => fun
  | [d1, d2] => { results := [.lit (.bool true)], args := [d1, d2] }
  | _ => none }
def fnExactTimesToRow : OpenClaim := { program := "ytnnnpdendnjkhaa", sum := "41eb344eca08af1da63d8fdae1d80ee885cfd1a21399ba7a2f2ec0100a2a6fc1", func := "loop.example/g01339/laws.FnExactTimesTo", spec := "fnExactTimesTo", unfollowed := true, recurses := true, apart := false }
def FnExactTimesToSaid : Prop := fnExactTimesToRow.holds Try.pinned (OpenSpec.ofChange fnExactTimesToSpec)

/-- ITS FALSE NEIGHBOUR: 'it returns false'. Refute it at one input. -/
def fnExactTimesToWrong : ChangeSpec := { name := "fnExactTimesTo", fn := fun _ => fun
  | [d1, d2] => { results := [.lit (.bool false)], args := [d1, d2] }
  | _ => none }
def FnExactTimesToWrongFalsely : Prop := fnExactTimesToRow.holds Try.pinned (OpenSpec.ofChange fnExactTimesToWrong)

/-- 'laws.FnExactChancesTo': WHATEVER THE INPUT: true; the input reads as it did. -/
def fnExactChancesToSpec : ChangeSpec := { name := "fnExactChancesTo", fn := fun _ => fun
  | [d1, d2, d3] => { results := [.lit (.bool true)], args := [d1, d2, d3] }
  | _ => none }
def fnExactChancesToRow : OpenClaim := { program := "ytnnnpdendnjkhaa", sum := "41eb344eca08af1da63d8fdae1d80ee885cfd1a21399ba7a2f2ec0100a2a6fc1", func := "loop.example/g01339/laws.FnExactChancesTo", spec := "fnExactChancesTo", unfollowed := true, recurses := true, apart := false }
def FnExactChancesToSaid : Prop := fnExactChancesToRow.holds Try.pinned (OpenSpec.ofChange fnExactChancesToSpec)

/-- ITS FALSE NEIGHBOUR: 'it returns false'. Refute it at one input. -/
def fnExactChancesToWrong : ChangeSpec := { name := "fnExactChancesTo", fn := fun _ => fun
  | [d1, d2, d3] => { results := [.lit (.bool false)], args := [d1, d2, d3] }
  | _ => none }
def FnExactChancesToWrongFalsely : Prop := fnExactChancesToRow.holds Try.pinned (OpenSpec.ofChange fnExactChancesToWrong)

/- THE SECOND FORM. 'bulk': how many values and letters a reading holds, each counted each time it is reached (what is shared counts as often as it is met; a slice's spare places count too). A statement '..UptoSaid' is the law's where the arguments, and the package variables that the reading takes, are together of bulk at most 1048576: NARROWER than '..Said'. Prove '..Said' where nothing that the law and all that it calls make is longer than what came in: it says more and counts as full. Else prove '..UptoSaid'. A law counts once. -/
mutual
def uptoBulk {H : Type} : DataW H → Nat
  | .lit (.string bytes) => bytes.length + 1
  | .lit _ => 1
  | .nil => 1
  | .ptr d => uptoBulk d + 1
  | .slice elems spare => uptoBulkAll elems + uptoBulkAll spare + 1
  | .agg parts => uptoBulkAll parts + 1
  | .iface _ d => uptoBulk d + 1
  | .map entries => uptoBulkEntries entries + 1
  | .held _ => 1
def uptoBulkAll {H : Type} : List (DataW H) → Nat
  | [] => 0
  | d :: r => uptoBulk d + uptoBulkAll r
def uptoBulkEntries {H : Type} : List (Lit × DataW H) → Nat
  | [] => 0
  | x :: r => uptoBulkEntry x + uptoBulkEntries r
def uptoBulkEntry {H : Type} : Lit × DataW H → Nat
  | (.string bytes, d) => bytes.length + uptoBulk d + 1
  | (_, d) => uptoBulk d + 1
 end
def uptoSmall : (H : Type) → List (DataW H) → Bool := fun _ ds => decide (uptoBulkAll ds ≤ 1048576)
def OpenSpec.upto (s : _root_.Go.ChangeSpec) : _root_.Go.OpenSpec := { _root_.Go.OpenSpec.ofChange s with cond := some uptoSmall }

/-- 'laws.FnExactGroupsOfChain', WHERE WHAT IT READS IS OF BULK AT MOST 1048576: true; the input reads as it did. -/
def fnExactGroupsOfChainUptoRow : OpenClaim := { program := "ytnnnpdendnjkhaa", sum := "41eb344eca08af1da63d8fdae1d80ee885cfd1a21399ba7a2f2ec0100a2a6fc1", func := "loop.example/g01339/laws.FnExactGroupsOfChain", spec := "fnExactGroupsOfChain", unfollowed := true, recurses := true, apart := false, narrowed := true }
def FnExactGroupsOfChainUptoSaid : Prop := fnExactGroupsOfChainUptoRow.holds Try.pinned (OpenSpec.upto fnExactGroupsOfChainSpec)

/-- 'laws.FnExactWeighChain', WHERE WHAT IT READS IS OF BULK AT MOST 1048576: true; the input reads as it did. -/
def fnExactWeighChainUptoRow : OpenClaim := { program := "ytnnnpdendnjkhaa", sum := "41eb344eca08af1da63d8fdae1d80ee885cfd1a21399ba7a2f2ec0100a2a6fc1", func := "loop.example/g01339/laws.FnExactWeighChain", spec := "fnExactWeighChain", unfollowed := true, recurses := true, apart := false, narrowed := true }
def FnExactWeighChainUptoSaid : Prop := fnExactWeighChainUptoRow.holds Try.pinned (OpenSpec.upto fnExactWeighChainSpec)

/-- 'laws.FnExactRestOf', WHERE WHAT IT READS IS OF BULK AT MOST 1048576: true; the input reads as it did. -/
def fnExactRestOfUptoRow : OpenClaim := { program := "ytnnnpdendnjkhaa", sum := "41eb344eca08af1da63d8fdae1d80ee885cfd1a21399ba7a2f2ec0100a2a6fc1", func := "loop.example/g01339/laws.FnExactRestOf", spec := "fnExactRestOf", unfollowed := true, recurses := true, apart := false, narrowed := true }
def FnExactRestOfUptoSaid : Prop := fnExactRestOfUptoRow.holds Try.pinned (OpenSpec.upto fnExactRestOfSpec)

/-- 'laws.FnExactTimesTo', WHERE WHAT IT READS IS OF BULK AT MOST 1048576: true; the input reads as it did. -/
def fnExactTimesToUptoRow : OpenClaim := { program := "ytnnnpdendnjkhaa", sum := "41eb344eca08af1da63d8fdae1d80ee885cfd1a21399ba7a2f2ec0100a2a6fc1", func := "loop.example/g01339/laws.FnExactTimesTo", spec := "fnExactTimesTo", unfollowed := true, recurses := true, apart := false, narrowed := true }
def FnExactTimesToUptoSaid : Prop := fnExactTimesToUptoRow.holds Try.pinned (OpenSpec.upto fnExactTimesToSpec)

/-- 'laws.FnExactChancesTo', WHERE WHAT IT READS IS OF BULK AT MOST 1048576: true; the input reads as it did. -/
def fnExactChancesToUptoRow : OpenClaim := { program := "ytnnnpdendnjkhaa", sum := "41eb344eca08af1da63d8fdae1d80ee885cfd1a21399ba7a2f2ec0100a2a6fc1", func := "loop.example/g01339/laws.FnExactChancesTo", spec := "fnExactChancesTo", unfollowed := true, recurses := true, apart := false, narrowed := true }
def FnExactChancesToUptoSaid : Prop := fnExactChancesToUptoRow.holds Try.pinned (OpenSpec.upto fnExactChancesToSpec)

end Rows
end Go.Proofs.Ytnnnpdendnjkhaa
