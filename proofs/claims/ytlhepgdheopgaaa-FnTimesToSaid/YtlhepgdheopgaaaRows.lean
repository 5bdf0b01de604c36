/-
  No cell of these rows narrows 'for every input' (looked for: loops, veiled, ifaces, maps, wideKeys, modest, calm, conditions, laid).
  DERIVED. THE GIVEN ROWS OF THIS SEAT. 3 by the template 'for every input the law returns true; each argument reads behind the call as it read before'; 0 by the template 'total and deterministic' (their statements: YtlhepgdheopgaaaTotals.lean).
  GIVEN WITH THE SEED: the statements are not yours to turn. If you find one false, say at which input.
  Laid BY PROGRAM, IN A SANDBOX (cutbox-rows.mjs): the forced cells as the released guide's own fill.sh prints them over the translation aff819c136dc483f… (all of the seat's roots in one cut). By AI agents, Wed Nov 11 2026. No macro, syntax, notation, axiom, sorry.
-/
import Derived.Test.YtlhepgdheopgaaaChecked
import GoSem.Claim
import GoSem.ClaimJoined
import GoSem.ClaimMapViews
import Derived.JoinedTies
import Derived.KernelRfl
namespace Go.Proofs.Ytlhepgdheopgaaa
/- THE CELL 'sum', in the pinned program and in every row, IS THE sha256 OF THE DUMP (.gsa) THAT YtlhepgdheopgaaaProg.lean LOADS. Nothing in Lean hashes anything: it is a label: what it is worth is what the hold of that sum in a sandbox is worth. -/
noncomputable def Try.pinned : Pinned := { name := "ytlhepgdheopgaaa", sum := "aff819c136dc483f01c0b0aca967cbf12918163fb2355358091e7238f4c23e4f", checked := Try.checked }
namespace Rows
def none {H : Type} : Left H := { results := [], args := [] }

/-- 'laws.FnBalances': WHATEVER THE INPUT: true; the input reads as it did. -/
def fnBalancesSpec : ChangeSpec := { name := "fnBalances", fn := fun _ => fun
  | [d1, d2] => { results := [.lit (.bool true)], args := [d1, d2] }
  | _ => none }
def fnBalancesRow : OpenClaim := { program := "ytlhepgdheopgaaa", sum := "aff819c136dc483f01c0b0aca967cbf12918163fb2355358091e7238f4c23e4f", func := "loop.example/g01339/laws.FnBalances", spec := "fnBalances", unfollowed := true, recurses := true, apart := false }
def FnBalancesSaid : Prop := fnBalancesRow.holds Try.pinned (OpenSpec.ofChange fnBalancesSpec)

/-- ITS FALSE NEIGHBOUR: 'it returns false'. Refute it at one input. -/
def fnBalancesWrong : ChangeSpec := { name := "fnBalances", fn := fun _ => fun
  | [d1, d2] => { results := [.lit (.bool false)], args := [d1, d2] }
  | _ => none }
def FnBalancesWrongFalsely : Prop := fnBalancesRow.holds Try.pinned (OpenSpec.ofChange fnBalancesWrong)

/-- 'laws.FnChainRows': WHATEVER THE INPUT: true; the input reads as it did. -/
def fnChainRowsSpec : ChangeSpec := { name := "fnChainRows", fn := fun _ => fun
  | [d1, d2] => { results := [.lit (.bool true)], args := [d1, d2] }
  | _ => none }
def fnChainRowsRow : OpenClaim := { program := "ytlhepgdheopgaaa", sum := "aff819c136dc483f01c0b0aca967cbf12918163fb2355358091e7238f4c23e4f", func := "loop.example/g01339/laws.FnChainRows", spec := "fnChainRows", inPlace := ["math.Float64bits", "math.Float32bits"], unfollowed := true, recurses := true, apart := false }
def FnChainRowsSaid : Prop := fnChainRowsRow.holds Try.pinned (OpenSpec.ofChange fnChainRowsSpec)

/-- ITS FALSE NEIGHBOUR: 'it returns false'. Refute it at one input. -/
def fnChainRowsWrong : ChangeSpec := { name := "fnChainRows", fn := fun _ => fun
  | [d1, d2] => { results := [.lit (.bool false)], args := [d1, d2] }
  | _ => none }
def FnChainRowsWrongFalsely : Prop := fnChainRowsRow.holds Try.pinned (OpenSpec.ofChange fnChainRowsWrong)

/-- 'laws.FnTimesTo': WHATEVER THE INPUT: true; the input reads as it did. -/
def fnTimesToSpec : ChangeSpec := { name := "fnTimesTo", fn := fun _ => fun
  | [d1, d2] => { results := [.lit (.bool true)], args := [d1, d2] }
  | _ => none }
def fnTimesToRow : OpenClaim := { program := "ytlhepgdheopgaaa", sum := "aff819c136dc483f01c0b0aca967cbf12918163fb2355358091e7238f4c23e4f", func := "loop.example/g01339/laws.FnTimesTo", spec := "fnTimesTo", unfollowed := true, recurses := true, apart := false }
def FnTimesToSaid : Prop := fnTimesToRow.holds Try.pinned (OpenSpec.ofChange fnTimesToSpec)

/-- ITS FALSE NEIGHBOUR: 'it returns false'. Refute it at one input. -/
def fnTimesToWrong : ChangeSpec := { name := "fnTimesTo", fn := fun _ => fun
  | [d1, d2] => { results := [.lit (.bool false)], args := [d1, d2] }
  | _ => none }
def FnTimesToWrongFalsely : Prop := fnTimesToRow.holds Try.pinned (OpenSpec.ofChange fnTimesToWrong)

/- THE SECOND FORM. 'bulk': how many values and letters a reading holds, each counted each time it is reached (what is shared counts as often as it is met; a slice's spare places count too). A statement '..UptoSaid' is the law's where the arguments, and the package variables that the reading takes, are together of bulk at most 1048576: NARROWER than '..Said'. Prove '..Said' where nothing that the law and all that it calls make is longer than what came in: it says more and counts as full. Else prove '..UptoSaid'. A law counts once. -/
mutual
def uptoBulk {H : Type} : DataW H → Nat
  | .lit (.string bytes) => bytes.length + 1
  | .lit _ => 1
  | .nil => 1
  | .ptr d => uptoBulk d + 1
  | .slice elems spare => uptoBulkAll elems + uptoBulkAll spare + 1
  | .agg parts => uptoBulkAll parts + 1
  | .iface _ d => uptoBulk d + 1
  | .map entries => uptoBulkEntries entries + 1
  | .held _ => 1
def uptoBulkAll {H : Type} : List (DataW H) → Nat
  | [] => 0
  | d :: r => uptoBulk d + uptoBulkAll r
def uptoBulkEntries {H : Type} : List (Lit × DataW H) → Nat
  | [] => 0
  | x :: r => uptoBulkEntry x + uptoBulkEntries r
def uptoBulkEntry {H : Type} : Lit × DataW H → Nat
  | (.string bytes, d) => bytes.length + uptoBulk d + 1
  | (_, d) => uptoBulk d + 1
 end
def uptoSmall : (H : Type) → List (DataW H) → Bool := fun _ ds => decide (uptoBulkAll ds ≤ 1048576)
def OpenSpec.upto (s : _root_.Go.ChangeSpec) : _root_.Go.OpenSpec := { _root_.Go.OpenSpec.ofChange s with cond := some uptoSmall }

/-- 'laws.FnBalances', WHERE WHAT IT READS IS OF BULK AT MOST 1048576: true; the input reads as it did. -/
def fnBalancesUptoRow : OpenClaim := { program := "ytlhepgdheopgaaa", sum := "aff819c136dc483f01c0b0aca967cbf12918163fb2355358091e7238f4c23e4f", func := "loop.example/g01339/laws.FnBalances", spec := "fnBalances", unfollowed := true, recurses := true, apart := false, narrowed := true }
def FnBalancesUptoSaid : Prop := fnBalancesUptoRow.holds Try.pinned (OpenSpec.upto fnBalancesSpec)

/-- 'laws.FnChainRows', WHERE WHAT IT READS IS OF BULK AT MOST 1048576: true; the input reads as it did. -/
def fnChainRowsUptoRow : OpenClaim := { program := "ytlhepgdheopgaaa", sum := "aff819c136dc483f01c0b0aca967cbf12918163fb2355358091e7238f4c23e4f", func := "loop.example/g01339/laws.FnChainRows", spec := "fnChainRows", inPlace := ["math.Float64bits", "math.Float32bits"], unfollowed := true, recurses := true, apart := false, narrowed := true }
def FnChainRowsUptoSaid : Prop := fnChainRowsUptoRow.holds Try.pinned (OpenSpec.upto fnChainRowsSpec)

/-- 'laws.FnTimesTo', WHERE WHAT IT READS IS OF BULK AT MOST 1048576: true; the input reads as it did. -/
def fnTimesToUptoRow : OpenClaim := { program := "ytlhepgdheopgaaa", sum := "aff819c136dc483f01c0b0aca967cbf12918163fb2355358091e7238f4c23e4f", func := "loop.example/g01339/laws.FnTimesTo", spec := "fnTimesTo", unfollowed := true, recurses := true, apart := false, narrowed := true }
def FnTimesToUptoSaid : Prop := fnTimesToUptoRow.holds Try.pinned (OpenSpec.upto fnTimesToSpec)

end Rows
end Go.Proofs.Ytlhepgdheopgaaa
