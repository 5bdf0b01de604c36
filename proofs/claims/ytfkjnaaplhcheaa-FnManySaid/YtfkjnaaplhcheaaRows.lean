/-
  No cell of these rows narrows 'for every input' (looked for: loops, veiled, ifaces, maps, wideKeys, modest, calm, conditions, laid).
  DERIVED. THE GIVEN ROWS OF THIS SEAT. 4 by the template 'for every input the law returns true; each argument reads behind the call as it read before'; 0 by the template 'total and deterministic' (their statements: YtfkjnaaplhcheaaTotals.lean).
  GIVEN WITH THE SEED: the statements are not yours to turn. If you find one false, say at which input.
  Laid BY PROGRAM, IN A SANDBOX (cutbox-rows.mjs): the forced cells as the released guide's own fill.sh prints them over the translation b57b41593a01d4cd… (all of the seat's roots in one cut). By AI agents, Wed Nov 11 2026. No macro, syntax, notation, axiom, sorry.
-/
import Derived.Test.YtfkjnaaplhcheaaChecked
import GoSem.Claim
import GoSem.ClaimJoined
import GoSem.ClaimMapViews
import Derived.JoinedTies
import Derived.KernelRfl
namespace Go.Proofs.Ytfkjnaaplhcheaa
/- THE CELL 'sum', in the pinned program and in every row, IS THE sha256 OF THE DUMP (.gsa) THAT YtfkjnaaplhcheaaProg.lean LOADS. Nothing in Lean hashes anything: it is a label: what it is worth is what the hold of that sum in a sandbox is worth. -/
noncomputable def Try.pinned : Pinned := { name := "ytfkjnaaplhcheaa", sum := "b57b41593a01d4cd4fb970fccaab95f2fb51687a3935fcd980881602737ab772", checked := Try.checked }
namespace Rows
def none {H : Type} : Left H := { results := [], args := [] }

/-- 'laws.FnTails': WHATEVER THE INPUT: true; the input reads as it did. -/
def fnTailsSpec : ChangeSpec := { name := "fnTails", fn := fun _ => fun
  | [d1, d2] => { results := [.lit (.bool true)], args := [d1, d2] }
  | _ => none }
def fnTailsRow : OpenClaim := { program := "ytfkjnaaplhcheaa", sum := "b57b41593a01d4cd4fb970fccaab95f2fb51687a3935fcd980881602737ab772", func := "loop.example/g01339/laws.FnTails", spec := "fnTails", unfollowed := true, recurses := true, apart := false }
def FnTailsSaid : Prop := fnTailsRow.holds Try.pinned (OpenSpec.ofChange fnTailsSpec)

/-- ITS FALSE NEIGHBOUR: 'it returns false'. Refute it at one input. -/
def fnTailsWrong : ChangeSpec := { name := "fnTails", fn := fun _ => fun
  | [d1, d2] => { results := [.lit (.bool false)], args := [d1, d2] }
  | _ => none }
def FnTailsWrongFalsely : Prop := fnTailsRow.holds Try.pinned (OpenSpec.ofChange fnTailsWrong)

/-- 'laws.FnMany': WHATEVER THE INPUT: true; the input reads as it did. -/
def fnManySpec : ChangeSpec := { name := "fnMany", fn := fun _ => fun
  | [d1, d2] => { results := [.lit (.bool true)], args := [d1, d2] }
  | _ => none }
def fnManyRow : OpenClaim := { program := "ytfkjnaaplhcheaa", sum := "b57b41593a01d4cd4fb970fccaab95f2fb51687a3935fcd980881602737ab772", func := "loop.example/g01339/laws.FnMany", spec := "fnMany", inPlace := ["math.archFloor", "math.Float64bits", "math.Float64frombits", "math.archTrunc"], unfollowed := true, recurses := true, apart := false }
def FnManySaid : Prop := fnManyRow.holds Try.pinned (OpenSpec.ofChange fnManySpec)

/-- ITS FALSE NEIGHBOUR: 'it returns false'. Refute it at one input. -/
def fnManyWrong : ChangeSpec := { name := "fnMany", fn := fun _ => fun
  | [d1, d2] => { results := [.lit (.bool false)], args := [d1, d2] }
  | _ => none }
def FnManyWrongFalsely : Prop := fnManyRow.holds Try.pinned (OpenSpec.ofChange fnManyWrong)

/-- 'laws.FnExactDrawnTail': WHATEVER THE INPUT: true; the input reads as it did. -/
def fnExactDrawnTailSpec : ChangeSpec := { name := "fnExactDrawnTail", fn := fun _ => fun
  | [d1, d2, d3, d4] => { results := [.lit (.bool true)], args := [d1, d2, d3, d4] }
  | _ => none }
def fnExactDrawnTailRow : OpenClaim := { program := "ytfkjnaaplhcheaa", sum := "b57b41593a01d4cd4fb970fccaab95f2fb51687a3935fcd980881602737ab772", func := "loop.example/g01339/laws.FnExactDrawnTail", spec := "fnExactDrawnTail", unfollowed := true, recurses := true, apart := false }
def FnExactDrawnTailSaid : Prop := fnExactDrawnTailRow.holds Try.pinned (OpenSpec.ofChange fnExactDrawnTailSpec)

/-- ITS FALSE NEIGHBOUR: 'it returns false'. Refute it at one input. -/
def fnExactDrawnTailWrong : ChangeSpec := { name := "fnExactDrawnTail", fn := fun _ => fun
  | [d1, d2, d3, d4] => { results := [.lit (.bool false)], args := [d1, d2, d3, d4] }
  | _ => none }
def FnExactDrawnTailWrongFalsely : Prop := fnExactDrawnTailRow.holds Try.pinned (OpenSpec.ofChange fnExactDrawnTailWrong)

/-- 'laws.FnExactDrawnMeans': WHATEVER THE INPUT: true; the input reads as it did. -/
def fnExactDrawnMeansSpec : ChangeSpec := { name := "fnExactDrawnMeans", fn := fun _ => fun
  | [d1, d2, d3] => { results := [.lit (.bool true)], args := [d1, d2, d3] }
  | _ => none }
def fnExactDrawnMeansRow : OpenClaim := { program := "ytfkjnaaplhcheaa", sum := "b57b41593a01d4cd4fb970fccaab95f2fb51687a3935fcd980881602737ab772", func := "loop.example/g01339/laws.FnExactDrawnMeans", spec := "fnExactDrawnMeans", unfollowed := true, recurses := true, apart := false }
def FnExactDrawnMeansSaid : Prop := fnExactDrawnMeansRow.holds Try.pinned (OpenSpec.ofChange fnExactDrawnMeansSpec)

/-- ITS FALSE NEIGHBOUR: 'it returns false'. Refute it at one input. -/
def fnExactDrawnMeansWrong : ChangeSpec := { name := "fnExactDrawnMeans", fn := fun _ => fun
  | [d1, d2, d3] => { results := [.lit (.bool false)], args := [d1, d2, d3] }
  | _ => none }
def FnExactDrawnMeansWrongFalsely : Prop := fnExactDrawnMeansRow.holds Try.pinned (OpenSpec.ofChange fnExactDrawnMeansWrong)

/- THE SECOND FORM. 'bulk': how many values and letters a reading holds, each counted each time it is reached (what is shared counts as often as it is met; a slice's spare places count too). A statement '..UptoSaid' is the law's where the arguments, and the package variables that the reading takes, are together of bulk at most 1048576: NARROWER than '..Said'. Prove '..Said' where nothing that the law and all that it calls make is longer than what came in: it says more and counts as full. Else prove '..UptoSaid'. A law counts once. -/
mutual
def uptoBulk {H : Type} : DataW H → Nat
  | .lit (.string bytes) => bytes.length + 1
  | .lit _ => 1
  | .nil => 1
  | .ptr d => uptoBulk d + 1
  | .slice elems spare => uptoBulkAll elems + uptoBulkAll spare + 1
  | .agg parts => uptoBulkAll parts + 1
  | .iface _ d => uptoBulk d + 1
  | .map entries => uptoBulkEntries entries + 1
  | .held _ => 1
def uptoBulkAll {H : Type} : List (DataW H) → Nat
  | [] => 0
  | d :: r => uptoBulk d + uptoBulkAll r
def uptoBulkEntries {H : Type} : List (Lit × DataW H) → Nat
  | [] => 0
  | x :: r => uptoBulkEntry x + uptoBulkEntries r
def uptoBulkEntry {H : Type} : Lit × DataW H → Nat
  | (.string bytes, d) => bytes.length + uptoBulk d + 1
  | (_, d) => uptoBulk d + 1
 end
def uptoSmall : (H : Type) → List (DataW H) → Bool := fun _ ds => decide (uptoBulkAll ds ≤ 1048576)
def OpenSpec.upto (s : _root_.Go.ChangeSpec) : _root_.Go.OpenSpec := { _root_.Go.OpenSpec.ofChange s with cond := some uptoSmall }

/-- 'laws.FnTails', WHERE WHAT IT READS IS OF BULK AT MOST 1048576: true; the input reads as it did. -/
def fnTailsUptoRow : OpenClaim := { program := "ytfkjnaaplhcheaa", sum := "b57b41593a01d4cd4fb970fccaab95f2fb51687a3935fcd980881602737ab772", func := "loop.example/g01339/laws.FnTails", spec := "fnTails", unfollowed := true, recurses := true, apart := false, narrowed := true }
def FnTailsUptoSaid : Prop := fnTailsUptoRow.holds Try.pinned (OpenSpec.upto fnTailsSpec)

/-- 'laws.FnMany', WHERE WHAT IT READS IS OF BULK AT MOST 1048576: true; the input reads as it did. -/
def fnManyUptoRow : OpenClaim := { program := "ytfkjnaaplhcheaa", sum := "b57b41593a01d4cd4fb970fccaab95f2fb51687a3935fcd980881602737ab772", func := "loop.example/g01339/laws.FnMany", spec := "fnMany", inPlace := ["math.archFloor", "math.Float64bits", "math.Float64frombits", "math.archTrunc"], unfollowed := true, recurses := true, apart := false, narrowed := true }
def FnManyUptoSaid : Prop := fnManyUptoRow.holds Try.pinned (OpenSpec.upto fnManySpec)

/-- 'laws.FnExactDrawnTail', WHERE WHAT IT READS IS OF BULK AT MOST 1048576: true; the input reads as it did. -/
def fnExactDrawnTailUptoRow : OpenClaim := { program := "ytfkjnaaplhcheaa", sum := "b57b41593a01d4cd4fb970fccaab95f2fb51687a3935fcd980881602737ab772", func := "loop.example/g01339/laws.FnExactDrawnTail", spec := "fnExactDrawnTail", unfollowed := true, recurses := true, apart := false, narrowed := true }
def FnExactDrawnTailUptoSaid : Prop := fnExactDrawnTailUptoRow.holds Try.pinned (OpenSpec.upto fnExactDrawnTailSpec)

/-- 'laws.FnExactDrawnMeans', WHERE WHAT IT READS IS OF BULK AT MOST 1048576: true; the input reads as it did. -/
def fnExactDrawnMeansUptoRow : OpenClaim := { program := "ytfkjnaaplhcheaa", sum := "b57b41593a01d4cd4fb970fccaab95f2fb51687a3935fcd980881602737ab772", func := "loop.example/g01339/laws.FnExactDrawnMeans", spec := "fnExactDrawnMeans", unfollowed := true, recurses := true, apart := false, narrowed := true }
def FnExactDrawnMeansUptoSaid : Prop := fnExactDrawnMeansUptoRow.holds Try.pinned (OpenSpec.upto fnExactDrawnMeansSpec)

end Rows
end Go.Proofs.Ytfkjnaaplhcheaa
