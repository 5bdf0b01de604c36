/-
  No cell of these rows narrows 'for every input' (looked for: loops, veiled, ifaces, maps, wideKeys, modest, calm, conditions, laid).
  DERIVED. THE GIVEN ROWS OF THIS SEAT. 6 by the template 'for every input the law returns true; each argument reads behind the call as it read before'; 0 by the template 'total and deterministic' (their statements: YtmpnfjajlmafgaaTotals.lean).
  GIVEN WITH THE SEED: the statements are not yours to turn. If you find one false, say at which input.
  Laid BY PROGRAM, IN A SANDBOX (cutbox-rows.mjs): the forced cells as the released guide's own fill.sh prints them over the translation 34238ee88630f1a2… (all of the seat's roots in one cut). By AI agents, Wed Nov 11 2026. No macro, syntax, notation, axiom, sorry.
-/
import Derived.Test.YtmpnfjajlmafgaaChecked
import GoSem.Claim
import GoSem.ClaimJoined
import GoSem.ClaimMapViews
import Derived.JoinedTies
import Derived.KernelRfl
namespace Go.Proofs.Ytmpnfjajlmafgaa
/- THE CELL 'sum', in the pinned program and in every row, IS THE sha256 OF THE DUMP (.gsa) THAT YtmpnfjajlmafgaaProg.lean LOADS. Nothing in Lean hashes anything: it is a label: what it is worth is what the hold of that sum in a sandbox is worth. -/
noncomputable def Try.pinned : Pinned := { name := "ytmpnfjajlmafgaa", sum := "34238ee88630f1a2ad6b66ad27b0973dc19c1fbf15db5f64fd0b043b76352997", checked := Try.checked }
namespace Rows
def none {H : Type} : Left H := { results := [], args := [] }

/-- 'laws.FnExactLessTail': WHATEVER THE INPUT: true; the input reads as it did. -/
def fnExactLessTailSpec : ChangeSpec := { name := "fnExactLessTail", fn := fun _ => fun
  | [d] => { results := [.lit (.bool true)], args := [d] }
  | _ => none }
def fnExactLessTailRow : OpenClaim := { program := "ytmpnfjajlmafgaa", sum := "34238ee88630f1a2ad6b66ad27b0973dc19c1fbf15db5f64fd0b043b76352997", func := "loop.example/g01339/laws.FnExactLessTail", spec := "fnExactLessTail", unfollowed := true, recurses := true, apart := false }
def FnExactLessTailSaid : Prop := fnExactLessTailRow.holds Try.pinned (OpenSpec.ofChange fnExactLessTailSpec)

/-- ITS FALSE NEIGHBOUR: 'it returns false'. Refute it at one input. -/
def fnExactLessTailWrong : ChangeSpec := { name := "fnExactLessTail", fn := fun _ => fun
  | [d] => { results := [.lit (.bool false)], args := [d] }
  | _ => none }
def FnExactLessTailWrongFalsely : Prop := fnExactLessTailRow.holds Try.pinned (OpenSpec.ofChange fnExactLessTailWrong)

/-- 'laws.FnExactBothTails': WHATEVER THE INPUT: true; the input reads as it did. -/
def fnExactBothTailsSpec : ChangeSpec := { name := "fnExactBothTails", fn := fun _ => fun
  | [d] => { results := [.lit (.bool true)], args := [d] }
  | _ => none }
def fnExactBothTailsRow : OpenClaim := { program := "ytmpnfjajlmafgaa", sum := "34238ee88630f1a2ad6b66ad27b0973dc19c1fbf15db5f64fd0b043b76352997", func := "loop.example/g01339/laws.FnExactBothTails", spec := "fnExactBothTails", unfollowed := true, recurses := true, apart := false }
def FnExactBothTailsSaid : Prop := fnExactBothTailsRow.holds Try.pinned (OpenSpec.ofChange fnExactBothTailsSpec)

/-- ITS FALSE NEIGHBOUR: 'it returns false'. Refute it at one input. -/
def fnExactBothTailsWrong : ChangeSpec := { name := "fnExactBothTails", fn := fun _ => fun
  | [d] => { results := [.lit (.bool false)], args := [d] }
  | _ => none }
def FnExactBothTailsWrongFalsely : Prop := fnExactBothTailsRow.holds Try.pinned (OpenSpec.ofChange fnExactBothTailsWrong)

/-- 'laws.FnExactExactTail': WHATEVER THE INPUT: true; the input reads as it did. -/
def fnExactExactTailSpec : ChangeSpec := { name := "fnExactExactTail", fn := fun _ => fun
  | [d] => { results := [.lit (.bool true)], args := [d] }
  | _ => none }
def fnExactExactTailRow : OpenClaim := { program := "ytmpnfjajlmafgaa", sum := "34238ee88630f1a2ad6b66ad27b0973dc19c1fbf15db5f64fd0b043b76352997", func := "loop.example/g01339/laws.FnExactExactTail", spec := "fnExactExactTail", unfollowed := true, recurses := true, apart := false }
def FnExactExactTailSaid : Prop := fnExactExactTailRow.holds Try.pinned (OpenSpec.ofChange fnExactExactTailSpec)

/-- ITS FALSE NEIGHBOUR: 'it returns false'. Refute it at one input. -/
def fnExactExactTailWrong : ChangeSpec := { name := "fnExactExactTail", fn := fun _ => fun
  | [d] => { results := [.lit (.bool false)], args := [d] }
  | _ => none }
def FnExactExactTailWrongFalsely : Prop := fnExactExactTailRow.holds Try.pinned (OpenSpec.ofChange fnExactExactTailWrong)

/-- 'laws.FnExactRankTail': WHATEVER THE INPUT: true; the input reads as it did. -/
def fnExactRankTailSpec : ChangeSpec := { name := "fnExactRankTail", fn := fun _ => fun
  | [d1, d2] => { results := [.lit (.bool true)], args := [d1, d2] }
  | _ => none }
def fnExactRankTailRow : OpenClaim := { program := "ytmpnfjajlmafgaa", sum := "34238ee88630f1a2ad6b66ad27b0973dc19c1fbf15db5f64fd0b043b76352997", func := "loop.example/g01339/laws.FnExactRankTail", spec := "fnExactRankTail", unfollowed := true, recurses := true, apart := false }
def FnExactRankTailSaid : Prop := fnExactRankTailRow.holds Try.pinned (OpenSpec.ofChange fnExactRankTailSpec)

/-- ITS FALSE NEIGHBOUR: 'it returns false'. Refute it at one input. -/
def fnExactRankTailWrong : ChangeSpec := { name := "fnExactRankTail", fn := fun _ => fun
  | [d1, d2] => { results := [.lit (.bool false)], args := [d1, d2] }
  | _ => none }
def FnExactRankTailWrongFalsely : Prop := fnExactRankTailRow.holds Try.pinned (OpenSpec.ofChange fnExactRankTailWrong)

/-- 'laws.FnExactHolmMany': WHATEVER THE INPUT: true; the input reads as it did. -/
def fnExactHolmManySpec : ChangeSpec := { name := "fnExactHolmMany", fn := fun _ => fun
  | [d] => { results := [.lit (.bool true)], args := [d] }
  | _ => none }
def fnExactHolmManyRow : OpenClaim := { program := "ytmpnfjajlmafgaa", sum := "34238ee88630f1a2ad6b66ad27b0973dc19c1fbf15db5f64fd0b043b76352997", func := "loop.example/g01339/laws.FnExactHolmMany", spec := "fnExactHolmMany", unfollowed := true, recurses := true, apart := false }
def FnExactHolmManySaid : Prop := fnExactHolmManyRow.holds Try.pinned (OpenSpec.ofChange fnExactHolmManySpec)

/-- ITS FALSE NEIGHBOUR: 'it returns false'. Refute it at one input. -/
def fnExactHolmManyWrong : ChangeSpec := { name := "fnExactHolmMany", fn := fun _ => fun
  | [d] => { results := [.lit (.bool false)], args := [d] }
  | _ => none }
def FnExactHolmManyWrongFalsely : Prop := fnExactHolmManyRow.holds Try.pinned (OpenSpec.ofChange fnExactHolmManyWrong)

/-- 'laws.FnExactStepMany': WHATEVER THE INPUT: true; the input reads as it did. -/
def fnExactStepManySpec : ChangeSpec := { name := "fnExactStepMany", fn := fun _ => fun
  | [d] => { results := [.lit (.bool true)], args := [d] }
  | _ => none }
def fnExactStepManyRow : OpenClaim := { program := "ytmpnfjajlmafgaa", sum := "34238ee88630f1a2ad6b66ad27b0973dc19c1fbf15db5f64fd0b043b76352997", func := "loop.example/g01339/laws.FnExactStepMany", spec := "fnExactStepMany", unfollowed := true, recurses := true, apart := false }
def FnExactStepManySaid : Prop := fnExactStepManyRow.holds Try.pinned (OpenSpec.ofChange fnExactStepManySpec)

/-- ITS FALSE NEIGHBOUR: 'it returns false'. Refute it at one input. -/
def fnExactStepManyWrong : ChangeSpec := { name := "fnExactStepMany", fn := fun _ => fun
  | [d] => { results := [.lit (.bool false)], args := [d] }
  | _ => none }
def FnExactStepManyWrongFalsely : Prop := fnExactStepManyRow.holds Try.pinned (OpenSpec.ofChange fnExactStepManyWrong)

/- THE SECOND FORM. 'bulk': how many values and letters a reading holds, each counted each time it is reached (what is shared counts as often as it is met; a slice's spare places count too). A statement '..UptoSaid' is the law's where the arguments, and the package variables that the reading takes, are together of bulk at most 1048576: NARROWER than '..Said'. Prove '..Said' where nothing that the law and all that it calls make is longer than what came in: it says more and counts as full. Else prove '..UptoSaid'. A law counts once. -/
mutual
def uptoBulk {H : Type} : DataW H → Nat
  | .lit (.string bytes) => bytes.length + 1
  | .lit _ => 1
  | .nil => 1
  | .ptr d => uptoBulk d + 1
  | .slice elems spare => uptoBulkAll elems + uptoBulkAll spare + 1
  | .agg parts => uptoBulkAll parts + 1
  | .iface _ d => uptoBulk d + 1
  | .map entries => uptoBulkEntries entries + 1
  | .held _ => 1
def uptoBulkAll {H : Type} : List (DataW H) → Nat
  | [] => 0
  | d :: r => uptoBulk d + uptoBulkAll r
def uptoBulkEntries {H : Type} : List (Lit × DataW H) → Nat
  | [] => 0
  | x :: r => uptoBulkEntry x + uptoBulkEntries r
def uptoBulkEntry {H : Type} : Lit × DataW H → Nat
  | (.string bytes, d) => bytes.length + uptoBulk d + 1
  | (_, d) => uptoBulk d + 1
 end
def uptoSmall : (H : Type) → List (DataW H) → Bool := fun _ ds => decide (uptoBulkAll ds ≤ 1048576)
def OpenSpec.upto (s : _root_.Go.ChangeSpec) : _root_.Go.OpenSpec := { _root_.Go.OpenSpec.ofChange s with cond := some uptoSmall }

/-- 'laws.FnExactLessTail', WHERE WHAT IT READS IS OF BULK AT MOST 1048576: true; the input reads as it did. -/
def fnExactLessTailUptoRow : OpenClaim := { program := "ytmpnfjajlmafgaa", sum := "34238ee88630f1a2ad6b66ad27b0973dc19c1fbf15db5f64fd0b043b76352997", func := "loop.example/g01339/laws.FnExactLessTail", spec := "fnExactLessTail", unfollowed := true, recurses := true, apart := false, narrowed := true }
def FnExactLessTailUptoSaid : Prop := fnExactLessTailUptoRow.holds Try.pinned (OpenSpec.upto fnExactLessTailSpec)

/-- 'laws.FnExactBothTails', WHERE WHAT IT READS IS OF BULK AT MOST 1048576: true; the input reads as it did. -/
def fnExactBothTailsUptoRow : OpenClaim := { program := "ytmpnfjajlmafgaa", sum := "34238ee88630f1a2ad6b66ad27b0973dc19c1fbf15db5f64fd0b043b76352997", func := "loop.example/g01339/laws.FnExactBothTails", spec := "fnExactBothTails", unfollowed := true, recurses := true, apart := false, narrowed := true }
def FnExactBothTailsUptoSaid : Prop := fnExactBothTailsUptoRow.holds Try.pinned (OpenSpec.upto fnExactBothTailsSpec)

/-- 'laws.FnExactExactTail', WHERE WHAT IT READS IS OF BULK AT MOST 1048576: true; the input reads as it did. -/
def fnExactExactTailUptoRow : OpenClaim := { program := "ytmpnfjajlmafgaa", sum := "34238ee88630f1a2ad6b66ad27b0973dc19c1fbf15db5f64fd0b043b76352997", func := "loop.example/g01339/laws.FnExactExactTail", spec := "fnExactExactTail", unfollowed := true, recurses := true, apart := false, narrowed := true }
def FnExactExactTailUptoSaid : Prop := fnExactExactTailUptoRow.holds Try.pinned (OpenSpec.upto fnExactExactTailSpec)

/-- 'laws.FnExactRankTail', WHERE WHAT IT READS IS OF BULK AT MOST 1048576: true; the input reads as it did. -/
def fnExactRankTailUptoRow : OpenClaim := { program := "ytmpnfjajlmafgaa", sum := "34238ee88630f1a2ad6b66ad27b0973dc19c1fbf15db5f64fd0b043b76352997", func := "loop.example/g01339/laws.FnExactRankTail", spec := "fnExactRankTail", unfollowed := true, recurses := true, apart := false, narrowed := true }
def FnExactRankTailUptoSaid : Prop := fnExactRankTailUptoRow.holds Try.pinned (OpenSpec.upto fnExactRankTailSpec)

/-- 'laws.FnExactHolmMany', WHERE WHAT IT READS IS OF BULK AT MOST 1048576: true; the input reads as it did. -/
def fnExactHolmManyUptoRow : OpenClaim := { program := "ytmpnfjajlmafgaa", sum := "34238ee88630f1a2ad6b66ad27b0973dc19c1fbf15db5f64fd0b043b76352997", func := "loop.example/g01339/laws.FnExactHolmMany", spec := "fnExactHolmMany", unfollowed := true, recurses := true, apart := false, narrowed := true }
def FnExactHolmManyUptoSaid : Prop := fnExactHolmManyUptoRow.holds Try.pinned (OpenSpec.upto fnExactHolmManySpec)

/-- 'laws.FnExactStepMany', WHERE WHAT IT READS IS OF BULK AT MOST 1048576: true; the input reads as it did. -/
def fnExactStepManyUptoRow : OpenClaim := { program := "ytmpnfjajlmafgaa", sum := "34238ee88630f1a2ad6b66ad27b0973dc19c1fbf15db5f64fd0b043b76352997", func := "loop.example/g01339/laws.FnExactStepMany", spec := "fnExactStepMany", unfollowed := true, recurses := true, apart := false, narrowed := true }
def FnExactStepManyUptoSaid : Prop := fnExactStepManyUptoRow.holds Try.pinned (OpenSpec.upto fnExactStepManySpec)

end Rows
end Go.Proofs.Ytmpnfjajlmafgaa
