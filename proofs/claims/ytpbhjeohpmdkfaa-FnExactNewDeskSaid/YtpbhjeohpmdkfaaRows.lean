/-
  No cell of these rows narrows 'for every input' (looked for: loops, veiled, ifaces, maps, wideKeys, modest, calm, conditions, laid).
  DERIVED. THE GIVEN ROWS OF THIS SEAT. 5 by the template 'for every input the law returns true; each argument reads behind the call as it read before'; 0 by the template 'total and deterministic' (their statements: YtpbhjeohpmdkfaaTotals.lean).
  GIVEN WITH THE SEED: the statements are not yours to turn. If you find one false, say at which input.
  Laid BY PROGRAM, IN A SANDBOX (cutbox-rows.mjs): the forced cells as the released guide's own fill.sh prints them over the translation c88f9ba2c43ec333… (all of the seat's roots in one cut). By AI agents, Wed Nov 11 2026. No macro, syntax, notation, axiom, sorry.
-/
import Derived.Test.YtpbhjeohpmdkfaaChecked
import GoSem.Claim
import GoSem.ClaimJoined
import GoSem.ClaimMapViews
import Derived.JoinedTies
import Derived.KernelRfl
namespace Go.Proofs.Ytpbhjeohpmdkfaa
/- THE CELL 'sum', in the pinned program and in every row, IS THE sha256 OF THE DUMP (.gsa) THAT YtpbhjeohpmdkfaaProg.lean LOADS. Nothing in Lean hashes anything: it is a label: what it is worth is what the hold of that sum in a sandbox is worth. -/
noncomputable def Try.pinned : Pinned := { name := "ytpbhjeohpmdkfaa", sum := "c88f9ba2c43ec333a80b32ea3f23fedba5051e8e50a74584dc6fac837d7bed41", checked := Try.checked }
namespace Rows
def none {H : Type} : Left H := { results := [], args := [] }

/-- 'laws.FnExactNewDesk': WHATEVER THE INPUT: true; the input reads as it did. -/
def fnExactNewDeskSpec : ChangeSpec := { name := "fnExactNewDesk", fn := fun _ => fun
  | [] => { results := [.lit (.bool true)], args := [] }
  | _ => none }
def fnExactNewDeskRow : OpenClaim := { program := "ytpbhjeohpmdkfaa", sum := "c88f9ba2c43ec333a80b32ea3f23fedba5051e8e50a74584dc6fac837d7bed41", func := "loop.example/g01339/laws.FnExactNewDesk", spec := "fnExactNewDesk", apart := false }
def FnExactNewDeskSaid : Prop := fnExactNewDeskRow.holds Try.pinned (OpenSpec.ofChange fnExactNewDeskSpec)

/-- ITS FALSE NEIGHBOUR: 'it returns false'. Refute it at one input. -/
def fnExactNewDeskWrong : ChangeSpec := { name := "fnExactNewDesk", fn := fun _ => fun
  | [] => { results := [.lit (.bool false)], args := [] }
  | _ => none }
def FnExactNewDeskWrongFalsely : Prop := fnExactNewDeskRow.holds Try.pinned (OpenSpec.ofChange fnExactNewDeskWrong)

/-- 'laws.FnExactSameRecords': WHATEVER THE INPUT: true; the input reads as it did. -/
def fnExactSameRecordsSpec : ChangeSpec := { name := "fnExactSameRecords", fn := fun _ => fun
  | [d1, d2] => { results := [.lit (.bool true)], args := [d1, d2] }
  | _ => none }
def fnExactSameRecordsRow : OpenClaim := { program := "ytpbhjeohpmdkfaa", sum := "c88f9ba2c43ec333a80b32ea3f23fedba5051e8e50a74584dc6fac837d7bed41", func := "loop.example/g01339/laws.FnExactSameRecords", spec := "fnExactSameRecords", unfollowed := true, recurses := true, apart := false }
def FnExactSameRecordsSaid : Prop := fnExactSameRecordsRow.holds Try.pinned (OpenSpec.ofChange fnExactSameRecordsSpec)

/-- ITS FALSE NEIGHBOUR: 'it returns false'. Refute it at one input. -/
def fnExactSameRecordsWrong : ChangeSpec := { name := "fnExactSameRecords", fn := fun _ => fun
  | [d1, d2] => { results := [.lit (.bool false)], args := [d1, d2] }
  | _ => none }
def FnExactSameRecordsWrongFalsely : Prop := fnExactSameRecordsRow.holds Try.pinned (OpenSpec.ofChange fnExactSameRecordsWrong)

/-- 'laws.FnExactSameDesk': WHATEVER THE INPUT: true; the input reads as it did. -/
def fnExactSameDeskSpec : ChangeSpec := { name := "fnExactSameDesk", fn := fun _ => fun
  | [d1, d2] => { results := [.lit (.bool true)], args := [d1, d2] }
  | _ => none }
def fnExactSameDeskRow : OpenClaim := { program := "ytpbhjeohpmdkfaa", sum := "c88f9ba2c43ec333a80b32ea3f23fedba5051e8e50a74584dc6fac837d7bed41", func := "loop.example/g01339/laws.FnExactSameDesk", spec := "fnExactSameDesk", inPlace := ["math.Float32bits", "math.Float64bits"], unfollowed := true, recurses := true, apart := false }
def FnExactSameDeskSaid : Prop := fnExactSameDeskRow.holds Try.pinned (OpenSpec.ofChange fnExactSameDeskSpec)

/-- ITS FALSE NEIGHBOUR: 'it returns false'. Refute it at one input. -/
def fnExactSameDeskWrong : ChangeSpec := { name := "fnExactSameDesk", fn := fun _ => fun
  | [d1, d2] => { results := [.lit (.bool false)], args := [d1, d2] }
  | _ => none }
def FnExactSameDeskWrongFalsely : Prop := fnExactSameDeskRow.holds Try.pinned (OpenSpec.ofChange fnExactSameDeskWrong)

/-- 'laws.FnExactHolmMany': WHATEVER THE INPUT: true; the input reads as it did. -/
def fnExactHolmManySpec : ChangeSpec := { name := "fnExactHolmMany", fn := fun _ => fun
  | [d] => { results := [.lit (.bool true)], args := [d] }
  | _ => none }
def fnExactHolmManyRow : OpenClaim := { program := "ytpbhjeohpmdkfaa", sum := "c88f9ba2c43ec333a80b32ea3f23fedba5051e8e50a74584dc6fac837d7bed41", func := "loop.example/g01339/laws.FnExactHolmMany", spec := "fnExactHolmMany", unfollowed := true, recurses := true, apart := false }
def FnExactHolmManySaid : Prop := fnExactHolmManyRow.holds Try.pinned (OpenSpec.ofChange fnExactHolmManySpec)

/-- ITS FALSE NEIGHBOUR: 'it returns false'. Refute it at one input. -/
def fnExactHolmManyWrong : ChangeSpec := { name := "fnExactHolmMany", fn := fun _ => fun
  | [d] => { results := [.lit (.bool false)], args := [d] }
  | _ => none }
def FnExactHolmManyWrongFalsely : Prop := fnExactHolmManyRow.holds Try.pinned (OpenSpec.ofChange fnExactHolmManyWrong)

/-- 'laws.FnExactStepMany': WHATEVER THE INPUT: true; the input reads as it did. -/
def fnExactStepManySpec : ChangeSpec := { name := "fnExactStepMany", fn := fun _ => fun
  | [d] => { results := [.lit (.bool true)], args := [d] }
  | _ => none }
def fnExactStepManyRow : OpenClaim := { program := "ytpbhjeohpmdkfaa", sum := "c88f9ba2c43ec333a80b32ea3f23fedba5051e8e50a74584dc6fac837d7bed41", func := "loop.example/g01339/laws.FnExactStepMany", spec := "fnExactStepMany", unfollowed := true, recurses := true, apart := false }
def FnExactStepManySaid : Prop := fnExactStepManyRow.holds Try.pinned (OpenSpec.ofChange fnExactStepManySpec)

/-- ITS FALSE NEIGHBOUR: 'it returns false'. Refute it at one input. -/
def fnExactStepManyWrong : ChangeSpec := { name := "fnExactStepMany", fn := fun _ => fun
  | [d] => { results := [.lit (.bool false)], args := [d] }
  | _ => none }
def FnExactStepManyWrongFalsely : Prop := fnExactStepManyRow.holds Try.pinned (OpenSpec.ofChange fnExactStepManyWrong)

/- THE SECOND FORM. 'bulk': how many values and letters a reading holds, each counted each time it is reached (what is shared counts as often as it is met; a slice's spare places count too). A statement '..UptoSaid' is the law's where the arguments, and the package variables that the reading takes, are together of bulk at most 1048576: NARROWER than '..Said'. Prove '..Said' where nothing that the law and all that it calls make is longer than what came in: it says more and counts as full. Else prove '..UptoSaid'. A law counts once. -/
mutual
def uptoBulk {H : Type} : DataW H → Nat
  | .lit (.string bytes) => bytes.length + 1
  | .lit _ => 1
  | .nil => 1
  | .ptr d => uptoBulk d + 1
  | .slice elems spare => uptoBulkAll elems + uptoBulkAll spare + 1
  | .agg parts => uptoBulkAll parts + 1
  | .iface _ d => uptoBulk d + 1
  | .map entries => uptoBulkEntries entries + 1
  | .held _ => 1
def uptoBulkAll {H : Type} : List (DataW H) → Nat
  | [] => 0
  | d :: r => uptoBulk d + uptoBulkAll r
def uptoBulkEntries {H : Type} : List (Lit × DataW H) → Nat
  | [] => 0
  | x :: r => uptoBulkEntry x + uptoBulkEntries r
def uptoBulkEntry {H : Type} : Lit × DataW H → Nat
  | (.string bytes, d) => bytes.length + uptoBulk d + 1
  | (_, d) => uptoBulk d + 1
 end
def uptoSmall : (H : Type) → List (DataW H) → Bool := fun _ ds => decide (uptoBulkAll ds ≤ 1048576)
def OpenSpec.upto (s : _root_.Go.ChangeSpec) : _root_.Go.OpenSpec := { _root_.Go.OpenSpec.ofChange s with cond := some uptoSmall }

/-- 'laws.FnExactNewDesk', WHERE WHAT IT READS IS OF BULK AT MOST 1048576: true; the input reads as it did. -/
def fnExactNewDeskUptoRow : OpenClaim := { program := "ytpbhjeohpmdkfaa", sum := "c88f9ba2c43ec333a80b32ea3f23fedba5051e8e50a74584dc6fac837d7bed41", func := "loop.example/g01339/laws.FnExactNewDesk", spec := "fnExactNewDesk", apart := false, narrowed := true }
def FnExactNewDeskUptoSaid : Prop := fnExactNewDeskUptoRow.holds Try.pinned (OpenSpec.upto fnExactNewDeskSpec)

/-- 'laws.FnExactSameRecords', WHERE WHAT IT READS IS OF BULK AT MOST 1048576: true; the input reads as it did. -/
def fnExactSameRecordsUptoRow : OpenClaim := { program := "ytpbhjeohpmdkfaa", sum := "c88f9ba2c43ec333a80b32ea3f23fedba5051e8e50a74584dc6fac837d7bed41", func := "loop.example/g01339/laws.FnExactSameRecords", spec := "fnExactSameRecords", unfollowed := true, recurses := true, apart := false, narrowed := true }
def FnExactSameRecordsUptoSaid : Prop := fnExactSameRecordsUptoRow.holds Try.pinned (OpenSpec.upto fnExactSameRecordsSpec)

/-- 'laws.FnExactSameDesk', WHERE WHAT IT READS IS OF BULK AT MOST 1048576: true; the input reads as it did. -/
def fnExactSameDeskUptoRow : OpenClaim := { program := "ytpbhjeohpmdkfaa", sum := "c88f9ba2c43ec333a80b32ea3f23fedba5051e8e50a74584dc6fac837d7bed41", func := "loop.example/g01339/laws.FnExactSameDesk", spec := "fnExactSameDesk", inPlace := ["math.Float32bits", "math.Float64bits"], unfollowed := true, recurses := true, apart := false, narrowed := true }
def FnExactSameDeskUptoSaid : Prop := fnExactSameDeskUptoRow.holds Try.pinned (OpenSpec.upto fnExactSameDeskSpec)

/-- 'laws.FnExactHolmMany', WHERE WHAT IT READS IS OF BULK AT MOST 1048576: true; the input reads as it did. -/
def fnExactHolmManyUptoRow : OpenClaim := { program := "ytpbhjeohpmdkfaa", sum := "c88f9ba2c43ec333a80b32ea3f23fedba5051e8e50a74584dc6fac837d7bed41", func := "loop.example/g01339/laws.FnExactHolmMany", spec := "fnExactHolmMany", unfollowed := true, recurses := true, apart := false, narrowed := true }
def FnExactHolmManyUptoSaid : Prop := fnExactHolmManyUptoRow.holds Try.pinned (OpenSpec.upto fnExactHolmManySpec)

/-- 'laws.FnExactStepMany', WHERE WHAT IT READS IS OF BULK AT MOST 1048576: true; the input reads as it did. -/
def fnExactStepManyUptoRow : OpenClaim := { program := "ytpbhjeohpmdkfaa", sum := "c88f9ba2c43ec333a80b32ea3f23fedba5051e8e50a74584dc6fac837d7bed41", func := "loop.example/g01339/laws.FnExactStepMany", spec := "fnExactStepMany", unfollowed := true, recurses := true, apart := false, narrowed := true }
def FnExactStepManyUptoSaid : Prop := fnExactStepManyUptoRow.holds Try.pinned (OpenSpec.upto fnExactStepManySpec)

end Rows
end Go.Proofs.Ytpbhjeohpmdkfaa
