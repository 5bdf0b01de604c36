/-
  No cell of these rows narrows 'for every input' (looked for: loops, veiled, ifaces, maps, wideKeys, modest, calm, conditions, laid).
  DERIVED. THE GIVEN ROWS OF THIS SEAT. 20 by the template 'for every input the law returns true; each argument reads behind the call as it read before'; 0 by the template 'total and deterministic' (their statements: YtddaodjaeommlaaTotals.lean).
  GIVEN WITH THE SEED: the statements are not yours to turn. If you find one false, say at which input.
  Laid BY PROGRAM, IN A SANDBOX (cutbox-rows.mjs): the forced cells as the released guide's own fill.sh prints them over the translation cd44249d0e6fcd05… (all of the seat's roots in one cut). By AI agents, Wed Nov 11 2026. No macro, syntax, notation, axiom, sorry.
-/
import Derived.Test.YtddaodjaeommlaaChecked
import GoSem.Claim
import GoSem.ClaimJoined
import GoSem.ClaimMapViews
import Derived.JoinedTies
import Derived.KernelRfl
namespace Go.Proofs.Ytddaodjaeommlaa
/- THE CELL 'sum', in the pinned program and in every row, IS THE sha256 OF THE DUMP (.gsa) THAT YtddaodjaeommlaaProg.lean LOADS. Nothing in Lean hashes anything: it is a label: what it is worth is what the hold of that sum in a sandbox is worth. -/
noncomputable def Try.pinned : Pinned := { name := "ytddaodjaeommlaa", sum := "cd44249d0e6fcd0513e31e12aa720e00eec513d747f4eacff7c2b759ad2cef12", checked := Try.checked }
namespace Rows
def none {H : Type} : Left H := { results := [], args := [] }

/-- 'laws.FnExactIsRow': WHATEVER THE INPUT: true; the input reads as it did. -/
def fnExactIsRowSpec : ChangeSpec := { name := "fnExactIsRow", fn := fun _ => fun
  | [d] => { results := [.lit (.bool true)], args := [d] }
  | _ => none }
def fnExactIsRowRow : OpenClaim := { program := "ytddaodjaeommlaa", sum := "cd44249d0e6fcd0513e31e12aa720e00eec513d747f4eacff7c2b759ad2cef12", func := "loop.example/g01339/laws.FnExactIsRow", spec := "fnExactIsRow", unfollowed := true, recurses := true, apart := false }
def FnExactIsRowSaid : Prop := fnExactIsRowRow.holds Try.pinned (OpenSpec.ofChange fnExactIsRowSpec)

/-- ITS FALSE NEIGHBOUR: 'it returns false'. Refute it at one input. -/
def fnExactIsRowWrong : ChangeSpec := { name := "fnExactIsRow", fn := fun _ => fun
  | [d] => { results := [.lit (.bool false)], args := [d] }
  | _ => none }
def FnExactIsRowWrongFalsely : Prop := fnExactIsRowRow.holds Try.pinned (OpenSpec.ofChange fnExactIsRowWrong)

/-- 'laws.FnExactSameChain': WHATEVER THE INPUT: true; the input reads as it did. -/
def fnExactSameChainSpec : ChangeSpec := { name := "fnExactSameChain", fn := fun _ => fun
  | [d1, d2] => { results := [.lit (.bool true)], args := [d1, d2] }
  | _ => none }
def fnExactSameChainRow : OpenClaim := { program := "ytddaodjaeommlaa", sum := "cd44249d0e6fcd0513e31e12aa720e00eec513d747f4eacff7c2b759ad2cef12", func := "loop.example/g01339/laws.FnExactSameChain", spec := "fnExactSameChain", inPlace := ["math.Float32bits", "math.Float64bits"], unfollowed := true, recurses := true, apart := false }
def FnExactSameChainSaid : Prop := fnExactSameChainRow.holds Try.pinned (OpenSpec.ofChange fnExactSameChainSpec)

/-- ITS FALSE NEIGHBOUR: 'it returns false'. Refute it at one input. -/
def fnExactSameChainWrong : ChangeSpec := { name := "fnExactSameChain", fn := fun _ => fun
  | [d1, d2] => { results := [.lit (.bool false)], args := [d1, d2] }
  | _ => none }
def FnExactSameChainWrongFalsely : Prop := fnExactSameChainRow.holds Try.pinned (OpenSpec.ofChange fnExactSameChainWrong)

/-- 'laws.FnExactSwapChance': WHATEVER THE INPUT: true; the input reads as it did. -/
def fnExactSwapChanceSpec : ChangeSpec := { name := "fnExactSwapChance", fn := fun _ => fun
  | [d1, d2, d3, d4] => { results := [.lit (.bool true)], args := [d1, d2, d3, d4] }
  | _ => none }
def fnExactSwapChanceRow : OpenClaim := { program := "ytddaodjaeommlaa", sum := "cd44249d0e6fcd0513e31e12aa720e00eec513d747f4eacff7c2b759ad2cef12", func := "loop.example/g01339/laws.FnExactSwapChance", spec := "fnExactSwapChance", inPlace := ["math.Float64frombits"], unfollowed := true, recurses := true, apart := false }
def FnExactSwapChanceSaid : Prop := fnExactSwapChanceRow.holds Try.pinned (OpenSpec.ofChange fnExactSwapChanceSpec)

/-- ITS FALSE NEIGHBOUR: 'it returns false'. Refute it at one input. -/
def fnExactSwapChanceWrong : ChangeSpec := { name := "fnExactSwapChance", fn := fun _ => fun
  | [d1, d2, d3, d4] => { results := [.lit (.bool false)], args := [d1, d2, d3, d4] }
  | _ => none }
def FnExactSwapChanceWrongFalsely : Prop := fnExactSwapChanceRow.holds Try.pinned (OpenSpec.ofChange fnExactSwapChanceWrong)

/-- 'laws.FnExactValidChain': WHATEVER THE INPUT: true; the input reads as it did. -/
def fnExactValidChainSpec : ChangeSpec := { name := "fnExactValidChain", fn := fun _ => fun
  | [d] => { results := [.lit (.bool true)], args := [d] }
  | _ => none }
def fnExactValidChainRow : OpenClaim := { program := "ytddaodjaeommlaa", sum := "cd44249d0e6fcd0513e31e12aa720e00eec513d747f4eacff7c2b759ad2cef12", func := "loop.example/g01339/laws.FnExactValidChain", spec := "fnExactValidChain", unfollowed := true, recurses := true, apart := false }
def FnExactValidChainSaid : Prop := fnExactValidChainRow.holds Try.pinned (OpenSpec.ofChange fnExactValidChainSpec)

/-- ITS FALSE NEIGHBOUR: 'it returns false'. Refute it at one input. -/
def fnExactValidChainWrong : ChangeSpec := { name := "fnExactValidChain", fn := fun _ => fun
  | [d] => { results := [.lit (.bool false)], args := [d] }
  | _ => none }
def FnExactValidChainWrongFalsely : Prop := fnExactValidChainRow.holds Try.pinned (OpenSpec.ofChange fnExactValidChainWrong)

/-- 'laws.FnExactRingChain': WHATEVER THE INPUT: true; the input reads as it did. -/
def fnExactRingChainSpec : ChangeSpec := { name := "fnExactRingChain", fn := fun _ => fun
  | [d1, d2, d3] => { results := [.lit (.bool true)], args := [d1, d2, d3] }
  | _ => none }
def fnExactRingChainRow : OpenClaim := { program := "ytddaodjaeommlaa", sum := "cd44249d0e6fcd0513e31e12aa720e00eec513d747f4eacff7c2b759ad2cef12", func := "loop.example/g01339/laws.FnExactRingChain", spec := "fnExactRingChain", unfollowed := true, recurses := true, apart := false }
def FnExactRingChainSaid : Prop := fnExactRingChainRow.holds Try.pinned (OpenSpec.ofChange fnExactRingChainSpec)

/-- ITS FALSE NEIGHBOUR: 'it returns false'. Refute it at one input. -/
def fnExactRingChainWrong : ChangeSpec := { name := "fnExactRingChain", fn := fun _ => fun
  | [d1, d2, d3] => { results := [.lit (.bool false)], args := [d1, d2, d3] }
  | _ => none }
def FnExactRingChainWrongFalsely : Prop := fnExactRingChainRow.holds Try.pinned (OpenSpec.ofChange fnExactRingChainWrong)

/-- 'laws.FnExactBalanceMiss': WHATEVER THE INPUT: true; the input reads as it did. -/
def fnExactBalanceMissSpec : ChangeSpec := { name := "fnExactBalanceMiss", fn := fun _ => fun
  | [d1, d2] => { results := [.lit (.bool true)], args := [d1, d2] }
  | _ => none }
def fnExactBalanceMissRow : OpenClaim := { program := "ytddaodjaeommlaa", sum := "cd44249d0e6fcd0513e31e12aa720e00eec513d747f4eacff7c2b759ad2cef12", func := "loop.example/g01339/laws.FnExactBalanceMiss", spec := "fnExactBalanceMiss", unfollowed := true, recurses := true, apart := false }
def FnExactBalanceMissSaid : Prop := fnExactBalanceMissRow.holds Try.pinned (OpenSpec.ofChange fnExactBalanceMissSpec)

/-- ITS FALSE NEIGHBOUR: 'it returns false'. Refute it at one input. -/
def fnExactBalanceMissWrong : ChangeSpec := { name := "fnExactBalanceMiss", fn := fun _ => fun
  | [d1, d2] => { results := [.lit (.bool false)], args := [d1, d2] }
  | _ => none }
def FnExactBalanceMissWrongFalsely : Prop := fnExactBalanceMissRow.holds Try.pinned (OpenSpec.ofChange fnExactBalanceMissWrong)

/-- 'laws.FnExactLazyChain': WHATEVER THE INPUT: true; the input reads as it did. -/
def fnExactLazyChainSpec : ChangeSpec := { name := "fnExactLazyChain", fn := fun _ => fun
  | [d1, d2] => { results := [.lit (.bool true)], args := [d1, d2] }
  | _ => none }
def fnExactLazyChainRow : OpenClaim := { program := "ytddaodjaeommlaa", sum := "cd44249d0e6fcd0513e31e12aa720e00eec513d747f4eacff7c2b759ad2cef12", func := "loop.example/g01339/laws.FnExactLazyChain", spec := "fnExactLazyChain", unfollowed := true, recurses := true, apart := false }
def FnExactLazyChainSaid : Prop := fnExactLazyChainRow.holds Try.pinned (OpenSpec.ofChange fnExactLazyChainSpec)

/-- ITS FALSE NEIGHBOUR: 'it returns false'. Refute it at one input. -/
def fnExactLazyChainWrong : ChangeSpec := { name := "fnExactLazyChain", fn := fun _ => fun
  | [d1, d2] => { results := [.lit (.bool false)], args := [d1, d2] }
  | _ => none }
def FnExactLazyChainWrongFalsely : Prop := fnExactLazyChainRow.holds Try.pinned (OpenSpec.ofChange fnExactLazyChainWrong)

/-- 'laws.FnExactJoinChains': WHATEVER THE INPUT: true; the input reads as it did. -/
def fnExactJoinChainsSpec : ChangeSpec := { name := "fnExactJoinChains", fn := fun _ => fun
  | [d1, d2] => { results := [.lit (.bool true)], args := [d1, d2] }
  | _ => none }
def fnExactJoinChainsRow : OpenClaim := { program := "ytddaodjaeommlaa", sum := "cd44249d0e6fcd0513e31e12aa720e00eec513d747f4eacff7c2b759ad2cef12", func := "loop.example/g01339/laws.FnExactJoinChains", spec := "fnExactJoinChains", unfollowed := true, recurses := true, apart := false }
def FnExactJoinChainsSaid : Prop := fnExactJoinChainsRow.holds Try.pinned (OpenSpec.ofChange fnExactJoinChainsSpec)

/-- ITS FALSE NEIGHBOUR: 'it returns false'. Refute it at one input. -/
def fnExactJoinChainsWrong : ChangeSpec := { name := "fnExactJoinChains", fn := fun _ => fun
  | [d1, d2] => { results := [.lit (.bool false)], args := [d1, d2] }
  | _ => none }
def FnExactJoinChainsWrongFalsely : Prop := fnExactJoinChainsRow.holds Try.pinned (OpenSpec.ofChange fnExactJoinChainsWrong)

/-- 'laws.FnExactStepRow': WHATEVER THE INPUT: true; the input reads as it did. -/
def fnExactStepRowSpec : ChangeSpec := { name := "fnExactStepRow", fn := fun _ => fun
  | [d1, d2] => { results := [.lit (.bool true)], args := [d1, d2] }
  | _ => none }
def fnExactStepRowRow : OpenClaim := { program := "ytddaodjaeommlaa", sum := "cd44249d0e6fcd0513e31e12aa720e00eec513d747f4eacff7c2b759ad2cef12", func := "loop.example/g01339/laws.FnExactStepRow", spec := "fnExactStepRow", unfollowed := true, recurses := true, apart := false }
def FnExactStepRowSaid : Prop := fnExactStepRowRow.holds Try.pinned (OpenSpec.ofChange fnExactStepRowSpec)

/-- ITS FALSE NEIGHBOUR: 'it returns false'. Refute it at one input. -/
def fnExactStepRowWrong : ChangeSpec := { name := "fnExactStepRow", fn := fun _ => fun
  | [d1, d2] => { results := [.lit (.bool false)], args := [d1, d2] }
  | _ => none }
def FnExactStepRowWrongFalsely : Prop := fnExactStepRowRow.holds Try.pinned (OpenSpec.ofChange fnExactStepRowWrong)

/-- 'laws.FnExactBackChain': WHATEVER THE INPUT: true; the input reads as it did. -/
def fnExactBackChainSpec : ChangeSpec := { name := "fnExactBackChain", fn := fun _ => fun
  | [d1, d2] => { results := [.lit (.bool true)], args := [d1, d2] }
  | _ => none }
def fnExactBackChainRow : OpenClaim := { program := "ytddaodjaeommlaa", sum := "cd44249d0e6fcd0513e31e12aa720e00eec513d747f4eacff7c2b759ad2cef12", func := "loop.example/g01339/laws.FnExactBackChain", spec := "fnExactBackChain", unfollowed := true, recurses := true, apart := false }
def FnExactBackChainSaid : Prop := fnExactBackChainRow.holds Try.pinned (OpenSpec.ofChange fnExactBackChainSpec)

/-- ITS FALSE NEIGHBOUR: 'it returns false'. Refute it at one input. -/
def fnExactBackChainWrong : ChangeSpec := { name := "fnExactBackChain", fn := fun _ => fun
  | [d1, d2] => { results := [.lit (.bool false)], args := [d1, d2] }
  | _ => none }
def FnExactBackChainWrongFalsely : Prop := fnExactBackChainRow.holds Try.pinned (OpenSpec.ofChange fnExactBackChainWrong)

/-- 'laws.FnExactRunRow': WHATEVER THE INPUT: true; the input reads as it did. -/
def fnExactRunRowSpec : ChangeSpec := { name := "fnExactRunRow", fn := fun _ => fun
  | [d1, d2, d3] => { results := [.lit (.bool true)], args := [d1, d2, d3] }
  | _ => none }
def fnExactRunRowRow : OpenClaim := { program := "ytddaodjaeommlaa", sum := "cd44249d0e6fcd0513e31e12aa720e00eec513d747f4eacff7c2b759ad2cef12", func := "loop.example/g01339/laws.FnExactRunRow", spec := "fnExactRunRow", unfollowed := true, recurses := true, apart := false }
def FnExactRunRowSaid : Prop := fnExactRunRowRow.holds Try.pinned (OpenSpec.ofChange fnExactRunRowSpec)

/-- ITS FALSE NEIGHBOUR: 'it returns false'. Refute it at one input. -/
def fnExactRunRowWrong : ChangeSpec := { name := "fnExactRunRow", fn := fun _ => fun
  | [d1, d2, d3] => { results := [.lit (.bool false)], args := [d1, d2, d3] }
  | _ => none }
def FnExactRunRowWrongFalsely : Prop := fnExactRunRowRow.holds Try.pinned (OpenSpec.ofChange fnExactRunRowWrong)

/-- 'laws.FnExactGroupsOfChain': WHATEVER THE INPUT: true; the input reads as it did. -/
def fnExactGroupsOfChainSpec : ChangeSpec := { name := "fnExactGroupsOfChain", fn := fun _ => fun
  | [d] => { results := [.lit (.bool true)], args := [d] }
  | _ => none }
def fnExactGroupsOfChainRow : OpenClaim := { program := "ytddaodjaeommlaa", sum := "cd44249d0e6fcd0513e31e12aa720e00eec513d747f4eacff7c2b759ad2cef12", func := "loop.example/g01339/laws.FnExactGroupsOfChain", spec := "fnExactGroupsOfChain", unfollowed := true, recurses := true, apart := false }
def FnExactGroupsOfChainSaid : Prop := fnExactGroupsOfChainRow.holds Try.pinned (OpenSpec.ofChange fnExactGroupsOfChainSpec)

/-- ITS FALSE NEIGHBOUR: 'it returns false'. Refute it at one input. -/
def fnExactGroupsOfChainWrong : ChangeSpec := { name := "fnExactGroupsOfChain", fn := fun _ => fun
  | [d] => { results := [.lit (.bool false)], args := [d] }
  | _ => none }
def FnExactGroupsOfChainWrongFalsely : Prop := fnExactGroupsOfChainRow.holds Try.pinned (OpenSpec.ofChange fnExactGroupsOfChainWrong)

/-- 'laws.FnExactWeighChain': WHATEVER THE INPUT: true; the input reads as it did. -/
def fnExactWeighChainSpec : ChangeSpec := { name := "fnExactWeighChain", fn := fun _ => fun
  | [d1, d2] => { results := [.lit (.bool true)], args := [d1, d2] }
  | _ => none }
def fnExactWeighChainRow : OpenClaim := { program := "ytddaodjaeommlaa", sum := "cd44249d0e6fcd0513e31e12aa720e00eec513d747f4eacff7c2b759ad2cef12", func := "loop.example/g01339/laws.FnExactWeighChain", spec := "fnExactWeighChain", unfollowed := true, recurses := true, apart := false }
def FnExactWeighChainSaid : Prop := fnExactWeighChainRow.holds Try.pinned (OpenSpec.ofChange fnExactWeighChainSpec)

/-- ITS FALSE NEIGHBOUR: 'it returns false'. Refute it at one input. -/
def fnExactWeighChainWrong : ChangeSpec := { name := "fnExactWeighChain", fn := fun _ => fun
  | [d1, d2] => { results := [.lit (.bool false)], args := [d1, d2] }
  | _ => none }
def FnExactWeighChainWrongFalsely : Prop := fnExactWeighChainRow.holds Try.pinned (OpenSpec.ofChange fnExactWeighChainWrong)

/-- 'laws.FnExactRestOf': WHATEVER THE INPUT: true; the input reads as it did. -/
def fnExactRestOfSpec : ChangeSpec := { name := "fnExactRestOf", fn := fun _ => fun
  | [d1, d2, d3] => { results := [.lit (.bool true)], args := [d1, d2, d3] }
  | _ => none }
def fnExactRestOfRow : OpenClaim := { program := "ytddaodjaeommlaa", sum := "cd44249d0e6fcd0513e31e12aa720e00eec513d747f4eacff7c2b759ad2cef12", func := "loop.example/g01339/laws.FnExactRestOf", spec := "fnExactRestOf", unfollowed := true, recurses := true, apart := false }
def FnExactRestOfSaid : Prop := fnExactRestOfRow.holds Try.pinned (OpenSpec.ofChange fnExactRestOfSpec)

/-- ITS FALSE NEIGHBOUR: 'it returns false'. Refute it at one input. -/
def fnExactRestOfWrong : ChangeSpec := { name := "fnExactRestOf", fn := fun _ => fun
  | [d1, d2, d3] => { results := [.lit (.bool false)], args := [d1, d2, d3] }
  | _ => none }
def FnExactRestOfWrongFalsely : Prop := fnExactRestOfRow.holds Try.pinned (OpenSpec.ofChange fnExactRestOfWrong)

/-- 'laws.FnExactWalkChain': WHATEVER THE INPUT: true; the input reads as it did. -/
def fnExactWalkChainSpec : ChangeSpec := { name := "fnExactWalkChain", fn := fun _ => fun
  | [d1, d2, d3, d4] => { results := [.lit (.bool true)], args := [d1, d2, d3, d4] }
  | _ => none }
def fnExactWalkChainRow : OpenClaim := { program := "ytddaodjaeommlaa", sum := "cd44249d0e6fcd0513e31e12aa720e00eec513d747f4eacff7c2b759ad2cef12", func := "loop.example/g01339/laws.FnExactWalkChain", spec := "fnExactWalkChain", unfollowed := true, recurses := true, apart := false }
def FnExactWalkChainSaid : Prop := fnExactWalkChainRow.holds Try.pinned (OpenSpec.ofChange fnExactWalkChainSpec)

/-- ITS FALSE NEIGHBOUR: 'it returns false'. Refute it at one input. -/
def fnExactWalkChainWrong : ChangeSpec := { name := "fnExactWalkChain", fn := fun _ => fun
  | [d1, d2, d3, d4] => { results := [.lit (.bool false)], args := [d1, d2, d3, d4] }
  | _ => none }
def FnExactWalkChainWrongFalsely : Prop := fnExactWalkChainRow.holds Try.pinned (OpenSpec.ofChange fnExactWalkChainWrong)

/-- 'laws.FnExactMeetWalks': WHATEVER THE INPUT: true; the input reads as it did. -/
def fnExactMeetWalksSpec : ChangeSpec := { name := "fnExactMeetWalks", fn := fun _ => fun
  | [d1, d2, d3, d4, d5] => { results := [.lit (.bool true)], args := [d1, d2, d3, d4, d5] }
  | _ => none }
def fnExactMeetWalksRow : OpenClaim := { program := "ytddaodjaeommlaa", sum := "cd44249d0e6fcd0513e31e12aa720e00eec513d747f4eacff7c2b759ad2cef12", func := "loop.example/g01339/laws.FnExactMeetWalks", spec := "fnExactMeetWalks", unfollowed := true, recurses := true, apart := false }
def FnExactMeetWalksSaid : Prop := fnExactMeetWalksRow.holds Try.pinned (OpenSpec.ofChange fnExactMeetWalksSpec)

/-- ITS FALSE NEIGHBOUR: 'it returns false'. Refute it at one input. -/
def fnExactMeetWalksWrong : ChangeSpec := { name := "fnExactMeetWalks", fn := fun _ => fun
  | [d1, d2, d3, d4, d5] => { results := [.lit (.bool false)], args := [d1, d2, d3, d4, d5] }
  | _ => none }
def FnExactMeetWalksWrongFalsely : Prop := fnExactMeetWalksRow.holds Try.pinned (OpenSpec.ofChange fnExactMeetWalksWrong)

/-- 'laws.FnExactPastDraw': WHATEVER THE INPUT: true; the input reads as it did. -/
def fnExactPastDrawSpec : ChangeSpec := { name := "fnExactPastDraw", fn := fun _ => fun
  | [d1, d2, d3] => { results := [.lit (.bool true)], args := [d1, d2, d3] }
  | _ => none }
def fnExactPastDrawRow : OpenClaim := { program := "ytddaodjaeommlaa", sum := "cd44249d0e6fcd0513e31e12aa720e00eec513d747f4eacff7c2b759ad2cef12", func := "loop.example/g01339/laws.FnExactPastDraw", spec := "fnExactPastDraw", unfollowed := true, recurses := true, apart := false }
def FnExactPastDrawSaid : Prop := fnExactPastDrawRow.holds Try.pinned (OpenSpec.ofChange fnExactPastDrawSpec)

/-- ITS FALSE NEIGHBOUR: 'it returns false'. Refute it at one input. -/
def fnExactPastDrawWrong : ChangeSpec := { name := "fnExactPastDraw", fn := fun _ => fun
  | [d1, d2, d3] => { results := [.lit (.bool false)], args := [d1, d2, d3] }
  | _ => none }
def FnExactPastDrawWrongFalsely : Prop := fnExactPastDrawRow.holds Try.pinned (OpenSpec.ofChange fnExactPastDrawWrong)

/-- 'laws.FnExactTimesTo': WHATEVER THE INPUT: true; the input reads as it did. -/
def fnExactTimesToSpec : ChangeSpec := { name := "fnExactTimesTo", fn := fun _ => fun
  | [d1, d2] => { results := [.lit (.bool true)], args := [d1, d2] }
  | _ => none }
def fnExactTimesToRow : OpenClaim := { program := "ytddaodjaeommlaa", sum := "cd44249d0e6fcd0513e31e12aa720e00eec513d747f4eacff7c2b759ad2cef12", func := "loop.example/g01339/laws.FnExactTimesTo", spec := "fnExactTimesTo", unfollowed := true, recurses := true, apart := false }
def FnExactTimesToSaid : Prop := fnExactTimesToRow.holds Try.pinned (OpenSpec.ofChange fnExactTimesToSpec)

/-- ITS FALSE NEIGHBOUR: 'it returns false'. Refute it at one input. -/
def fnExactTimesToWrong : ChangeSpec := { name := "fnExactTimesTo", fn := fun _ => fun
  | [d1, d2] => { results := [.lit (.bool false)], args := [d1, d2] }
  | _ => none }
def FnExactTimesToWrongFalsely : Prop := fnExactTimesToRow.holds Try.pinned (OpenSpec.ofChange fnExactTimesToWrong)

/-- 'laws.FnExactChancesTo': WHATEVER THE INPUT: true; the input reads as it did. -/
def fnExactChancesToSpec : ChangeSpec := { name := "fnExactChancesTo", fn := fun _ => fun
  | [d1, d2, d3] => { results := [.lit (.bool true)], args := [d1, d2, d3] }
  | _ => none }
def fnExactChancesToRow : OpenClaim := { program := "ytddaodjaeommlaa", sum := "cd44249d0e6fcd0513e31e12aa720e00eec513d747f4eacff7c2b759ad2cef12", func := "loop.example/g01339/laws.FnExactChancesTo", spec := "fnExactChancesTo", unfollowed := true, recurses := true, apart := false }
def FnExactChancesToSaid : Prop := fnExactChancesToRow.holds Try.pinned (OpenSpec.ofChange fnExactChancesToSpec)

/-- ITS FALSE NEIGHBOUR: 'it returns false'. Refute it at one input. -/
def fnExactChancesToWrong : ChangeSpec := { name := "fnExactChancesTo", fn := fun _ => fun
  | [d1, d2, d3] => { results := [.lit (.bool false)], args := [d1, d2, d3] }
  | _ => none }
def FnExactChancesToWrongFalsely : Prop := fnExactChancesToRow.holds Try.pinned (OpenSpec.ofChange fnExactChancesToWrong)

/-- 'laws.FnExactRareChance': WHATEVER THE INPUT: true; the input reads as it did. -/
def fnExactRareChanceSpec : ChangeSpec := { name := "fnExactRareChance", fn := fun _ => fun
  | [d1, d2, d3, d4, d5] => { results := [.lit (.bool true)], args := [d1, d2, d3, d4, d5] }
  | _ => none }
def fnExactRareChanceRow : OpenClaim := { program := "ytddaodjaeommlaa", sum := "cd44249d0e6fcd0513e31e12aa720e00eec513d747f4eacff7c2b759ad2cef12", func := "loop.example/g01339/laws.FnExactRareChance", spec := "fnExactRareChance", unfollowed := true, recurses := true, apart := false }
def FnExactRareChanceSaid : Prop := fnExactRareChanceRow.holds Try.pinned (OpenSpec.ofChange fnExactRareChanceSpec)

/-- ITS FALSE NEIGHBOUR: 'it returns false'. Refute it at one input. -/
def fnExactRareChanceWrong : ChangeSpec := { name := "fnExactRareChance", fn := fun _ => fun
  | [d1, d2, d3, d4, d5] => { results := [.lit (.bool false)], args := [d1, d2, d3, d4, d5] }
  | _ => none }
def FnExactRareChanceWrongFalsely : Prop := fnExactRareChanceRow.holds Try.pinned (OpenSpec.ofChange fnExactRareChanceWrong)

/- THE SECOND FORM. 'bulk': how many values and letters a reading holds, each counted each time it is reached (what is shared counts as often as it is met; a slice's spare places count too). A statement '..UptoSaid' is the law's where the arguments, and the package variables that the reading takes, are together of bulk at most 1048576: NARROWER than '..Said'. Prove '..Said' where nothing that the law and all that it calls make is longer than what came in: it says more and counts as full. Else prove '..UptoSaid'. A law counts once. -/
mutual
def uptoBulk {H : Type} : DataW H → Nat
  | .lit (.string bytes) => bytes.length + 1
  | .lit _ => 1
  | .nil => 1
  | .ptr d => uptoBulk d + 1
  | .slice elems spare => uptoBulkAll elems + uptoBulkAll spare + 1
  | .agg parts => uptoBulkAll parts + 1
  | .iface _ d => uptoBulk d + 1
  | .map entries => uptoBulkEntries entries + 1
  | .held _ => 1
def uptoBulkAll {H : Type} : List (DataW H) → Nat
  | [] => 0
  | d :: r => uptoBulk d + uptoBulkAll r
def uptoBulkEntries {H : Type} : List (Lit × DataW H) → Nat
  | [] => 0
  | x :: r => uptoBulkEntry x + uptoBulkEntries r
def uptoBulkEntry {H : Type} : Lit × DataW H → Nat
  | (.string bytes, d) => bytes.length + uptoBulk d + 1
  | (_, d) => uptoBulk d + 1
 end
def uptoSmall : (H : Type) → List (DataW H) → Bool := fun _ ds => decide (uptoBulkAll ds ≤ 1048576)
def OpenSpec.upto (s : _root_.Go.ChangeSpec) : _root_.Go.OpenSpec := { _root_.Go.OpenSpec.ofChange s with cond := some uptoSmall }

/-- 'laws.FnExactIsRow', WHERE WHAT IT READS IS OF BULK AT MOST 1048576: true; the input reads as it did. -/
def fnExactIsRowUptoRow : OpenClaim := { program := "ytddaodjaeommlaa", sum := "cd44249d0e6fcd0513e31e12aa720e00eec513d747f4eacff7c2b759ad2cef12", func := "loop.example/g01339/laws.FnExactIsRow", spec := "fnExactIsRow", unfollowed := true, recurses := true, apart := false, narrowed := true }
def FnExactIsRowUptoSaid : Prop := fnExactIsRowUptoRow.holds Try.pinned (OpenSpec.upto fnExactIsRowSpec)

/-- 'laws.FnExactSameChain', WHERE WHAT IT READS IS OF BULK AT MOST 1048576: true; the input reads as it did. -/
def fnExactSameChainUptoRow : OpenClaim := { program := "ytddaodjaeommlaa", sum := "cd44249d0e6fcd0513e31e12aa720e00eec513d747f4eacff7c2b759ad2cef12", func := "loop.example/g01339/laws.FnExactSameChain", spec := "fnExactSameChain", inPlace := ["math.Float32bits", "math.Float64bits"], unfollowed := true, recurses := true, apart := false, narrowed := true }
def FnExactSameChainUptoSaid : Prop := fnExactSameChainUptoRow.holds Try.pinned (OpenSpec.upto fnExactSameChainSpec)

/-- 'laws.FnExactSwapChance', WHERE WHAT IT READS IS OF BULK AT MOST 1048576: true; the input reads as it did. -/
def fnExactSwapChanceUptoRow : OpenClaim := { program := "ytddaodjaeommlaa", sum := "cd44249d0e6fcd0513e31e12aa720e00eec513d747f4eacff7c2b759ad2cef12", func := "loop.example/g01339/laws.FnExactSwapChance", spec := "fnExactSwapChance", inPlace := ["math.Float64frombits"], unfollowed := true, recurses := true, apart := false, narrowed := true }
def FnExactSwapChanceUptoSaid : Prop := fnExactSwapChanceUptoRow.holds Try.pinned (OpenSpec.upto fnExactSwapChanceSpec)

/-- 'laws.FnExactValidChain', WHERE WHAT IT READS IS OF BULK AT MOST 1048576: true; the input reads as it did. -/
def fnExactValidChainUptoRow : OpenClaim := { program := "ytddaodjaeommlaa", sum := "cd44249d0e6fcd0513e31e12aa720e00eec513d747f4eacff7c2b759ad2cef12", func := "loop.example/g01339/laws.FnExactValidChain", spec := "fnExactValidChain", unfollowed := true, recurses := true, apart := false, narrowed := true }
def FnExactValidChainUptoSaid : Prop := fnExactValidChainUptoRow.holds Try.pinned (OpenSpec.upto fnExactValidChainSpec)

/-- 'laws.FnExactRingChain', WHERE WHAT IT READS IS OF BULK AT MOST 1048576: true; the input reads as it did. -/
def fnExactRingChainUptoRow : OpenClaim := { program := "ytddaodjaeommlaa", sum := "cd44249d0e6fcd0513e31e12aa720e00eec513d747f4eacff7c2b759ad2cef12", func := "loop.example/g01339/laws.FnExactRingChain", spec := "fnExactRingChain", unfollowed := true, recurses := true, apart := false, narrowed := true }
def FnExactRingChainUptoSaid : Prop := fnExactRingChainUptoRow.holds Try.pinned (OpenSpec.upto fnExactRingChainSpec)

/-- 'laws.FnExactBalanceMiss', WHERE WHAT IT READS IS OF BULK AT MOST 1048576: true; the input reads as it did. -/
def fnExactBalanceMissUptoRow : OpenClaim := { program := "ytddaodjaeommlaa", sum := "cd44249d0e6fcd0513e31e12aa720e00eec513d747f4eacff7c2b759ad2cef12", func := "loop.example/g01339/laws.FnExactBalanceMiss", spec := "fnExactBalanceMiss", unfollowed := true, recurses := true, apart := false, narrowed := true }
def FnExactBalanceMissUptoSaid : Prop := fnExactBalanceMissUptoRow.holds Try.pinned (OpenSpec.upto fnExactBalanceMissSpec)

/-- 'laws.FnExactLazyChain', WHERE WHAT IT READS IS OF BULK AT MOST 1048576: true; the input reads as it did. -/
def fnExactLazyChainUptoRow : OpenClaim := { program := "ytddaodjaeommlaa", sum := "cd44249d0e6fcd0513e31e12aa720e00eec513d747f4eacff7c2b759ad2cef12", func := "loop.example/g01339/laws.FnExactLazyChain", spec := "fnExactLazyChain", unfollowed := true, recurses := true, apart := false, narrowed := true }
def FnExactLazyChainUptoSaid : Prop := fnExactLazyChainUptoRow.holds Try.pinned (OpenSpec.upto fnExactLazyChainSpec)

/-- 'laws.FnExactJoinChains', WHERE WHAT IT READS IS OF BULK AT MOST 1048576: true; the input reads as it did. -/
def fnExactJoinChainsUptoRow : OpenClaim := { program := "ytddaodjaeommlaa", sum := "cd44249d0e6fcd0513e31e12aa720e00eec513d747f4eacff7c2b759ad2cef12", func := "loop.example/g01339/laws.FnExactJoinChains", spec := "fnExactJoinChains", unfollowed := true, recurses := true, apart := false, narrowed := true }
def FnExactJoinChainsUptoSaid : Prop := fnExactJoinChainsUptoRow.holds Try.pinned (OpenSpec.upto fnExactJoinChainsSpec)

/-- 'laws.FnExactStepRow', WHERE WHAT IT READS IS OF BULK AT MOST 1048576: true; the input reads as it did. -/
def fnExactStepRowUptoRow : OpenClaim := { program := "ytddaodjaeommlaa", sum := "cd44249d0e6fcd0513e31e12aa720e00eec513d747f4eacff7c2b759ad2cef12", func := "loop.example/g01339/laws.FnExactStepRow", spec := "fnExactStepRow", unfollowed := true, recurses := true, apart := false, narrowed := true }
def FnExactStepRowUptoSaid : Prop := fnExactStepRowUptoRow.holds Try.pinned (OpenSpec.upto fnExactStepRowSpec)

/-- 'laws.FnExactBackChain', WHERE WHAT IT READS IS OF BULK AT MOST 1048576: true; the input reads as it did. -/
def fnExactBackChainUptoRow : OpenClaim := { program := "ytddaodjaeommlaa", sum := "cd44249d0e6fcd0513e31e12aa720e00eec513d747f4eacff7c2b759ad2cef12", func := "loop.example/g01339/laws.FnExactBackChain", spec := "fnExactBackChain", unfollowed := true, recurses := true, apart := false, narrowed := true }
def FnExactBackChainUptoSaid : Prop := fnExactBackChainUptoRow.holds Try.pinned (OpenSpec.upto fnExactBackChainSpec)

/-- 'laws.FnExactRunRow', WHERE WHAT IT READS IS OF BULK AT MOST 1048576: true; the input reads as it did. -/
def fnExactRunRowUptoRow : OpenClaim := { program := "ytddaodjaeommlaa", sum := "cd44249d0e6fcd0513e31e12aa720e00eec513d747f4eacff7c2b759ad2cef12", func := "loop.example/g01339/laws.FnExactRunRow", spec := "fnExactRunRow", unfollowed := true, recurses := true, apart := false, narrowed := true }
def FnExactRunRowUptoSaid : Prop := fnExactRunRowUptoRow.holds Try.pinned (OpenSpec.upto fnExactRunRowSpec)

/-- 'laws.FnExactGroupsOfChain', WHERE WHAT IT READS IS OF BULK AT MOST 1048576: true; the input reads as it did. -/
def fnExactGroupsOfChainUptoRow : OpenClaim := { program := "ytddaodjaeommlaa", sum := "cd44249d0e6fcd0513e31e12aa720e00eec513d747f4eacff7c2b759ad2cef12", func := "loop.example/g01339/laws.FnExactGroupsOfChain", spec := "fnExactGroupsOfChain", unfollowed := true, recurses := true, apart := false, narrowed := true }
def FnExactGroupsOfChainUptoSaid : Prop := fnExactGroupsOfChainUptoRow.holds Try.pinned (OpenSpec.upto fnExactGroupsOfChainSpec)

/-- 'laws.FnExactWeighChain', WHERE WHAT IT READS IS OF BULK AT MOST 1048576: true; the input reads as it did. -/
def fnExactWeighChainUptoRow : OpenClaim := { program := "ytddaodjaeommlaa", sum := "cd44249d0e6fcd0513e31e12aa720e00eec513d747f4eacff7c2b759ad2cef12", func := "loop.example/g01339/laws.FnExactWeighChain", spec := "fnExactWeighChain", unfollowed := true, recurses := true, apart := false, narrowed := true }
def FnExactWeighChainUptoSaid : Prop := fnExactWeighChainUptoRow.holds Try.pinned (OpenSpec.upto fnExactWeighChainSpec)

/-- 'laws.FnExactRestOf', WHERE WHAT IT READS IS OF BULK AT MOST 1048576: true; the input reads as it did. -/
def fnExactRestOfUptoRow : OpenClaim := { program := "ytddaodjaeommlaa", sum := "cd44249d0e6fcd0513e31e12aa720e00eec513d747f4eacff7c2b759ad2cef12", func := "loop.example/g01339/laws.FnExactRestOf", spec := "fnExactRestOf", unfollowed := true, recurses := true, apart := false, narrowed := true }
def FnExactRestOfUptoSaid : Prop := fnExactRestOfUptoRow.holds Try.pinned (OpenSpec.upto fnExactRestOfSpec)

/-- 'laws.FnExactWalkChain', WHERE WHAT IT READS IS OF BULK AT MOST 1048576: true; the input reads as it did. -/
def fnExactWalkChainUptoRow : OpenClaim := { program := "ytddaodjaeommlaa", sum := "cd44249d0e6fcd0513e31e12aa720e00eec513d747f4eacff7c2b759ad2cef12", func := "loop.example/g01339/laws.FnExactWalkChain", spec := "fnExactWalkChain", unfollowed := true, recurses := true, apart := false, narrowed := true }
def FnExactWalkChainUptoSaid : Prop := fnExactWalkChainUptoRow.holds Try.pinned (OpenSpec.upto fnExactWalkChainSpec)

/-- 'laws.FnExactMeetWalks', WHERE WHAT IT READS IS OF BULK AT MOST 1048576: true; the input reads as it did. -/
def fnExactMeetWalksUptoRow : OpenClaim := { program := "ytddaodjaeommlaa", sum := "cd44249d0e6fcd0513e31e12aa720e00eec513d747f4eacff7c2b759ad2cef12", func := "loop.example/g01339/laws.FnExactMeetWalks", spec := "fnExactMeetWalks", unfollowed := true, recurses := true, apart := false, narrowed := true }
def FnExactMeetWalksUptoSaid : Prop := fnExactMeetWalksUptoRow.holds Try.pinned (OpenSpec.upto fnExactMeetWalksSpec)

/-- 'laws.FnExactPastDraw', WHERE WHAT IT READS IS OF BULK AT MOST 1048576: true; the input reads as it did. -/
def fnExactPastDrawUptoRow : OpenClaim := { program := "ytddaodjaeommlaa", sum := "cd44249d0e6fcd0513e31e12aa720e00eec513d747f4eacff7c2b759ad2cef12", func := "loop.example/g01339/laws.FnExactPastDraw", spec := "fnExactPastDraw", unfollowed := true, recurses := true, apart := false, narrowed := true }
def FnExactPastDrawUptoSaid : Prop := fnExactPastDrawUptoRow.holds Try.pinned (OpenSpec.upto fnExactPastDrawSpec)

/-- 'laws.FnExactTimesTo', WHERE WHAT IT READS IS OF BULK AT MOST 1048576: true; the input reads as it did. -/
def fnExactTimesToUptoRow : OpenClaim := { program := "ytddaodjaeommlaa", sum := "cd44249d0e6fcd0513e31e12aa720e00eec513d747f4eacff7c2b759ad2cef12", func := "loop.example/g01339/laws.FnExactTimesTo", spec := "fnExactTimesTo", unfollowed := true, recurses := true, apart := false, narrowed := true }
def FnExactTimesToUptoSaid : Prop := fnExactTimesToUptoRow.holds Try.pinned (OpenSpec.upto fnExactTimesToSpec)

/-- 'laws.FnExactChancesTo', WHERE WHAT IT READS IS OF BULK AT MOST 1048576: true; the input reads as it did. -/
def fnExactChancesToUptoRow : OpenClaim := { program := "ytddaodjaeommlaa", sum := "cd44249d0e6fcd0513e31e12aa720e00eec513d747f4eacff7c2b759ad2cef12", func := "loop.example/g01339/laws.FnExactChancesTo", spec := "fnExactChancesTo", unfollowed := true, recurses := true, apart := false, narrowed := true }
def FnExactChancesToUptoSaid : Prop := fnExactChancesToUptoRow.holds Try.pinned (OpenSpec.upto fnExactChancesToSpec)

/-- 'laws.FnExactRareChance', WHERE WHAT IT READS IS OF BULK AT MOST 1048576: true; the input reads as it did. -/
def fnExactRareChanceUptoRow : OpenClaim := { program := "ytddaodjaeommlaa", sum := "cd44249d0e6fcd0513e31e12aa720e00eec513d747f4eacff7c2b759ad2cef12", func := "loop.example/g01339/laws.FnExactRareChance", spec := "fnExactRareChance", unfollowed := true, recurses := true, apart := false, narrowed := true }
def FnExactRareChanceUptoSaid : Prop := fnExactRareChanceUptoRow.holds Try.pinned (OpenSpec.upto fnExactRareChanceSpec)

end Rows
end Go.Proofs.Ytddaodjaeommlaa
