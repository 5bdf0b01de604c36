/-
  DERIVED. GIVEN WITH THE SEED: THE CARDS: each row of YtadkpmmbnenemaaGreatDoorRows.lean that lists a variable, with what it lists TIED to the program's text (the seventh form; the later family's looks); each row that meets fmt, with fmt's text TOLD by the authors' own Lean function (tested against real Go, not proved from fmt's source: count such statements apart). THE CARD IS WHAT COUNTS. Prove the row's statement (the work); the ties are given (YtadkpmmbnenemaaGreatDoorTie.lean); close each card by the builder's one call (the guide's Derived/Test/ToyasCard.lean, 'card_holds'). Laid BY PROGRAM, IN A SANDBOX (cutbox-door.mjs). By AI agents, Wed Nov 11 2026. No macro, syntax, notation, axiom, sorry.
-/
import Derived.Test.YtadkpmmbnenemaaGreatDoorRows
import GoSem.ClaimSeven
namespace Go.Proofs.YtadkpmmbnenemaaGreatDoor
namespace Rows

/-- THE TIED CARD OF 'laws.FnExactReadCycles'. -/
def fnExactReadCyclesCard : Claim7 := { stood := { row := fnExactReadCyclesRow, standIns := [], harness := (true, "908746288bae5b1b95eedc91bfab9f7b0bb7d07d85432dee93e52ad73335ff6e"), looks := true }, kinds := [], alts := [], laidByText := true, laidKinds := [.data, .data, .data, .data, .sentinel, .sentinel, .pinned], laidTests := true, laidLooks := .later }
def FnExactReadCyclesCardSaid : Prop := Claim7.holds Tryz.pinned (.plain (OpenSpec.ofChange fnExactReadCyclesSpec)) fnExactReadCyclesCard

/-- THE SECOND FORM's CARD OF 'laws.FnExactReadCycles'. -/
def fnExactReadCyclesUptoCard : Claim7 := { stood := { row := fnExactReadCyclesUptoRow, standIns := [], harness := (true, "908746288bae5b1b95eedc91bfab9f7b0bb7d07d85432dee93e52ad73335ff6e"), looks := true }, kinds := [], alts := [], laidByText := true, laidKinds := [.data, .data, .data, .data, .sentinel, .sentinel, .pinned], laidTests := true, laidLooks := .later }
def FnExactReadCyclesUptoCardSaid : Prop := Claim7.holds Tryz.pinned (.plain (OpenSpec.upto fnExactReadCyclesSpec)) fnExactReadCyclesUptoCard
end Rows
end Go.Proofs.YtadkpmmbnenemaaGreatDoor
