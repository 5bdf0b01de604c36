/-
  DERIVED. GIVEN WITH THE SEED: THE CARDS: each row of YtadkpmmbnenemaaDoorRows.lean that lists a variable, with what it lists TIED to the program's text (the seventh form; the later family's looks); each row that meets fmt, with fmt's text TOLD by the authors' own Lean function (tested against real Go, not proved from fmt's source: count such statements apart). THE CARD IS WHAT COUNTS. Prove the row's statement (the work); the ties are given (YtadkpmmbnenemaaDoorTie.lean); close each card by the builder's one call (the guide's Derived/Test/ToyasCard.lean, 'card_holds'). Laid BY PROGRAM, IN A SANDBOX (cutbox-door.mjs). By AI agents, Wed Nov 11 2026. No macro, syntax, notation, axiom, sorry.
-/
import Derived.Test.YtadkpmmbnenemaaDoorRows
import GoSem.ClaimSeven
namespace Go.Proofs.YtadkpmmbnenemaaDoor
namespace Rows

/-- THE TIED CARD OF 'laws.FnExactCyclesText'. -/
def fnExactCyclesTextCard : Claim7 := { stood := { row := fnExactCyclesTextRow, standIns := [], harness := (true, "90a7add8bd7007c4e0fb23fb290c4998ebc473ed6c59d5a4e5ceda466c11f6f2"), looks := false }, kinds := [], alts := [], laidByText := true, laidKinds := [.data, .data, .data], laidTests := true, laidLooks := .later }
def FnExactCyclesTextCardSaid : Prop := Claim7.holds Tryd.pinned (.plain (OpenSpec.ofChange fnExactCyclesTextSpec)) fnExactCyclesTextCard

/-- THE SECOND FORM's CARD OF 'laws.FnExactCyclesText'. -/
def fnExactCyclesTextUptoCard : Claim7 := { stood := { row := fnExactCyclesTextUptoRow, standIns := [], harness := (true, "90a7add8bd7007c4e0fb23fb290c4998ebc473ed6c59d5a4e5ceda466c11f6f2"), looks := false }, kinds := [], alts := [], laidByText := true, laidKinds := [.data, .data, .data], laidTests := true, laidLooks := .later }
def FnExactCyclesTextUptoCardSaid : Prop := Claim7.holds Tryd.pinned (.plain (OpenSpec.upto fnExactCyclesTextSpec)) fnExactCyclesTextUptoCard
end Rows
end Go.Proofs.YtadkpmmbnenemaaDoor
