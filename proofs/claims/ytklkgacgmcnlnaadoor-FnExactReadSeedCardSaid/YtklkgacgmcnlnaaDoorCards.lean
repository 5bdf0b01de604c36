/-
  DERIVED. GIVEN WITH THE SEED: THE CARDS: each row of YtklkgacgmcnlnaaDoorRows.lean that lists a variable, with what it lists TIED to the program's text (the seventh form; the later family's looks); each row that meets fmt, with fmt's text TOLD by the authors' own Lean function (tested against real Go, not proved from fmt's source: count such statements apart). THE CARD IS WHAT COUNTS. Prove the row's statement (the work); the ties are given (YtklkgacgmcnlnaaDoorTie.lean); close each card by the builder's one call (the guide's Derived/Test/ToyasCard.lean, 'card_holds'). Laid BY PROGRAM, IN A SANDBOX (cutbox-door.mjs). By AI agents, Wed Nov 11 2026. No macro, syntax, notation, axiom, sorry.
-/
import Derived.Test.YtklkgacgmcnlnaaDoorRows
import GoSem.ClaimSeven
namespace Go.Proofs.YtklkgacgmcnlnaaDoor
namespace Rows

/-- THE TIED CARD OF 'laws.FnExactSeedText'. -/
def fnExactSeedTextCard : Claim7 := { stood := { row := fnExactSeedTextRow, standIns := [], harness := (true, "a4a50681808862a7beed52045ac324b7d4d4efb5ca10f78be118e68f7af30370"), looks := true }, kinds := [], alts := [], laidByText := true, laidKinds := [.data, .data, .data], laidTests := true, laidLooks := .later }
def FnExactSeedTextCardSaid : Prop := Claim7.holds Tryd.pinned (.plain (OpenSpec.ofChange fnExactSeedTextSpec)) fnExactSeedTextCard

/-- THE TIED CARD OF 'laws.FnExactTableText'. -/
def fnExactTableTextCard : Claim7 := { stood := { row := fnExactTableTextRow, standIns := [], harness := (true, "a4a50681808862a7beed52045ac324b7d4d4efb5ca10f78be118e68f7af30370"), looks := true }, kinds := [], alts := [], laidByText := true, laidKinds := [.data, .data, .data], laidTests := true, laidLooks := .later }
def FnExactTableTextCardSaid : Prop := Claim7.holds Tryd.pinned (.plain (OpenSpec.ofChange fnExactTableTextSpec)) fnExactTableTextCard

/-- THE TIED CARD OF 'laws.FnExactCyclesText'. -/
def fnExactCyclesTextCard : Claim7 := { stood := { row := fnExactCyclesTextRow, standIns := [], harness := (true, "a4a50681808862a7beed52045ac324b7d4d4efb5ca10f78be118e68f7af30370"), looks := true }, kinds := [], alts := [], laidByText := true, laidKinds := [.data, .data, .data], laidTests := true, laidLooks := .later }
def FnExactCyclesTextCardSaid : Prop := Claim7.holds Tryd.pinned (.plain (OpenSpec.ofChange fnExactCyclesTextSpec)) fnExactCyclesTextCard

/-- THE TIED CARD OF 'laws.FnExactReadTable'. -/
def fnExactReadTableCard : Claim7 := { stood := { row := fnExactReadTableRow, standIns := [], harness := (true, "a4a50681808862a7beed52045ac324b7d4d4efb5ca10f78be118e68f7af30370"), looks := true }, kinds := [], alts := [], laidByText := true, laidKinds := [.data, .data, .data, .data, .sentinel, .sentinel, .pinned], laidTests := true, laidLooks := .later }
def FnExactReadTableCardSaid : Prop := Claim7.holds Tryd.pinned (.plain (OpenSpec.ofChange fnExactReadTableSpec)) fnExactReadTableCard

/-- THE TIED CARD OF 'laws.FnExactReadSeed'. -/
def fnExactReadSeedCard : Claim7 := { stood := { row := fnExactReadSeedRow, standIns := [], harness := (true, "a4a50681808862a7beed52045ac324b7d4d4efb5ca10f78be118e68f7af30370"), looks := true }, kinds := [], alts := [], laidByText := true, laidKinds := [.data, .data, .data, .data, .sentinel, .sentinel, .pinned], laidTests := true, laidLooks := .later }
def FnExactReadSeedCardSaid : Prop := Claim7.holds Tryd.pinned (.plain (OpenSpec.ofChange fnExactReadSeedSpec)) fnExactReadSeedCard

/-- THE SECOND FORM's CARD OF 'laws.FnExactSeedText'. -/
def fnExactSeedTextUptoCard : Claim7 := { stood := { row := fnExactSeedTextUptoRow, standIns := [], harness := (true, "a4a50681808862a7beed52045ac324b7d4d4efb5ca10f78be118e68f7af30370"), looks := true }, kinds := [], alts := [], laidByText := true, laidKinds := [.data, .data, .data], laidTests := true, laidLooks := .later }
def FnExactSeedTextUptoCardSaid : Prop := Claim7.holds Tryd.pinned (.plain (OpenSpec.upto fnExactSeedTextSpec)) fnExactSeedTextUptoCard

/-- THE SECOND FORM's CARD OF 'laws.FnExactTableText'. -/
def fnExactTableTextUptoCard : Claim7 := { stood := { row := fnExactTableTextUptoRow, standIns := [], harness := (true, "a4a50681808862a7beed52045ac324b7d4d4efb5ca10f78be118e68f7af30370"), looks := true }, kinds := [], alts := [], laidByText := true, laidKinds := [.data, .data, .data], laidTests := true, laidLooks := .later }
def FnExactTableTextUptoCardSaid : Prop := Claim7.holds Tryd.pinned (.plain (OpenSpec.upto fnExactTableTextSpec)) fnExactTableTextUptoCard

/-- THE SECOND FORM's CARD OF 'laws.FnExactCyclesText'. -/
def fnExactCyclesTextUptoCard : Claim7 := { stood := { row := fnExactCyclesTextUptoRow, standIns := [], harness := (true, "a4a50681808862a7beed52045ac324b7d4d4efb5ca10f78be118e68f7af30370"), looks := true }, kinds := [], alts := [], laidByText := true, laidKinds := [.data, .data, .data], laidTests := true, laidLooks := .later }
def FnExactCyclesTextUptoCardSaid : Prop := Claim7.holds Tryd.pinned (.plain (OpenSpec.upto fnExactCyclesTextSpec)) fnExactCyclesTextUptoCard

/-- THE SECOND FORM's CARD OF 'laws.FnExactReadTable'. -/
def fnExactReadTableUptoCard : Claim7 := { stood := { row := fnExactReadTableUptoRow, standIns := [], harness := (true, "a4a50681808862a7beed52045ac324b7d4d4efb5ca10f78be118e68f7af30370"), looks := true }, kinds := [], alts := [], laidByText := true, laidKinds := [.data, .data, .data, .data, .sentinel, .sentinel, .pinned], laidTests := true, laidLooks := .later }
def FnExactReadTableUptoCardSaid : Prop := Claim7.holds Tryd.pinned (.plain (OpenSpec.upto fnExactReadTableSpec)) fnExactReadTableUptoCard

/-- THE SECOND FORM's CARD OF 'laws.FnExactReadSeed'. -/
def fnExactReadSeedUptoCard : Claim7 := { stood := { row := fnExactReadSeedUptoRow, standIns := [], harness := (true, "a4a50681808862a7beed52045ac324b7d4d4efb5ca10f78be118e68f7af30370"), looks := true }, kinds := [], alts := [], laidByText := true, laidKinds := [.data, .data, .data, .data, .sentinel, .sentinel, .pinned], laidTests := true, laidLooks := .later }
def FnExactReadSeedUptoCardSaid : Prop := Claim7.holds Tryd.pinned (.plain (OpenSpec.upto fnExactReadSeedSpec)) fnExactReadSeedUptoCard
end Rows
end Go.Proofs.YtklkgacgmcnlnaaDoor
