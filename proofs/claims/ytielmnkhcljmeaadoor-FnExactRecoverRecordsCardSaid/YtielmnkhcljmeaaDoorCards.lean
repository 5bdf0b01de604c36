/-
  DERIVED. GIVEN WITH THE SEED: THE CARDS: each row of YtielmnkhcljmeaaDoorRows.lean that lists a variable, with what it lists TIED to the program's text (the seventh form; the later family's looks); each row that meets fmt, with fmt's text TOLD by the authors' own Lean function (tested against real Go, not proved from fmt's source: count such statements apart). THE CARD IS WHAT COUNTS. Prove the row's statement (the work); the ties are given (YtielmnkhcljmeaaDoorTie.lean); close each card by the builder's one call (the guide's Derived/Test/ToyasCard.lean, 'card_holds'). Laid BY PROGRAM, IN A SANDBOX (cutbox-door.mjs). By AI agents, Wed Nov 11 2026. No macro, syntax, notation, axiom, sorry.
-/
import Derived.Test.YtielmnkhcljmeaaDoorRows
import GoSem.ClaimSeven
namespace Go.Proofs.YtielmnkhcljmeaaDoor
namespace Rows

/-- THE TIED CARD OF 'laws.FnExactValidRecord'. -/
def fnExactValidRecordCard : Claim7 := { stood := { row := fnExactValidRecordRow, standIns := [], harness := (true, "be79712084d56054debae670ab95c1ba41e85b82581e17572783014f77c3dd1e"), looks := false }, kinds := [], alts := [], laidByText := true, laidKinds := [.data, .pinned], laidTests := true, laidLooks := .later }
def FnExactValidRecordCardSaid : Prop := Claim7.holds Tryd.pinned (.plain (OpenSpec.ofChange fnExactValidRecordSpec)) fnExactValidRecordCard

/-- THE TIED CARD OF 'laws.FnExactStoreRecord'. -/
def fnExactStoreRecordCard : Claim7 := { stood := { row := fnExactStoreRecordRow, standIns := [], harness := (true, "be79712084d56054debae670ab95c1ba41e85b82581e17572783014f77c3dd1e"), looks := false }, kinds := [], alts := [], laidByText := true, laidKinds := [.data, .pinned], laidTests := true, laidLooks := .later }
def FnExactStoreRecordCardSaid : Prop := Claim7.holds Tryd.pinned (.plain (OpenSpec.ofChange fnExactStoreRecordSpec)) fnExactStoreRecordCard

/-- THE TIED CARD OF 'laws.FnExactStoreRecords'. -/
def fnExactStoreRecordsCard : Claim7 := { stood := { row := fnExactStoreRecordsRow, standIns := [], harness := (true, "be79712084d56054debae670ab95c1ba41e85b82581e17572783014f77c3dd1e"), looks := false }, kinds := [], alts := [], laidByText := true, laidKinds := [.data, .pinned], laidTests := true, laidLooks := .later }
def FnExactStoreRecordsCardSaid : Prop := Claim7.holds Tryd.pinned (.plain (OpenSpec.ofChange fnExactStoreRecordsSpec)) fnExactStoreRecordsCard

/-- THE TIED CARD OF 'laws.FnExactLoadRecord'. -/
def fnExactLoadRecordCard : Claim7 := { stood := { row := fnExactLoadRecordRow, standIns := [], harness := (true, "be79712084d56054debae670ab95c1ba41e85b82581e17572783014f77c3dd1e"), looks := false }, kinds := [], alts := [], laidByText := true, laidKinds := [.data, .pinned], laidTests := true, laidLooks := .later }
def FnExactLoadRecordCardSaid : Prop := Claim7.holds Tryd.pinned (.plain (OpenSpec.ofChange fnExactLoadRecordSpec)) fnExactLoadRecordCard

/-- THE TIED CARD OF 'laws.FnExactRecoverRecords'. -/
def fnExactRecoverRecordsCard : Claim7 := { stood := { row := fnExactRecoverRecordsRow, standIns := [], harness := (true, "be79712084d56054debae670ab95c1ba41e85b82581e17572783014f77c3dd1e"), looks := false }, kinds := [], alts := [], laidByText := true, laidKinds := [.data, .pinned], laidTests := true, laidLooks := .later }
def FnExactRecoverRecordsCardSaid : Prop := Claim7.holds Tryd.pinned (.plain (OpenSpec.ofChange fnExactRecoverRecordsSpec)) fnExactRecoverRecordsCard

/-- THE SECOND FORM's CARD OF 'laws.FnExactValidRecord'. -/
def fnExactValidRecordUptoCard : Claim7 := { stood := { row := fnExactValidRecordUptoRow, standIns := [], harness := (true, "be79712084d56054debae670ab95c1ba41e85b82581e17572783014f77c3dd1e"), looks := false }, kinds := [], alts := [], laidByText := true, laidKinds := [.data, .pinned], laidTests := true, laidLooks := .later }
def FnExactValidRecordUptoCardSaid : Prop := Claim7.holds Tryd.pinned (.plain (OpenSpec.upto fnExactValidRecordSpec)) fnExactValidRecordUptoCard

/-- THE SECOND FORM's CARD OF 'laws.FnExactStoreRecord'. -/
def fnExactStoreRecordUptoCard : Claim7 := { stood := { row := fnExactStoreRecordUptoRow, standIns := [], harness := (true, "be79712084d56054debae670ab95c1ba41e85b82581e17572783014f77c3dd1e"), looks := false }, kinds := [], alts := [], laidByText := true, laidKinds := [.data, .pinned], laidTests := true, laidLooks := .later }
def FnExactStoreRecordUptoCardSaid : Prop := Claim7.holds Tryd.pinned (.plain (OpenSpec.upto fnExactStoreRecordSpec)) fnExactStoreRecordUptoCard

/-- THE SECOND FORM's CARD OF 'laws.FnExactStoreRecords'. -/
def fnExactStoreRecordsUptoCard : Claim7 := { stood := { row := fnExactStoreRecordsUptoRow, standIns := [], harness := (true, "be79712084d56054debae670ab95c1ba41e85b82581e17572783014f77c3dd1e"), looks := false }, kinds := [], alts := [], laidByText := true, laidKinds := [.data, .pinned], laidTests := true, laidLooks := .later }
def FnExactStoreRecordsUptoCardSaid : Prop := Claim7.holds Tryd.pinned (.plain (OpenSpec.upto fnExactStoreRecordsSpec)) fnExactStoreRecordsUptoCard

/-- THE SECOND FORM's CARD OF 'laws.FnExactLoadRecord'. -/
def fnExactLoadRecordUptoCard : Claim7 := { stood := { row := fnExactLoadRecordUptoRow, standIns := [], harness := (true, "be79712084d56054debae670ab95c1ba41e85b82581e17572783014f77c3dd1e"), looks := false }, kinds := [], alts := [], laidByText := true, laidKinds := [.data, .pinned], laidTests := true, laidLooks := .later }
def FnExactLoadRecordUptoCardSaid : Prop := Claim7.holds Tryd.pinned (.plain (OpenSpec.upto fnExactLoadRecordSpec)) fnExactLoadRecordUptoCard

/-- THE SECOND FORM's CARD OF 'laws.FnExactRecoverRecords'. -/
def fnExactRecoverRecordsUptoCard : Claim7 := { stood := { row := fnExactRecoverRecordsUptoRow, standIns := [], harness := (true, "be79712084d56054debae670ab95c1ba41e85b82581e17572783014f77c3dd1e"), looks := false }, kinds := [], alts := [], laidByText := true, laidKinds := [.data, .pinned], laidTests := true, laidLooks := .later }
def FnExactRecoverRecordsUptoCardSaid : Prop := Claim7.holds Tryd.pinned (.plain (OpenSpec.upto fnExactRecoverRecordsSpec)) fnExactRecoverRecordsUptoCard
end Rows
end Go.Proofs.YtielmnkhcljmeaaDoor
