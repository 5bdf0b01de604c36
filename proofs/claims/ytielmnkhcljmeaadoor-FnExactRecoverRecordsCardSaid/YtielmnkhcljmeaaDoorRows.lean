/-
  NARROWER THAN 'FOR EVERY INPUT', by the rows' own cells (each row's printed sentence says how): FnExactValidRecord: laid · FnExactStoreRecord: laid · FnExactStoreRecords: laid · FnExactLoadRecord: laid · FnExactRecoverRecords: laid.
  DERIVED. THE GIVEN ROWS OF THIS SEAT. 5 by the template 'for every input the law returns true; each argument reads behind the call as it read before'; 0 by the template 'total and deterministic' (their statements: YtielmnkhcljmeaaDoorTotals.lean).
  GIVEN WITH THE SEED: the statements are not yours to turn. If you find one false, say at which input.
  Laid BY PROGRAM, IN A SANDBOX (cutbox-rows.mjs): the forced cells as the released guide's own fill.sh prints them over the translation 4a90f16617e7ba35… (all of the seat's roots in one cut). By AI agents, Wed Nov 11 2026. No macro, syntax, notation, axiom, sorry.
-/
import Derived.Test.YtielmnkhcljmeaaDoorChecked
import GoSem.PinnedTables
import GoSem.Claim
import GoSem.ClaimJoined
import GoSem.ClaimMapViews
import Derived.JoinedTies
import Derived.KernelRfl
namespace Go.Proofs.YtielmnkhcljmeaaDoor
/- THE CELL 'sum', in the pinned program and in every row, IS THE sha256 OF THE DUMP (.gsa) THAT YtielmnkhcljmeaaDoorProg.lean LOADS. Nothing in Lean hashes anything: it is a label: what it is worth is what the hold of that sum in a sandbox is worth. -/
noncomputable def Tryd.pinned : Pinned := { name := "ytielmnkhcljmeaadoor", sum := "4a90f16617e7ba359df1874286e44f4b06b2ea882c10ecdc43a76c147d882b79", checked := Tryd.checked }
namespace Rows
def none {H : Type} : Left H := { results := [], args := [] }

/- WHAT THE LISTED PACKAGE-LEVEL VARIABLES READ AS WHEN THE CALL BEGINS. Each datum BY PROGRAM (the guide's laid-datum.mjs) off the statement by which the dump's own 'gosem.cut.vars' lays the variable. In a bare row this is a premise. The card (YtielmnkhcljmeaaDoorCards.lean) ties it to the program's text. -/
def laid_unicode_utf8_acceptRanges {H : Type} : DataW H := .agg [.agg [.lit (.int .u8 128), .lit (.int .u8 191)], .agg [.lit (.int .u8 160), .lit (.int .u8 191)], .agg [.lit (.int .u8 128), .lit (.int .u8 159)], .agg [.lit (.int .u8 144), .lit (.int .u8 191)], .agg [.lit (.int .u8 128), .lit (.int .u8 143)], .agg [.lit (.int .u8 0), .lit (.int .u8 0)], .agg [.lit (.int .u8 0), .lit (.int .u8 0)], .agg [.lit (.int .u8 0), .lit (.int .u8 0)], .agg [.lit (.int .u8 0), .lit (.int .u8 0)], .agg [.lit (.int .u8 0), .lit (.int .u8 0)], .agg [.lit (.int .u8 0), .lit (.int .u8 0)], .agg [.lit (.int .u8 0), .lit (.int .u8 0)], .agg [.lit (.int .u8 0), .lit (.int .u8 0)], .agg [.lit (.int .u8 0), .lit (.int .u8 0)], .agg [.lit (.int .u8 0), .lit (.int .u8 0)], .agg [.lit (.int .u8 0), .lit (.int .u8 0)]]
/-- One of Go's own tables, pinned by name: the form's constant. -/
def laid_unicode_utf8_first : DataW Unit := Go.Pinned.utf8First

/-- 'laws.FnExactValidRecord': WHATEVER THE INPUT: true; the input reads as it did. -/
def fnExactValidRecordSpec : ChangeSpec := { name := "fnExactValidRecord", fn := fun _ => fun
  | [d] => { results := [.lit (.bool true)], args := [d] }
  | _ => none }
def fnExactValidRecordRow : OpenClaim := { program := "ytielmnkhcljmeaadoor", sum := "4a90f16617e7ba359df1874286e44f4b06b2ea882c10ecdc43a76c147d882b79", func := "loop.example/g01339/laws.FnExactValidRecord", spec := "fnExactValidRecord", inPlace := ["internal/bytealg.IndexByteString", "internal/bytealg.IndexString"], unfollowed := true, recurses := true, named := ["unicode/utf8.first", "unicode/utf8.acceptRanges", "internal/bytealg.MaxLen"], apart := false, laid := [("unicode/utf8.acceptRanges", laid_unicode_utf8_acceptRanges), ("unicode/utf8.first", laid_unicode_utf8_first)] }
def FnExactValidRecordSaid : Prop := fnExactValidRecordRow.holds Tryd.pinned (OpenSpec.ofChange fnExactValidRecordSpec)

/-- ITS FALSE NEIGHBOUR: 'it returns false'. Refute it at one input. -/
def fnExactValidRecordWrong : ChangeSpec := { name := "fnExactValidRecord", fn := fun _ => fun
  | [d] => { results := [.lit (.bool false)], args := [d] }
  | _ => none }
def FnExactValidRecordWrongFalsely : Prop := fnExactValidRecordRow.holds Tryd.pinned (OpenSpec.ofChange fnExactValidRecordWrong)

/-- 'laws.FnExactStoreRecord': WHATEVER THE INPUT: true; the input reads as it did. -/
def fnExactStoreRecordSpec : ChangeSpec := { name := "fnExactStoreRecord", fn := fun _ => fun
  | [d] => { results := [.lit (.bool true)], args := [d] }
  | _ => none }
def fnExactStoreRecordRow : OpenClaim := { program := "ytielmnkhcljmeaadoor", sum := "4a90f16617e7ba359df1874286e44f4b06b2ea882c10ecdc43a76c147d882b79", func := "loop.example/g01339/laws.FnExactStoreRecord", spec := "fnExactStoreRecord", inPlace := ["internal/bytealg.IndexByteString", "internal/bytealg.IndexString"], unfollowed := true, recurses := true, named := ["unicode/utf8.first", "unicode/utf8.acceptRanges", "internal/bytealg.MaxLen"], apart := false, laid := [("unicode/utf8.acceptRanges", laid_unicode_utf8_acceptRanges), ("unicode/utf8.first", laid_unicode_utf8_first)] }
def FnExactStoreRecordSaid : Prop := fnExactStoreRecordRow.holds Tryd.pinned (OpenSpec.ofChange fnExactStoreRecordSpec)

/-- ITS FALSE NEIGHBOUR: 'it returns false'. Refute it at one input. -/
def fnExactStoreRecordWrong : ChangeSpec := { name := "fnExactStoreRecord", fn := fun _ => fun
  | [d] => { results := [.lit (.bool false)], args := [d] }
  | _ => none }
def FnExactStoreRecordWrongFalsely : Prop := fnExactStoreRecordRow.holds Tryd.pinned (OpenSpec.ofChange fnExactStoreRecordWrong)

/-- 'laws.FnExactStoreRecords': WHATEVER THE INPUT: true; the input reads as it did. -/
def fnExactStoreRecordsSpec : ChangeSpec := { name := "fnExactStoreRecords", fn := fun _ => fun
  | [d] => { results := [.lit (.bool true)], args := [d] }
  | _ => none }
def fnExactStoreRecordsRow : OpenClaim := { program := "ytielmnkhcljmeaadoor", sum := "4a90f16617e7ba359df1874286e44f4b06b2ea882c10ecdc43a76c147d882b79", func := "loop.example/g01339/laws.FnExactStoreRecords", spec := "fnExactStoreRecords", inPlace := ["internal/bytealg.IndexByteString", "internal/bytealg.IndexString"], unfollowed := true, recurses := true, named := ["unicode/utf8.first", "unicode/utf8.acceptRanges", "internal/bytealg.MaxLen"], apart := false, laid := [("unicode/utf8.acceptRanges", laid_unicode_utf8_acceptRanges), ("unicode/utf8.first", laid_unicode_utf8_first)] }
def FnExactStoreRecordsSaid : Prop := fnExactStoreRecordsRow.holds Tryd.pinned (OpenSpec.ofChange fnExactStoreRecordsSpec)

/-- ITS FALSE NEIGHBOUR: 'it returns false'. Refute it at one input. -/
def fnExactStoreRecordsWrong : ChangeSpec := { name := "fnExactStoreRecords", fn := fun _ => fun
  | [d] => { results := [.lit (.bool false)], args := [d] }
  | _ => none }
def FnExactStoreRecordsWrongFalsely : Prop := fnExactStoreRecordsRow.holds Tryd.pinned (OpenSpec.ofChange fnExactStoreRecordsWrong)

/-- 'laws.FnExactLoadRecord': WHATEVER THE INPUT: true; the input reads as it did. -/
def fnExactLoadRecordSpec : ChangeSpec := { name := "fnExactLoadRecord", fn := fun _ => fun
  | [d] => { results := [.lit (.bool true)], args := [d] }
  | _ => none }
def fnExactLoadRecordRow : OpenClaim := { program := "ytielmnkhcljmeaadoor", sum := "4a90f16617e7ba359df1874286e44f4b06b2ea882c10ecdc43a76c147d882b79", func := "loop.example/g01339/laws.FnExactLoadRecord", spec := "fnExactLoadRecord", inPlace := ["internal/bytealg.IndexByteString", "internal/bytealg.IndexString"], unfollowed := true, recurses := true, named := ["unicode/utf8.first", "unicode/utf8.acceptRanges", "internal/bytealg.MaxLen"], apart := false, laid := [("unicode/utf8.acceptRanges", laid_unicode_utf8_acceptRanges), ("unicode/utf8.first", laid_unicode_utf8_first)] }
def FnExactLoadRecordSaid : Prop := fnExactLoadRecordRow.holds Tryd.pinned (OpenSpec.ofChange fnExactLoadRecordSpec)

/-- ITS FALSE NEIGHBOUR: 'it returns false'. Refute it at one input. -/
def fnExactLoadRecordWrong : ChangeSpec := { name := "fnExactLoadRecord", fn := fun _ => fun
  | [d] => { results := [.lit (.bool false)], args := [d] }
  | _ => none }
def FnExactLoadRecordWrongFalsely : Prop := fnExactLoadRecordRow.holds Tryd.pinned (OpenSpec.ofChange fnExactLoadRecordWrong)

/-- 'laws.FnExactRecoverRecords': WHATEVER THE INPUT: true; the input reads as it did. -/
def fnExactRecoverRecordsSpec : ChangeSpec := { name := "fnExactRecoverRecords", fn := fun _ => fun
  | [d] => { results := [.lit (.bool true)], args := [d] }
  | _ => none }
def fnExactRecoverRecordsRow : OpenClaim := { program := "ytielmnkhcljmeaadoor", sum := "4a90f16617e7ba359df1874286e44f4b06b2ea882c10ecdc43a76c147d882b79", func := "loop.example/g01339/laws.FnExactRecoverRecords", spec := "fnExactRecoverRecords", inPlace := ["internal/bytealg.IndexByteString", "internal/bytealg.IndexString"], unfollowed := true, recurses := true, named := ["unicode/utf8.first", "unicode/utf8.acceptRanges", "internal/bytealg.MaxLen"], apart := false, laid := [("unicode/utf8.acceptRanges", laid_unicode_utf8_acceptRanges), ("unicode/utf8.first", laid_unicode_utf8_first)] }
def FnExactRecoverRecordsSaid : Prop := fnExactRecoverRecordsRow.holds Tryd.pinned (OpenSpec.ofChange fnExactRecoverRecordsSpec)

/-- ITS FALSE NEIGHBOUR: 'it returns false'. Refute it at one input. -/
def fnExactRecoverRecordsWrong : ChangeSpec := { name := "fnExactRecoverRecords", fn := fun _ => fun
  | [d] => { results := [.lit (.bool false)], args := [d] }
  | _ => none }
def FnExactRecoverRecordsWrongFalsely : Prop := fnExactRecoverRecordsRow.holds Tryd.pinned (OpenSpec.ofChange fnExactRecoverRecordsWrong)

/- THE SECOND FORM. 'bulk': how many values and letters a reading holds, each counted each time it is reached (what is shared counts as often as it is met; a slice's spare places count too). A statement '..UptoSaid' is the law's where the arguments, and the package variables that the reading takes, are together of bulk at most 1048576: NARROWER than '..Said'. Prove '..Said' where nothing that the law and all that it calls make is longer than what came in: it says more and counts as full. Else prove '..UptoSaid'. A law counts once. -/
mutual
def uptoBulk {H : Type} : DataW H → Nat
  | .lit (.string bytes) => bytes.length + 1
  | .lit _ => 1
  | .nil => 1
  | .ptr d => uptoBulk d + 1
  | .slice elems spare => uptoBulkAll elems + uptoBulkAll spare + 1
  | .agg parts => uptoBulkAll parts + 1
  | .iface _ d => uptoBulk d + 1
  | .map entries => uptoBulkEntries entries + 1
  | .held _ => 1
def uptoBulkAll {H : Type} : List (DataW H) → Nat
  | [] => 0
  | d :: r => uptoBulk d + uptoBulkAll r
def uptoBulkEntries {H : Type} : List (Lit × DataW H) → Nat
  | [] => 0
  | x :: r => uptoBulkEntry x + uptoBulkEntries r
def uptoBulkEntry {H : Type} : Lit × DataW H → Nat
  | (.string bytes, d) => bytes.length + uptoBulk d + 1
  | (_, d) => uptoBulk d + 1
 end
def uptoSmall : (H : Type) → List (DataW H) → Bool := fun _ ds => decide (uptoBulkAll ds ≤ 1048576)
def OpenSpec.upto (s : _root_.Go.ChangeSpec) : _root_.Go.OpenSpec := { _root_.Go.OpenSpec.ofChange s with cond := some uptoSmall }

/-- 'laws.FnExactValidRecord', WHERE WHAT IT READS IS OF BULK AT MOST 1048576: true; the input reads as it did. -/
def fnExactValidRecordUptoRow : OpenClaim := { program := "ytielmnkhcljmeaadoor", sum := "4a90f16617e7ba359df1874286e44f4b06b2ea882c10ecdc43a76c147d882b79", func := "loop.example/g01339/laws.FnExactValidRecord", spec := "fnExactValidRecord", inPlace := ["internal/bytealg.IndexByteString", "internal/bytealg.IndexString"], unfollowed := true, recurses := true, named := ["unicode/utf8.first", "unicode/utf8.acceptRanges", "internal/bytealg.MaxLen"], apart := false, laid := [("unicode/utf8.acceptRanges", laid_unicode_utf8_acceptRanges), ("unicode/utf8.first", laid_unicode_utf8_first)], narrowed := true }
def FnExactValidRecordUptoSaid : Prop := fnExactValidRecordUptoRow.holds Tryd.pinned (OpenSpec.upto fnExactValidRecordSpec)

/-- 'laws.FnExactStoreRecord', WHERE WHAT IT READS IS OF BULK AT MOST 1048576: true; the input reads as it did. -/
def fnExactStoreRecordUptoRow : OpenClaim := { program := "ytielmnkhcljmeaadoor", sum := "4a90f16617e7ba359df1874286e44f4b06b2ea882c10ecdc43a76c147d882b79", func := "loop.example/g01339/laws.FnExactStoreRecord", spec := "fnExactStoreRecord", inPlace := ["internal/bytealg.IndexByteString", "internal/bytealg.IndexString"], unfollowed := true, recurses := true, named := ["unicode/utf8.first", "unicode/utf8.acceptRanges", "internal/bytealg.MaxLen"], apart := false, laid := [("unicode/utf8.acceptRanges", laid_unicode_utf8_acceptRanges), ("unicode/utf8.first", laid_unicode_utf8_first)], narrowed := true }
def FnExactStoreRecordUptoSaid : Prop := fnExactStoreRecordUptoRow.holds Tryd.pinned (OpenSpec.upto fnExactStoreRecordSpec)

/-- 'laws.FnExactStoreRecords', WHERE WHAT IT READS IS OF BULK AT MOST 1048576: true; the input reads as it did. -/
def fnExactStoreRecordsUptoRow : OpenClaim := { program := "ytielmnkhcljmeaadoor", sum := "4a90f16617e7ba359df1874286e44f4b06b2ea882c10ecdc43a76c147d882b79", func := "loop.example/g01339/laws.FnExactStoreRecords", spec := "fnExactStoreRecords", inPlace := ["internal/bytealg.IndexByteString", "internal/bytealg.IndexString"], unfollowed := true, recurses := true, named := ["unicode/utf8.first", "unicode/utf8.acceptRanges", "internal/bytealg.MaxLen"], apart := false, laid := [("unicode/utf8.acceptRanges", laid_unicode_utf8_acceptRanges), ("unicode/utf8.first", laid_unicode_utf8_first)], narrowed := true }
def FnExactStoreRecordsUptoSaid : Prop := fnExactStoreRecordsUptoRow.holds Tryd.pinned (OpenSpec.upto fnExactStoreRecordsSpec)

/-- 'laws.FnExactLoadRecord', WHERE WHAT IT READS IS OF BULK AT MOST 1048576: true; the input reads as it did. -/
def fnExactLoadRecordUptoRow : OpenClaim := { program := "ytielmnkhcljmeaadoor", sum := "4a90f16617e7ba359df1874286e44f4b06b2ea882c10ecdc43a76c147d882b79", func := "loop.example/g01339/laws.FnExactLoadRecord", spec := "fnExactLoadRecord", inPlace := ["internal/bytealg.IndexByteString", "internal/bytealg.IndexString"], unfollowed := true, recurses := true, named := ["unicode/utf8.first", "unicode/utf8.acceptRanges", "internal/bytealg.MaxLen"], apart := false, laid := [("unicode/utf8.acceptRanges", laid_unicode_utf8_acceptRanges), ("unicode/utf8.first", laid_unicode_utf8_first)], narrowed := true }
def FnExactLoadRecordUptoSaid : Prop := fnExactLoadRecordUptoRow.holds Tryd.pinned (OpenSpec.upto fnExactLoadRecordSpec)

/-- 'laws.FnExactRecoverRecords', WHERE WHAT IT READS IS OF BULK AT MOST 1048576: true; the input reads as it did. -/
def fnExactRecoverRecordsUptoRow : OpenClaim := { program := "ytielmnkhcljmeaadoor", sum := "4a90f16617e7ba359df1874286e44f4b06b2ea882c10ecdc43a76c147d882b79", func := "loop.example/g01339/laws.FnExactRecoverRecords", spec := "fnExactRecoverRecords", inPlace := ["internal/bytealg.IndexByteString", "internal/bytealg.IndexString"], unfollowed := true, recurses := true, named := ["unicode/utf8.first", "unicode/utf8.acceptRanges", "internal/bytealg.MaxLen"], apart := false, laid := [("unicode/utf8.acceptRanges", laid_unicode_utf8_acceptRanges), ("unicode/utf8.first", laid_unicode_utf8_first)], narrowed := true }
def FnExactRecoverRecordsUptoSaid : Prop := fnExactRecoverRecordsUptoRow.holds Tryd.pinned (OpenSpec.upto fnExactRecoverRecordsSpec)

end Rows
end Go.Proofs.YtielmnkhcljmeaaDoor
