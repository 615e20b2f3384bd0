/-
  DERIVED. GIVEN WITH THE SEED: THE CARDS: each row of YtdkboibnokipaaaDoorRows.lean that lists a variable, with what it lists TIED to the program's text (the seventh form; the later family's looks); each row that meets fmt, with fmt's text TOLD by the authors' own Lean function (tested against real Go, not proved from fmt's source: count such statements apart). THE CARD IS WHAT COUNTS. Prove the row's statement (the work); the ties are given (YtdkboibnokipaaaDoorTie.lean); close each card by the builder's one call (the guide's Derived/Test/ToyasCard.lean, 'card_holds'). Laid BY PROGRAM, IN A SANDBOX (cutbox-door.mjs). By AI agents, Wed Nov 11 2026. No macro, syntax, notation, axiom, sorry.
-/
import Derived.Test.YtdkboibnokipaaaDoorRows
import GoSem.ClaimSeven
namespace Go.Proofs.YtdkboibnokipaaaDoor
namespace Rows

/-- THE TIED CARD OF 'octantlaw09.WreckRestores'. -/
def wreckRestoresCard : Claim7 := { stood := { row := wreckRestoresRow, standIns := [], harness := (true, "d8a99f382aad03e2df2615e40ca88e7bf8c3dec40c01936899a828dc21c7ea28"), looks := true }, kinds := [], alts := [], laidByText := true, laidKinds := [.data, .funcs, .pinned], laidTests := true, laidLooks := .later }
def WreckRestoresCardSaid : Prop := Claim7.holds Tryd.pinned (.plain (OpenSpec.ofChange wreckRestoresSpec)) wreckRestoresCard

/-- THE TIED CARD OF 'octantlaw09.WreckPages'. -/
def wreckPagesCard : Claim7 := { stood := { row := wreckPagesRow, standIns := [], harness := (true, "d8a99f382aad03e2df2615e40ca88e7bf8c3dec40c01936899a828dc21c7ea28"), looks := true }, kinds := [], alts := [], laidByText := true, laidKinds := [.data, .funcs, .pinned], laidTests := true, laidLooks := .later }
def WreckPagesCardSaid : Prop := Claim7.holds Tryd.pinned (.plain (OpenSpec.ofChange wreckPagesSpec)) wreckPagesCard

/-- THE TIED CARD OF 'octantlaw09.WreckTraces'. -/
def wreckTracesCard : Claim7 := { stood := { row := wreckTracesRow, standIns := [], harness := (true, "d8a99f382aad03e2df2615e40ca88e7bf8c3dec40c01936899a828dc21c7ea28"), looks := true }, kinds := [], alts := [], laidByText := true, laidKinds := [.data, .funcs, .pinned], laidTests := true, laidLooks := .later }
def WreckTracesCardSaid : Prop := Claim7.holds Tryd.pinned (.plain (OpenSpec.ofChange wreckTracesSpec)) wreckTracesCard

/-- THE TIED CARD OF 'octantlaw09.WreckSaves'. -/
def wreckSavesCard : Claim7 := { stood := { row := wreckSavesRow, standIns := [], harness := (true, "d8a99f382aad03e2df2615e40ca88e7bf8c3dec40c01936899a828dc21c7ea28"), looks := true }, kinds := [], alts := [], laidByText := true, laidKinds := [.data, .funcs, .pinned], laidTests := true, laidLooks := .later }
def WreckSavesCardSaid : Prop := Claim7.holds Tryd.pinned (.plain (OpenSpec.ofChange wreckSavesSpec)) wreckSavesCard

/-- THE TIED CARD OF 'octantlaw09.WreckSure'. -/
def wreckSureCard : Claim7 := { stood := { row := wreckSureRow, standIns := [], harness := (true, "d8a99f382aad03e2df2615e40ca88e7bf8c3dec40c01936899a828dc21c7ea28"), looks := true }, kinds := [], alts := [], laidByText := true, laidKinds := [.data, .funcs, .pinned], laidTests := true, laidLooks := .later }
def WreckSureCardSaid : Prop := Claim7.holds Tryd.pinned (.plain (OpenSpec.ofChange wreckSureSpec)) wreckSureCard

/-- THE TIED CARD OF 'octantlaw09.WreckAsked'. -/
def wreckAskedCard : Claim7 := { stood := { row := wreckAskedRow, standIns := [], harness := (true, "d8a99f382aad03e2df2615e40ca88e7bf8c3dec40c01936899a828dc21c7ea28"), looks := true }, kinds := [], alts := [], laidByText := true, laidKinds := [.data, .funcs, .pinned], laidTests := true, laidLooks := .later }
def WreckAskedCardSaid : Prop := Claim7.holds Tryd.pinned (.plain (OpenSpec.ofChange wreckAskedSpec)) wreckAskedCard

/-- THE TIED CARD OF 'octantlaw09.WreckOnce'. -/
def wreckOnceCard : Claim7 := { stood := { row := wreckOnceRow, standIns := [], harness := (true, "d8a99f382aad03e2df2615e40ca88e7bf8c3dec40c01936899a828dc21c7ea28"), looks := true }, kinds := [], alts := [], laidByText := true, laidKinds := [.data, .funcs, .pinned], laidTests := true, laidLooks := .later }
def WreckOnceCardSaid : Prop := Claim7.holds Tryd.pinned (.plain (OpenSpec.ofChange wreckOnceSpec)) wreckOnceCard

/-- THE TIED CARD OF 'octantlaw09.WreckForged'. -/
def wreckForgedCard : Claim7 := { stood := { row := wreckForgedRow, standIns := [], harness := (true, "d8a99f382aad03e2df2615e40ca88e7bf8c3dec40c01936899a828dc21c7ea28"), looks := true }, kinds := [], alts := [], laidByText := true, laidKinds := [.data, .funcs, .pinned], laidTests := true, laidLooks := .later }
def WreckForgedCardSaid : Prop := Claim7.holds Tryd.pinned (.plain (OpenSpec.ofChange wreckForgedSpec)) wreckForgedCard

/-- THE TIED CARD OF 'octantlaw09.WreckBack'. -/
def wreckBackCard : Claim7 := { stood := { row := wreckBackRow, standIns := [], harness := (true, "d8a99f382aad03e2df2615e40ca88e7bf8c3dec40c01936899a828dc21c7ea28"), looks := true }, kinds := [], alts := [], laidByText := true, laidKinds := [.data, .funcs, .pinned], laidTests := true, laidLooks := .later }
def WreckBackCardSaid : Prop := Claim7.holds Tryd.pinned (.plain (OpenSpec.ofChange wreckBackSpec)) wreckBackCard

/-- THE TIED CARD OF 'octantlaw09.WreckKnown'. -/
def wreckKnownCard : Claim7 := { stood := { row := wreckKnownRow, standIns := [], harness := (true, "d8a99f382aad03e2df2615e40ca88e7bf8c3dec40c01936899a828dc21c7ea28"), looks := true }, kinds := [], alts := [], laidByText := true, laidKinds := [.data, .funcs, .pinned], laidTests := true, laidLooks := .later }
def WreckKnownCardSaid : Prop := Claim7.holds Tryd.pinned (.plain (OpenSpec.ofChange wreckKnownSpec)) wreckKnownCard

/-- THE TIED CARD OF 'octanttop.TopSigned'. -/
def topSignedCard : Claim7 := { stood := { row := topSignedRow, standIns := [], harness := (true, "d8a99f382aad03e2df2615e40ca88e7bf8c3dec40c01936899a828dc21c7ea28"), looks := true }, kinds := [], alts := [], laidByText := true, laidKinds := [.funcs], laidTests := true, laidLooks := .later }
def TopSignedCardSaid : Prop := Claim7.holds Tryd.pinned (.plain (OpenSpec.ofChange topSignedSpec)) topSignedCard

/-- THE SECOND FORM's CARD OF 'octantlaw09.WreckRestores'. -/
def wreckRestoresUptoCard : Claim7 := { stood := { row := wreckRestoresUptoRow, standIns := [], harness := (true, "d8a99f382aad03e2df2615e40ca88e7bf8c3dec40c01936899a828dc21c7ea28"), looks := true }, kinds := [], alts := [], laidByText := true, laidKinds := [.data, .funcs, .pinned], laidTests := true, laidLooks := .later }
def WreckRestoresUptoCardSaid : Prop := Claim7.holds Tryd.pinned (.plain (OpenSpec.upto wreckRestoresSpec)) wreckRestoresUptoCard

/-- THE SECOND FORM's CARD OF 'octantlaw09.WreckPages'. -/
def wreckPagesUptoCard : Claim7 := { stood := { row := wreckPagesUptoRow, standIns := [], harness := (true, "d8a99f382aad03e2df2615e40ca88e7bf8c3dec40c01936899a828dc21c7ea28"), looks := true }, kinds := [], alts := [], laidByText := true, laidKinds := [.data, .funcs, .pinned], laidTests := true, laidLooks := .later }
def WreckPagesUptoCardSaid : Prop := Claim7.holds Tryd.pinned (.plain (OpenSpec.upto wreckPagesSpec)) wreckPagesUptoCard

/-- THE SECOND FORM's CARD OF 'octantlaw09.WreckTraces'. -/
def wreckTracesUptoCard : Claim7 := { stood := { row := wreckTracesUptoRow, standIns := [], harness := (true, "d8a99f382aad03e2df2615e40ca88e7bf8c3dec40c01936899a828dc21c7ea28"), looks := true }, kinds := [], alts := [], laidByText := true, laidKinds := [.data, .funcs, .pinned], laidTests := true, laidLooks := .later }
def WreckTracesUptoCardSaid : Prop := Claim7.holds Tryd.pinned (.plain (OpenSpec.upto wreckTracesSpec)) wreckTracesUptoCard

/-- THE SECOND FORM's CARD OF 'octantlaw09.WreckSaves'. -/
def wreckSavesUptoCard : Claim7 := { stood := { row := wreckSavesUptoRow, standIns := [], harness := (true, "d8a99f382aad03e2df2615e40ca88e7bf8c3dec40c01936899a828dc21c7ea28"), looks := true }, kinds := [], alts := [], laidByText := true, laidKinds := [.data, .funcs, .pinned], laidTests := true, laidLooks := .later }
def WreckSavesUptoCardSaid : Prop := Claim7.holds Tryd.pinned (.plain (OpenSpec.upto wreckSavesSpec)) wreckSavesUptoCard

/-- THE SECOND FORM's CARD OF 'octantlaw09.WreckSure'. -/
def wreckSureUptoCard : Claim7 := { stood := { row := wreckSureUptoRow, standIns := [], harness := (true, "d8a99f382aad03e2df2615e40ca88e7bf8c3dec40c01936899a828dc21c7ea28"), looks := true }, kinds := [], alts := [], laidByText := true, laidKinds := [.data, .funcs, .pinned], laidTests := true, laidLooks := .later }
def WreckSureUptoCardSaid : Prop := Claim7.holds Tryd.pinned (.plain (OpenSpec.upto wreckSureSpec)) wreckSureUptoCard

/-- THE SECOND FORM's CARD OF 'octantlaw09.WreckAsked'. -/
def wreckAskedUptoCard : Claim7 := { stood := { row := wreckAskedUptoRow, standIns := [], harness := (true, "d8a99f382aad03e2df2615e40ca88e7bf8c3dec40c01936899a828dc21c7ea28"), looks := true }, kinds := [], alts := [], laidByText := true, laidKinds := [.data, .funcs, .pinned], laidTests := true, laidLooks := .later }
def WreckAskedUptoCardSaid : Prop := Claim7.holds Tryd.pinned (.plain (OpenSpec.upto wreckAskedSpec)) wreckAskedUptoCard

/-- THE SECOND FORM's CARD OF 'octantlaw09.WreckOnce'. -/
def wreckOnceUptoCard : Claim7 := { stood := { row := wreckOnceUptoRow, standIns := [], harness := (true, "d8a99f382aad03e2df2615e40ca88e7bf8c3dec40c01936899a828dc21c7ea28"), looks := true }, kinds := [], alts := [], laidByText := true, laidKinds := [.data, .funcs, .pinned], laidTests := true, laidLooks := .later }
def WreckOnceUptoCardSaid : Prop := Claim7.holds Tryd.pinned (.plain (OpenSpec.upto wreckOnceSpec)) wreckOnceUptoCard

/-- THE SECOND FORM's CARD OF 'octantlaw09.WreckForged'. -/
def wreckForgedUptoCard : Claim7 := { stood := { row := wreckForgedUptoRow, standIns := [], harness := (true, "d8a99f382aad03e2df2615e40ca88e7bf8c3dec40c01936899a828dc21c7ea28"), looks := true }, kinds := [], alts := [], laidByText := true, laidKinds := [.data, .funcs, .pinned], laidTests := true, laidLooks := .later }
def WreckForgedUptoCardSaid : Prop := Claim7.holds Tryd.pinned (.plain (OpenSpec.upto wreckForgedSpec)) wreckForgedUptoCard

/-- THE SECOND FORM's CARD OF 'octantlaw09.WreckBack'. -/
def wreckBackUptoCard : Claim7 := { stood := { row := wreckBackUptoRow, standIns := [], harness := (true, "d8a99f382aad03e2df2615e40ca88e7bf8c3dec40c01936899a828dc21c7ea28"), looks := true }, kinds := [], alts := [], laidByText := true, laidKinds := [.data, .funcs, .pinned], laidTests := true, laidLooks := .later }
def WreckBackUptoCardSaid : Prop := Claim7.holds Tryd.pinned (.plain (OpenSpec.upto wreckBackSpec)) wreckBackUptoCard

/-- THE SECOND FORM's CARD OF 'octantlaw09.WreckKnown'. -/
def wreckKnownUptoCard : Claim7 := { stood := { row := wreckKnownUptoRow, standIns := [], harness := (true, "d8a99f382aad03e2df2615e40ca88e7bf8c3dec40c01936899a828dc21c7ea28"), looks := true }, kinds := [], alts := [], laidByText := true, laidKinds := [.data, .funcs, .pinned], laidTests := true, laidLooks := .later }
def WreckKnownUptoCardSaid : Prop := Claim7.holds Tryd.pinned (.plain (OpenSpec.upto wreckKnownSpec)) wreckKnownUptoCard

/-- THE SECOND FORM's CARD OF 'octanttop.TopSigned'. -/
def topSignedUptoCard : Claim7 := { stood := { row := topSignedUptoRow, standIns := [], harness := (true, "d8a99f382aad03e2df2615e40ca88e7bf8c3dec40c01936899a828dc21c7ea28"), looks := true }, kinds := [], alts := [], laidByText := true, laidKinds := [.funcs], laidTests := true, laidLooks := .later }
def TopSignedUptoCardSaid : Prop := Claim7.holds Tryd.pinned (.plain (OpenSpec.upto topSignedSpec)) topSignedUptoCard
end Rows
end Go.Proofs.YtdkboibnokipaaaDoor
