/-
  DERIVED. GIVEN WITH THE SEED: THE CARDS: each row of YtnoahnbjdapieaaDoorRows.lean that lists a variable, with what it lists TIED to the program's text (the seventh form; the later family's looks); each row that meets fmt, with fmt's text TOLD by the authors' own Lean function (tested against real Go, not proved from fmt's source: count such statements apart). THE CARD IS WHAT COUNTS. Prove the row's statement (the work); the ties are given (YtnoahnbjdapieaaDoorTie.lean); close each card by the builder's one call (the guide's Derived/Test/ToyasCard.lean, 'card_holds'). Laid BY PROGRAM, IN A SANDBOX (cutbox-door.mjs). By AI agents, Wed Nov 11 2026. No macro, syntax, notation, axiom, sorry.
-/
import Derived.Test.YtnoahnbjdapieaaDoorRows
import GoSem.ClaimSeven
namespace Go.Proofs.YtnoahnbjdapieaaDoor
namespace Rows

/-- THE TIED CARD OF 'octantlaw01.IndexPlans'. -/
def indexPlansCard : Claim7 := { stood := { row := indexPlansRow, standIns := [], harness := (true, "af967309e8f4045ff6fc3fc551361c98788d609ceb85592532c70fd8c6a8c721"), looks := false }, kinds := [], alts := [], laidByText := true, laidKinds := [.data], laidTests := true, laidLooks := .later }
def IndexPlansCardSaid : Prop := Claim7.holds Tryd.pinned (.plain (OpenSpec.ofChange indexPlansSpec)) indexPlansCard

/-- THE TIED CARD OF 'octantlaw01.IndexCuts'. -/
def indexCutsCard : Claim7 := { stood := { row := indexCutsRow, standIns := [], harness := (true, "af967309e8f4045ff6fc3fc551361c98788d609ceb85592532c70fd8c6a8c721"), looks := false }, kinds := [], alts := [], laidByText := true, laidKinds := [.data], laidTests := true, laidLooks := .later }
def IndexCutsCardSaid : Prop := Claim7.holds Tryd.pinned (.plain (OpenSpec.ofChange indexCutsSpec)) indexCutsCard

/-- THE TIED CARD OF 'octantlaw01.IndexTrains'. -/
def indexTrainsCard : Claim7 := { stood := { row := indexTrainsRow, standIns := [], harness := (true, "af967309e8f4045ff6fc3fc551361c98788d609ceb85592532c70fd8c6a8c721"), looks := false }, kinds := [], alts := [], laidByText := true, laidKinds := [.data], laidTests := true, laidLooks := .later }
def IndexTrainsCardSaid : Prop := Claim7.holds Tryd.pinned (.plain (OpenSpec.ofChange indexTrainsSpec)) indexTrainsCard

/-- THE TIED CARD OF 'octantlaw01.IndexDiffers'. -/
def indexDiffersCard : Claim7 := { stood := { row := indexDiffersRow, standIns := [], harness := (true, "af967309e8f4045ff6fc3fc551361c98788d609ceb85592532c70fd8c6a8c721"), looks := false }, kinds := [], alts := [], laidByText := true, laidKinds := [.data], laidTests := true, laidLooks := .later }
def IndexDiffersCardSaid : Prop := Claim7.holds Tryd.pinned (.plain (OpenSpec.ofChange indexDiffersSpec)) indexDiffersCard

/-- THE TIED CARD OF 'octantlaw01.IndexCloses'. -/
def indexClosesCard : Claim7 := { stood := { row := indexClosesRow, standIns := [], harness := (true, "af967309e8f4045ff6fc3fc551361c98788d609ceb85592532c70fd8c6a8c721"), looks := false }, kinds := [], alts := [], laidByText := true, laidKinds := [.data], laidTests := true, laidLooks := .later }
def IndexClosesCardSaid : Prop := Claim7.holds Tryd.pinned (.plain (OpenSpec.ofChange indexClosesSpec)) indexClosesCard

/-- THE TIED CARD OF 'octantlaw01.IndexFewest'. -/
def indexFewestCard : Claim7 := { stood := { row := indexFewestRow, standIns := [], harness := (true, "af967309e8f4045ff6fc3fc551361c98788d609ceb85592532c70fd8c6a8c721"), looks := false }, kinds := [], alts := [], laidByText := true, laidKinds := [.data], laidTests := true, laidLooks := .later }
def IndexFewestCardSaid : Prop := Claim7.holds Tryd.pinned (.plain (OpenSpec.ofChange indexFewestSpec)) indexFewestCard

/-- THE TIED CARD OF 'octantlaw01.IndexNearest'. -/
def indexNearestCard : Claim7 := { stood := { row := indexNearestRow, standIns := [], harness := (true, "af967309e8f4045ff6fc3fc551361c98788d609ceb85592532c70fd8c6a8c721"), looks := false }, kinds := [], alts := [], laidByText := true, laidKinds := [.data], laidTests := true, laidLooks := .later }
def IndexNearestCardSaid : Prop := Claim7.holds Tryd.pinned (.plain (OpenSpec.ofChange indexNearestSpec)) indexNearestCard

/-- THE TIED CARD OF 'octantlaw01.IndexMore'. -/
def indexMoreCard : Claim7 := { stood := { row := indexMoreRow, standIns := [], harness := (true, "af967309e8f4045ff6fc3fc551361c98788d609ceb85592532c70fd8c6a8c721"), looks := false }, kinds := [], alts := [], laidByText := true, laidKinds := [.data], laidTests := true, laidLooks := .later }
def IndexMoreCardSaid : Prop := Claim7.holds Tryd.pinned (.plain (OpenSpec.ofChange indexMoreSpec)) indexMoreCard

/-- THE TIED CARD OF 'octantlaw01.IndexWheels'. -/
def indexWheelsCard : Claim7 := { stood := { row := indexWheelsRow, standIns := [], harness := (true, "af967309e8f4045ff6fc3fc551361c98788d609ceb85592532c70fd8c6a8c721"), looks := false }, kinds := [], alts := [], laidByText := true, laidKinds := [.data], laidTests := true, laidLooks := .later }
def IndexWheelsCardSaid : Prop := Claim7.holds Tryd.pinned (.plain (OpenSpec.ofChange indexWheelsSpec)) indexWheelsCard

/-- THE TIED CARD OF 'octantlaw01.IndexTogether'. -/
def indexTogetherCard : Claim7 := { stood := { row := indexTogetherRow, standIns := [], harness := (true, "af967309e8f4045ff6fc3fc551361c98788d609ceb85592532c70fd8c6a8c721"), looks := false }, kinds := [], alts := [], laidByText := true, laidKinds := [.data], laidTests := true, laidLooks := .later }
def IndexTogetherCardSaid : Prop := Claim7.holds Tryd.pinned (.plain (OpenSpec.ofChange indexTogetherSpec)) indexTogetherCard

/-- THE TIED CARD OF 'octantlaw01.IndexKnown'. -/
def indexKnownCard : Claim7 := { stood := { row := indexKnownRow, standIns := [], harness := (true, "af967309e8f4045ff6fc3fc551361c98788d609ceb85592532c70fd8c6a8c721"), looks := false }, kinds := [], alts := [], laidByText := true, laidKinds := [.data], laidTests := true, laidLooks := .later }
def IndexKnownCardSaid : Prop := Claim7.holds Tryd.pinned (.plain (OpenSpec.ofChange indexKnownSpec)) indexKnownCard

/-- THE SECOND FORM's CARD OF 'octantlaw01.IndexPlans'. -/
def indexPlansUptoCard : Claim7 := { stood := { row := indexPlansUptoRow, standIns := [], harness := (true, "af967309e8f4045ff6fc3fc551361c98788d609ceb85592532c70fd8c6a8c721"), looks := false }, kinds := [], alts := [], laidByText := true, laidKinds := [.data], laidTests := true, laidLooks := .later }
def IndexPlansUptoCardSaid : Prop := Claim7.holds Tryd.pinned (.plain (OpenSpec.upto indexPlansSpec)) indexPlansUptoCard

/-- THE SECOND FORM's CARD OF 'octantlaw01.IndexCuts'. -/
def indexCutsUptoCard : Claim7 := { stood := { row := indexCutsUptoRow, standIns := [], harness := (true, "af967309e8f4045ff6fc3fc551361c98788d609ceb85592532c70fd8c6a8c721"), looks := false }, kinds := [], alts := [], laidByText := true, laidKinds := [.data], laidTests := true, laidLooks := .later }
def IndexCutsUptoCardSaid : Prop := Claim7.holds Tryd.pinned (.plain (OpenSpec.upto indexCutsSpec)) indexCutsUptoCard

/-- THE SECOND FORM's CARD OF 'octantlaw01.IndexTrains'. -/
def indexTrainsUptoCard : Claim7 := { stood := { row := indexTrainsUptoRow, standIns := [], harness := (true, "af967309e8f4045ff6fc3fc551361c98788d609ceb85592532c70fd8c6a8c721"), looks := false }, kinds := [], alts := [], laidByText := true, laidKinds := [.data], laidTests := true, laidLooks := .later }
def IndexTrainsUptoCardSaid : Prop := Claim7.holds Tryd.pinned (.plain (OpenSpec.upto indexTrainsSpec)) indexTrainsUptoCard

/-- THE SECOND FORM's CARD OF 'octantlaw01.IndexDiffers'. -/
def indexDiffersUptoCard : Claim7 := { stood := { row := indexDiffersUptoRow, standIns := [], harness := (true, "af967309e8f4045ff6fc3fc551361c98788d609ceb85592532c70fd8c6a8c721"), looks := false }, kinds := [], alts := [], laidByText := true, laidKinds := [.data], laidTests := true, laidLooks := .later }
def IndexDiffersUptoCardSaid : Prop := Claim7.holds Tryd.pinned (.plain (OpenSpec.upto indexDiffersSpec)) indexDiffersUptoCard

/-- THE SECOND FORM's CARD OF 'octantlaw01.IndexCloses'. -/
def indexClosesUptoCard : Claim7 := { stood := { row := indexClosesUptoRow, standIns := [], harness := (true, "af967309e8f4045ff6fc3fc551361c98788d609ceb85592532c70fd8c6a8c721"), looks := false }, kinds := [], alts := [], laidByText := true, laidKinds := [.data], laidTests := true, laidLooks := .later }
def IndexClosesUptoCardSaid : Prop := Claim7.holds Tryd.pinned (.plain (OpenSpec.upto indexClosesSpec)) indexClosesUptoCard

/-- THE SECOND FORM's CARD OF 'octantlaw01.IndexFewest'. -/
def indexFewestUptoCard : Claim7 := { stood := { row := indexFewestUptoRow, standIns := [], harness := (true, "af967309e8f4045ff6fc3fc551361c98788d609ceb85592532c70fd8c6a8c721"), looks := false }, kinds := [], alts := [], laidByText := true, laidKinds := [.data], laidTests := true, laidLooks := .later }
def IndexFewestUptoCardSaid : Prop := Claim7.holds Tryd.pinned (.plain (OpenSpec.upto indexFewestSpec)) indexFewestUptoCard

/-- THE SECOND FORM's CARD OF 'octantlaw01.IndexNearest'. -/
def indexNearestUptoCard : Claim7 := { stood := { row := indexNearestUptoRow, standIns := [], harness := (true, "af967309e8f4045ff6fc3fc551361c98788d609ceb85592532c70fd8c6a8c721"), looks := false }, kinds := [], alts := [], laidByText := true, laidKinds := [.data], laidTests := true, laidLooks := .later }
def IndexNearestUptoCardSaid : Prop := Claim7.holds Tryd.pinned (.plain (OpenSpec.upto indexNearestSpec)) indexNearestUptoCard

/-- THE SECOND FORM's CARD OF 'octantlaw01.IndexMore'. -/
def indexMoreUptoCard : Claim7 := { stood := { row := indexMoreUptoRow, standIns := [], harness := (true, "af967309e8f4045ff6fc3fc551361c98788d609ceb85592532c70fd8c6a8c721"), looks := false }, kinds := [], alts := [], laidByText := true, laidKinds := [.data], laidTests := true, laidLooks := .later }
def IndexMoreUptoCardSaid : Prop := Claim7.holds Tryd.pinned (.plain (OpenSpec.upto indexMoreSpec)) indexMoreUptoCard

/-- THE SECOND FORM's CARD OF 'octantlaw01.IndexWheels'. -/
def indexWheelsUptoCard : Claim7 := { stood := { row := indexWheelsUptoRow, standIns := [], harness := (true, "af967309e8f4045ff6fc3fc551361c98788d609ceb85592532c70fd8c6a8c721"), looks := false }, kinds := [], alts := [], laidByText := true, laidKinds := [.data], laidTests := true, laidLooks := .later }
def IndexWheelsUptoCardSaid : Prop := Claim7.holds Tryd.pinned (.plain (OpenSpec.upto indexWheelsSpec)) indexWheelsUptoCard

/-- THE SECOND FORM's CARD OF 'octantlaw01.IndexTogether'. -/
def indexTogetherUptoCard : Claim7 := { stood := { row := indexTogetherUptoRow, standIns := [], harness := (true, "af967309e8f4045ff6fc3fc551361c98788d609ceb85592532c70fd8c6a8c721"), looks := false }, kinds := [], alts := [], laidByText := true, laidKinds := [.data], laidTests := true, laidLooks := .later }
def IndexTogetherUptoCardSaid : Prop := Claim7.holds Tryd.pinned (.plain (OpenSpec.upto indexTogetherSpec)) indexTogetherUptoCard

/-- THE SECOND FORM's CARD OF 'octantlaw01.IndexKnown'. -/
def indexKnownUptoCard : Claim7 := { stood := { row := indexKnownUptoRow, standIns := [], harness := (true, "af967309e8f4045ff6fc3fc551361c98788d609ceb85592532c70fd8c6a8c721"), looks := false }, kinds := [], alts := [], laidByText := true, laidKinds := [.data], laidTests := true, laidLooks := .later }
def IndexKnownUptoCardSaid : Prop := Claim7.holds Tryd.pinned (.plain (OpenSpec.upto indexKnownSpec)) indexKnownUptoCard
end Rows
end Go.Proofs.YtnoahnbjdapieaaDoor
