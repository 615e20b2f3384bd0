/-
  NARROWER THAN 'FOR EVERY INPUT', by the rows' own cells (each row's printed sentence says how): IndexPlans: laid · IndexCuts: laid · IndexTrains: laid · IndexDiffers: laid · IndexCloses: laid · IndexFewest: laid · IndexNearest: laid · IndexMore: laid · IndexWheels: laid · IndexTogether: laid · IndexKnown: laid.
  DERIVED. THE GIVEN ROWS OF THIS SEAT. 11 by the template 'for every input the law returns true; each argument reads behind the call as it read before'; 0 by the template 'total and deterministic' (their statements: YtnoahnbjdapieaaDoorTotals.lean).
  GIVEN WITH THE SEED: the statements are not yours to turn. If you find one false, say at which input.
  Laid BY PROGRAM, IN A SANDBOX (cutbox-rows.mjs): the forced cells as the released guide's own fill.sh prints them over the translation b1c96f430ae2b541… (all of the seat's roots in one cut). By AI agents, Wed Nov 11 2026. No macro, syntax, notation, axiom, sorry.
-/
import Derived.Test.YtnoahnbjdapieaaDoorChecked
import GoSem.Claim
import GoSem.ClaimJoined
import GoSem.ClaimMapViews
import Derived.JoinedTies
import Derived.KernelRfl
namespace Go.Proofs.YtnoahnbjdapieaaDoor
/- THE CELL 'sum', in the pinned program and in every row, IS THE sha256 OF THE DUMP (.gsa) THAT YtnoahnbjdapieaaDoorProg.lean LOADS. Nothing in Lean hashes anything: it is a label: what it is worth is what the hold of that sum in a sandbox is worth. -/
noncomputable def Tryd.pinned : Pinned := { name := "ytnoahnbjdapieaadoor", sum := "b1c96f430ae2b54171787272a97e03449a5d9681a4471fde1656fd2d49402b79", checked := Tryd.checked }
namespace Rows
def none {H : Type} : Left H := { results := [], args := [] }

/- WHAT THE LISTED PACKAGE-LEVEL VARIABLES READ AS WHEN THE CALL BEGINS. Each datum BY PROGRAM (the guide's laid-datum.mjs) off the statement by which the dump's own 'gosem.cut.vars' lays the variable. In a bare row this is a premise. The card (YtnoahnbjdapieaaDoorCards.lean) ties it to the program's text. -/
def laid_octant_index_noTrain {H : Type} : DataW H := .agg [.lit (.int .i64 (-1)), .lit (.int .i64 (-1)), .lit (.int .i64 (-1)), .lit (.int .i64 (-1))]

/-- 'octantlaw01.IndexPlans': WHATEVER THE INPUT: true; the input reads as it did. -/
def indexPlansSpec : ChangeSpec := { name := "indexPlans", fn := fun _ => fun
  | [d1, d2] => { results := [.lit (.bool true)], args := [d1, d2] }
  | _ => none }
def indexPlansRow : OpenClaim := { program := "ytnoahnbjdapieaadoor", sum := "b1c96f430ae2b54171787272a97e03449a5d9681a4471fde1656fd2d49402b79", func := "octant/octantlaw01.IndexPlans", spec := "indexPlans", unfollowed := true, recurses := true, named := ["octant/index.noTrain"], apart := false, laid := [("octant/index.noTrain", laid_octant_index_noTrain)] }
def IndexPlansSaid : Prop := indexPlansRow.holds Tryd.pinned (OpenSpec.ofChange indexPlansSpec)

/-- ITS FALSE NEIGHBOUR: 'it returns false'. Refute it at one input. -/
def indexPlansWrong : ChangeSpec := { name := "indexPlans", fn := fun _ => fun
  | [d1, d2] => { results := [.lit (.bool false)], args := [d1, d2] }
  | _ => none }
def IndexPlansWrongFalsely : Prop := indexPlansRow.holds Tryd.pinned (OpenSpec.ofChange indexPlansWrong)

/-- 'octantlaw01.IndexCuts': WHATEVER THE INPUT: true; the input reads as it did. -/
def indexCutsSpec : ChangeSpec := { name := "indexCuts", fn := fun _ => fun
  | [d1, d2, d3] => { results := [.lit (.bool true)], args := [d1, d2, d3] }
  | _ => none }
def indexCutsRow : OpenClaim := { program := "ytnoahnbjdapieaadoor", sum := "b1c96f430ae2b54171787272a97e03449a5d9681a4471fde1656fd2d49402b79", func := "octant/octantlaw01.IndexCuts", spec := "indexCuts", unfollowed := true, recurses := true, named := ["octant/index.noTrain"], apart := false, laid := [("octant/index.noTrain", laid_octant_index_noTrain)] }
def IndexCutsSaid : Prop := indexCutsRow.holds Tryd.pinned (OpenSpec.ofChange indexCutsSpec)

/-- ITS FALSE NEIGHBOUR: 'it returns false'. Refute it at one input. -/
def indexCutsWrong : ChangeSpec := { name := "indexCuts", fn := fun _ => fun
  | [d1, d2, d3] => { results := [.lit (.bool false)], args := [d1, d2, d3] }
  | _ => none }
def IndexCutsWrongFalsely : Prop := indexCutsRow.holds Tryd.pinned (OpenSpec.ofChange indexCutsWrong)

/-- 'octantlaw01.IndexTrains': WHATEVER THE INPUT: true; the input reads as it did. -/
def indexTrainsSpec : ChangeSpec := { name := "indexTrains", fn := fun _ => fun
  | [d1, d2] => { results := [.lit (.bool true)], args := [d1, d2] }
  | _ => none }
def indexTrainsRow : OpenClaim := { program := "ytnoahnbjdapieaadoor", sum := "b1c96f430ae2b54171787272a97e03449a5d9681a4471fde1656fd2d49402b79", func := "octant/octantlaw01.IndexTrains", spec := "indexTrains", unfollowed := true, recurses := true, named := ["octant/index.noTrain"], apart := false, laid := [("octant/index.noTrain", laid_octant_index_noTrain)] }
def IndexTrainsSaid : Prop := indexTrainsRow.holds Tryd.pinned (OpenSpec.ofChange indexTrainsSpec)

/-- ITS FALSE NEIGHBOUR: 'it returns false'. Refute it at one input. -/
def indexTrainsWrong : ChangeSpec := { name := "indexTrains", fn := fun _ => fun
  | [d1, d2] => { results := [.lit (.bool false)], args := [d1, d2] }
  | _ => none }
def IndexTrainsWrongFalsely : Prop := indexTrainsRow.holds Tryd.pinned (OpenSpec.ofChange indexTrainsWrong)

/-- 'octantlaw01.IndexDiffers': WHATEVER THE INPUT: true; the input reads as it did. -/
def indexDiffersSpec : ChangeSpec := { name := "indexDiffers", fn := fun _ => fun
  | [d1, d2, d3] => { results := [.lit (.bool true)], args := [d1, d2, d3] }
  | _ => none }
def indexDiffersRow : OpenClaim := { program := "ytnoahnbjdapieaadoor", sum := "b1c96f430ae2b54171787272a97e03449a5d9681a4471fde1656fd2d49402b79", func := "octant/octantlaw01.IndexDiffers", spec := "indexDiffers", unfollowed := true, recurses := true, named := ["octant/index.noTrain"], apart := false, laid := [("octant/index.noTrain", laid_octant_index_noTrain)] }
def IndexDiffersSaid : Prop := indexDiffersRow.holds Tryd.pinned (OpenSpec.ofChange indexDiffersSpec)

/-- ITS FALSE NEIGHBOUR: 'it returns false'. Refute it at one input. -/
def indexDiffersWrong : ChangeSpec := { name := "indexDiffers", fn := fun _ => fun
  | [d1, d2, d3] => { results := [.lit (.bool false)], args := [d1, d2, d3] }
  | _ => none }
def IndexDiffersWrongFalsely : Prop := indexDiffersRow.holds Tryd.pinned (OpenSpec.ofChange indexDiffersWrong)

/-- 'octantlaw01.IndexCloses': WHATEVER THE INPUT: true; the input reads as it did. -/
def indexClosesSpec : ChangeSpec := { name := "indexCloses", fn := fun _ => fun
  | [d1, d2, d3] => { results := [.lit (.bool true)], args := [d1, d2, d3] }
  | _ => none }
def indexClosesRow : OpenClaim := { program := "ytnoahnbjdapieaadoor", sum := "b1c96f430ae2b54171787272a97e03449a5d9681a4471fde1656fd2d49402b79", func := "octant/octantlaw01.IndexCloses", spec := "indexCloses", unfollowed := true, recurses := true, named := ["octant/index.noTrain"], apart := false, laid := [("octant/index.noTrain", laid_octant_index_noTrain)] }
def IndexClosesSaid : Prop := indexClosesRow.holds Tryd.pinned (OpenSpec.ofChange indexClosesSpec)

/-- ITS FALSE NEIGHBOUR: 'it returns false'. Refute it at one input. -/
def indexClosesWrong : ChangeSpec := { name := "indexCloses", fn := fun _ => fun
  | [d1, d2, d3] => { results := [.lit (.bool false)], args := [d1, d2, d3] }
  | _ => none }
def IndexClosesWrongFalsely : Prop := indexClosesRow.holds Tryd.pinned (OpenSpec.ofChange indexClosesWrong)

/-- 'octantlaw01.IndexFewest': WHATEVER THE INPUT: true; the input reads as it did. -/
def indexFewestSpec : ChangeSpec := { name := "indexFewest", fn := fun _ => fun
  | [d1, d2, d3] => { results := [.lit (.bool true)], args := [d1, d2, d3] }
  | _ => none }
def indexFewestRow : OpenClaim := { program := "ytnoahnbjdapieaadoor", sum := "b1c96f430ae2b54171787272a97e03449a5d9681a4471fde1656fd2d49402b79", func := "octant/octantlaw01.IndexFewest", spec := "indexFewest", unfollowed := true, recurses := true, named := ["octant/index.noTrain"], apart := false, laid := [("octant/index.noTrain", laid_octant_index_noTrain)] }
def IndexFewestSaid : Prop := indexFewestRow.holds Tryd.pinned (OpenSpec.ofChange indexFewestSpec)

/-- ITS FALSE NEIGHBOUR: 'it returns false'. Refute it at one input. -/
def indexFewestWrong : ChangeSpec := { name := "indexFewest", fn := fun _ => fun
  | [d1, d2, d3] => { results := [.lit (.bool false)], args := [d1, d2, d3] }
  | _ => none }
def IndexFewestWrongFalsely : Prop := indexFewestRow.holds Tryd.pinned (OpenSpec.ofChange indexFewestWrong)

/-- 'octantlaw01.IndexNearest': WHATEVER THE INPUT: true; the input reads as it did. -/
def indexNearestSpec : ChangeSpec := { name := "indexNearest", fn := fun _ => fun
  | [d1, d2, d3, d4] => { results := [.lit (.bool true)], args := [d1, d2, d3, d4] }
  | _ => none }
def indexNearestRow : OpenClaim := { program := "ytnoahnbjdapieaadoor", sum := "b1c96f430ae2b54171787272a97e03449a5d9681a4471fde1656fd2d49402b79", func := "octant/octantlaw01.IndexNearest", spec := "indexNearest", unfollowed := true, recurses := true, named := ["octant/index.noTrain"], apart := false, laid := [("octant/index.noTrain", laid_octant_index_noTrain)] }
def IndexNearestSaid : Prop := indexNearestRow.holds Tryd.pinned (OpenSpec.ofChange indexNearestSpec)

/-- ITS FALSE NEIGHBOUR: 'it returns false'. Refute it at one input. -/
def indexNearestWrong : ChangeSpec := { name := "indexNearest", fn := fun _ => fun
  | [d1, d2, d3, d4] => { results := [.lit (.bool false)], args := [d1, d2, d3, d4] }
  | _ => none }
def IndexNearestWrongFalsely : Prop := indexNearestRow.holds Tryd.pinned (OpenSpec.ofChange indexNearestWrong)

/-- 'octantlaw01.IndexMore': WHATEVER THE INPUT: true; the input reads as it did. -/
def indexMoreSpec : ChangeSpec := { name := "indexMore", fn := fun _ => fun
  | [d1, d2, d3] => { results := [.lit (.bool true)], args := [d1, d2, d3] }
  | _ => none }
def indexMoreRow : OpenClaim := { program := "ytnoahnbjdapieaadoor", sum := "b1c96f430ae2b54171787272a97e03449a5d9681a4471fde1656fd2d49402b79", func := "octant/octantlaw01.IndexMore", spec := "indexMore", unfollowed := true, recurses := true, named := ["octant/index.noTrain"], apart := false, laid := [("octant/index.noTrain", laid_octant_index_noTrain)] }
def IndexMoreSaid : Prop := indexMoreRow.holds Tryd.pinned (OpenSpec.ofChange indexMoreSpec)

/-- ITS FALSE NEIGHBOUR: 'it returns false'. Refute it at one input. -/
def indexMoreWrong : ChangeSpec := { name := "indexMore", fn := fun _ => fun
  | [d1, d2, d3] => { results := [.lit (.bool false)], args := [d1, d2, d3] }
  | _ => none }
def IndexMoreWrongFalsely : Prop := indexMoreRow.holds Tryd.pinned (OpenSpec.ofChange indexMoreWrong)

/-- 'octantlaw01.IndexWheels': WHATEVER THE INPUT: true; the input reads as it did. -/
def indexWheelsSpec : ChangeSpec := { name := "indexWheels", fn := fun _ => fun
  | [d1, d2, d3] => { results := [.lit (.bool true)], args := [d1, d2, d3] }
  | _ => none }
def indexWheelsRow : OpenClaim := { program := "ytnoahnbjdapieaadoor", sum := "b1c96f430ae2b54171787272a97e03449a5d9681a4471fde1656fd2d49402b79", func := "octant/octantlaw01.IndexWheels", spec := "indexWheels", unfollowed := true, recurses := true, named := ["octant/index.noTrain"], apart := false, laid := [("octant/index.noTrain", laid_octant_index_noTrain)] }
def IndexWheelsSaid : Prop := indexWheelsRow.holds Tryd.pinned (OpenSpec.ofChange indexWheelsSpec)

/-- ITS FALSE NEIGHBOUR: 'it returns false'. Refute it at one input. -/
def indexWheelsWrong : ChangeSpec := { name := "indexWheels", fn := fun _ => fun
  | [d1, d2, d3] => { results := [.lit (.bool false)], args := [d1, d2, d3] }
  | _ => none }
def IndexWheelsWrongFalsely : Prop := indexWheelsRow.holds Tryd.pinned (OpenSpec.ofChange indexWheelsWrong)

/-- 'octantlaw01.IndexTogether': WHATEVER THE INPUT: true; the input reads as it did. -/
def indexTogetherSpec : ChangeSpec := { name := "indexTogether", fn := fun _ => fun
  | [d1, d2, d3] => { results := [.lit (.bool true)], args := [d1, d2, d3] }
  | _ => none }
def indexTogetherRow : OpenClaim := { program := "ytnoahnbjdapieaadoor", sum := "b1c96f430ae2b54171787272a97e03449a5d9681a4471fde1656fd2d49402b79", func := "octant/octantlaw01.IndexTogether", spec := "indexTogether", unfollowed := true, recurses := true, named := ["octant/index.noTrain"], apart := false, laid := [("octant/index.noTrain", laid_octant_index_noTrain)] }
def IndexTogetherSaid : Prop := indexTogetherRow.holds Tryd.pinned (OpenSpec.ofChange indexTogetherSpec)

/-- ITS FALSE NEIGHBOUR: 'it returns false'. Refute it at one input. -/
def indexTogetherWrong : ChangeSpec := { name := "indexTogether", fn := fun _ => fun
  | [d1, d2, d3] => { results := [.lit (.bool false)], args := [d1, d2, d3] }
  | _ => none }
def IndexTogetherWrongFalsely : Prop := indexTogetherRow.holds Tryd.pinned (OpenSpec.ofChange indexTogetherWrong)

/-- 'octantlaw01.IndexKnown': WHATEVER THE INPUT: true; the input reads as it did. -/
def indexKnownSpec : ChangeSpec := { name := "indexKnown", fn := fun _ => fun
  | [] => { results := [.lit (.bool true)], args := [] }
  | _ => none }
def indexKnownRow : OpenClaim := { program := "ytnoahnbjdapieaadoor", sum := "b1c96f430ae2b54171787272a97e03449a5d9681a4471fde1656fd2d49402b79", func := "octant/octantlaw01.IndexKnown", spec := "indexKnown", unfollowed := true, recurses := true, named := ["octant/index.noTrain"], apart := false, laid := [("octant/index.noTrain", laid_octant_index_noTrain)] }
def IndexKnownSaid : Prop := indexKnownRow.holds Tryd.pinned (OpenSpec.ofChange indexKnownSpec)

/-- ITS FALSE NEIGHBOUR: 'it returns false'. Refute it at one input. -/
def indexKnownWrong : ChangeSpec := { name := "indexKnown", fn := fun _ => fun
  | [] => { results := [.lit (.bool false)], args := [] }
  | _ => none }
def IndexKnownWrongFalsely : Prop := indexKnownRow.holds Tryd.pinned (OpenSpec.ofChange indexKnownWrong)

/- THE SECOND FORM. 'bulk': how many values and letters a reading holds, each counted each time it is reached (what is shared counts as often as it is met; a slice's spare places count too). A statement '..UptoSaid' is the law's where the arguments, and the package variables that the reading takes, are together of bulk at most 1048576: NARROWER than '..Said'. Prove '..Said' where nothing that the law and all that it calls make is longer than what came in: it says more and counts as full. Else prove '..UptoSaid'. A law counts once. -/
mutual
def uptoBulk {H : Type} : DataW H → Nat
  | .lit (.string bytes) => bytes.length + 1
  | .lit _ => 1
  | .nil => 1
  | .ptr d => uptoBulk d + 1
  | .slice elems spare => uptoBulkAll elems + uptoBulkAll spare + 1
  | .agg parts => uptoBulkAll parts + 1
  | .iface _ d => uptoBulk d + 1
  | .map entries => uptoBulkEntries entries + 1
  | .held _ => 1
def uptoBulkAll {H : Type} : List (DataW H) → Nat
  | [] => 0
  | d :: r => uptoBulk d + uptoBulkAll r
def uptoBulkEntries {H : Type} : List (Lit × DataW H) → Nat
  | [] => 0
  | x :: r => uptoBulkEntry x + uptoBulkEntries r
def uptoBulkEntry {H : Type} : Lit × DataW H → Nat
  | (.string bytes, d) => bytes.length + uptoBulk d + 1
  | (_, d) => uptoBulk d + 1
 end
def uptoSmall : (H : Type) → List (DataW H) → Bool := fun _ ds => decide (uptoBulkAll ds ≤ 1048576)
def OpenSpec.upto (s : _root_.Go.ChangeSpec) : _root_.Go.OpenSpec := { _root_.Go.OpenSpec.ofChange s with cond := some uptoSmall }

/-- 'octantlaw01.IndexPlans', WHERE WHAT IT READS IS OF BULK AT MOST 1048576: true; the input reads as it did. -/
def indexPlansUptoRow : OpenClaim := { program := "ytnoahnbjdapieaadoor", sum := "b1c96f430ae2b54171787272a97e03449a5d9681a4471fde1656fd2d49402b79", func := "octant/octantlaw01.IndexPlans", spec := "indexPlans", unfollowed := true, recurses := true, named := ["octant/index.noTrain"], apart := false, laid := [("octant/index.noTrain", laid_octant_index_noTrain)], narrowed := true }
def IndexPlansUptoSaid : Prop := indexPlansUptoRow.holds Tryd.pinned (OpenSpec.upto indexPlansSpec)

/-- 'octantlaw01.IndexCuts', WHERE WHAT IT READS IS OF BULK AT MOST 1048576: true; the input reads as it did. -/
def indexCutsUptoRow : OpenClaim := { program := "ytnoahnbjdapieaadoor", sum := "b1c96f430ae2b54171787272a97e03449a5d9681a4471fde1656fd2d49402b79", func := "octant/octantlaw01.IndexCuts", spec := "indexCuts", unfollowed := true, recurses := true, named := ["octant/index.noTrain"], apart := false, laid := [("octant/index.noTrain", laid_octant_index_noTrain)], narrowed := true }
def IndexCutsUptoSaid : Prop := indexCutsUptoRow.holds Tryd.pinned (OpenSpec.upto indexCutsSpec)

/-- 'octantlaw01.IndexTrains', WHERE WHAT IT READS IS OF BULK AT MOST 1048576: true; the input reads as it did. -/
def indexTrainsUptoRow : OpenClaim := { program := "ytnoahnbjdapieaadoor", sum := "b1c96f430ae2b54171787272a97e03449a5d9681a4471fde1656fd2d49402b79", func := "octant/octantlaw01.IndexTrains", spec := "indexTrains", unfollowed := true, recurses := true, named := ["octant/index.noTrain"], apart := false, laid := [("octant/index.noTrain", laid_octant_index_noTrain)], narrowed := true }
def IndexTrainsUptoSaid : Prop := indexTrainsUptoRow.holds Tryd.pinned (OpenSpec.upto indexTrainsSpec)

/-- 'octantlaw01.IndexDiffers', WHERE WHAT IT READS IS OF BULK AT MOST 1048576: true; the input reads as it did. -/
def indexDiffersUptoRow : OpenClaim := { program := "ytnoahnbjdapieaadoor", sum := "b1c96f430ae2b54171787272a97e03449a5d9681a4471fde1656fd2d49402b79", func := "octant/octantlaw01.IndexDiffers", spec := "indexDiffers", unfollowed := true, recurses := true, named := ["octant/index.noTrain"], apart := false, laid := [("octant/index.noTrain", laid_octant_index_noTrain)], narrowed := true }
def IndexDiffersUptoSaid : Prop := indexDiffersUptoRow.holds Tryd.pinned (OpenSpec.upto indexDiffersSpec)

/-- 'octantlaw01.IndexCloses', WHERE WHAT IT READS IS OF BULK AT MOST 1048576: true; the input reads as it did. -/
def indexClosesUptoRow : OpenClaim := { program := "ytnoahnbjdapieaadoor", sum := "b1c96f430ae2b54171787272a97e03449a5d9681a4471fde1656fd2d49402b79", func := "octant/octantlaw01.IndexCloses", spec := "indexCloses", unfollowed := true, recurses := true, named := ["octant/index.noTrain"], apart := false, laid := [("octant/index.noTrain", laid_octant_index_noTrain)], narrowed := true }
def IndexClosesUptoSaid : Prop := indexClosesUptoRow.holds Tryd.pinned (OpenSpec.upto indexClosesSpec)

/-- 'octantlaw01.IndexFewest', WHERE WHAT IT READS IS OF BULK AT MOST 1048576: true; the input reads as it did. -/
def indexFewestUptoRow : OpenClaim := { program := "ytnoahnbjdapieaadoor", sum := "b1c96f430ae2b54171787272a97e03449a5d9681a4471fde1656fd2d49402b79", func := "octant/octantlaw01.IndexFewest", spec := "indexFewest", unfollowed := true, recurses := true, named := ["octant/index.noTrain"], apart := false, laid := [("octant/index.noTrain", laid_octant_index_noTrain)], narrowed := true }
def IndexFewestUptoSaid : Prop := indexFewestUptoRow.holds Tryd.pinned (OpenSpec.upto indexFewestSpec)

/-- 'octantlaw01.IndexNearest', WHERE WHAT IT READS IS OF BULK AT MOST 1048576: true; the input reads as it did. -/
def indexNearestUptoRow : OpenClaim := { program := "ytnoahnbjdapieaadoor", sum := "b1c96f430ae2b54171787272a97e03449a5d9681a4471fde1656fd2d49402b79", func := "octant/octantlaw01.IndexNearest", spec := "indexNearest", unfollowed := true, recurses := true, named := ["octant/index.noTrain"], apart := false, laid := [("octant/index.noTrain", laid_octant_index_noTrain)], narrowed := true }
def IndexNearestUptoSaid : Prop := indexNearestUptoRow.holds Tryd.pinned (OpenSpec.upto indexNearestSpec)

/-- 'octantlaw01.IndexMore', WHERE WHAT IT READS IS OF BULK AT MOST 1048576: true; the input reads as it did. -/
def indexMoreUptoRow : OpenClaim := { program := "ytnoahnbjdapieaadoor", sum := "b1c96f430ae2b54171787272a97e03449a5d9681a4471fde1656fd2d49402b79", func := "octant/octantlaw01.IndexMore", spec := "indexMore", unfollowed := true, recurses := true, named := ["octant/index.noTrain"], apart := false, laid := [("octant/index.noTrain", laid_octant_index_noTrain)], narrowed := true }
def IndexMoreUptoSaid : Prop := indexMoreUptoRow.holds Tryd.pinned (OpenSpec.upto indexMoreSpec)

/-- 'octantlaw01.IndexWheels', WHERE WHAT IT READS IS OF BULK AT MOST 1048576: true; the input reads as it did. -/
def indexWheelsUptoRow : OpenClaim := { program := "ytnoahnbjdapieaadoor", sum := "b1c96f430ae2b54171787272a97e03449a5d9681a4471fde1656fd2d49402b79", func := "octant/octantlaw01.IndexWheels", spec := "indexWheels", unfollowed := true, recurses := true, named := ["octant/index.noTrain"], apart := false, laid := [("octant/index.noTrain", laid_octant_index_noTrain)], narrowed := true }
def IndexWheelsUptoSaid : Prop := indexWheelsUptoRow.holds Tryd.pinned (OpenSpec.upto indexWheelsSpec)

/-- 'octantlaw01.IndexTogether', WHERE WHAT IT READS IS OF BULK AT MOST 1048576: true; the input reads as it did. -/
def indexTogetherUptoRow : OpenClaim := { program := "ytnoahnbjdapieaadoor", sum := "b1c96f430ae2b54171787272a97e03449a5d9681a4471fde1656fd2d49402b79", func := "octant/octantlaw01.IndexTogether", spec := "indexTogether", unfollowed := true, recurses := true, named := ["octant/index.noTrain"], apart := false, laid := [("octant/index.noTrain", laid_octant_index_noTrain)], narrowed := true }
def IndexTogetherUptoSaid : Prop := indexTogetherUptoRow.holds Tryd.pinned (OpenSpec.upto indexTogetherSpec)

/-- 'octantlaw01.IndexKnown', WHERE WHAT IT READS IS OF BULK AT MOST 1048576: true; the input reads as it did. -/
def indexKnownUptoRow : OpenClaim := { program := "ytnoahnbjdapieaadoor", sum := "b1c96f430ae2b54171787272a97e03449a5d9681a4471fde1656fd2d49402b79", func := "octant/octantlaw01.IndexKnown", spec := "indexKnown", unfollowed := true, recurses := true, named := ["octant/index.noTrain"], apart := false, laid := [("octant/index.noTrain", laid_octant_index_noTrain)], narrowed := true }
def IndexKnownUptoSaid : Prop := indexKnownUptoRow.holds Tryd.pinned (OpenSpec.upto indexKnownSpec)

end Rows
end Go.Proofs.YtnoahnbjdapieaaDoor
