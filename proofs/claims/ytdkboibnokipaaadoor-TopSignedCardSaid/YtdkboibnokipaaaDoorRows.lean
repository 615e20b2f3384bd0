/-
  NARROWER THAN 'FOR EVERY INPUT', by the rows' own cells (each row's printed sentence says how): WreckRestores: laid · WreckPages: laid · WreckTraces: laid · WreckSaves: laid · WreckSure: laid · WreckAsked: laid · WreckOnce: laid · WreckForged: laid · WreckBack: laid · WreckKnown: laid · TopSigned: laid.
  DERIVED. THE GIVEN ROWS OF THIS SEAT. 11 by the template 'for every input the law returns true; each argument reads behind the call as it read before'; 0 by the template 'total and deterministic' (their statements: YtdkboibnokipaaaDoorTotals.lean).
  GIVEN WITH THE SEED: the statements are not yours to turn. If you find one false, say at which input.
  Laid BY PROGRAM, IN A SANDBOX (cutbox-rows.mjs): the forced cells as the released guide's own fill.sh prints them over the translation 2fb66f07d0cfcbbb… (all of the seat's roots in one cut). By AI agents, Wed Nov 11 2026. No macro, syntax, notation, axiom, sorry.
-/
import Derived.Test.YtdkboibnokipaaaDoorChecked
import GoSem.PinnedTables
import GoSem.Claim
import GoSem.ClaimJoined
import GoSem.ClaimMapViews
import Derived.JoinedTies
import Derived.KernelRfl
namespace Go.Proofs.YtdkboibnokipaaaDoor
/- THE CELL 'sum', in the pinned program and in every row, IS THE sha256 OF THE DUMP (.gsa) THAT YtdkboibnokipaaaDoorProg.lean LOADS. Nothing in Lean hashes anything: it is a label: what it is worth is what the hold of that sum in a sandbox is worth. -/
noncomputable def Tryd.pinned : Pinned := { name := "ytdkboibnokipaaadoor", sum := "2fb66f07d0cfcbbb59c382df0771be44c3f36ffc124b9f7db29fe05f54c340b2", checked := Tryd.checked }
namespace Rows
def none {H : Type} : Left H := { results := [], args := [] }

/- WHAT THE LISTED PACKAGE-LEVEL VARIABLES READ AS WHEN THE CALL BEGINS. Each datum BY PROGRAM (the guide's laid-datum.mjs) off the statement by which the dump's own 'gosem.cut.vars' lays the variable. In a bare row this is a premise. The card (YtdkboibnokipaaaDoorCards.lean) ties it to the program's text. -/
def laid_unicode_utf8_acceptRanges {H : Type} : DataW H := .agg [.agg [.lit (.int .u8 128), .lit (.int .u8 191)], .agg [.lit (.int .u8 160), .lit (.int .u8 191)], .agg [.lit (.int .u8 128), .lit (.int .u8 159)], .agg [.lit (.int .u8 144), .lit (.int .u8 191)], .agg [.lit (.int .u8 128), .lit (.int .u8 143)], .agg [.lit (.int .u8 0), .lit (.int .u8 0)], .agg [.lit (.int .u8 0), .lit (.int .u8 0)], .agg [.lit (.int .u8 0), .lit (.int .u8 0)], .agg [.lit (.int .u8 0), .lit (.int .u8 0)], .agg [.lit (.int .u8 0), .lit (.int .u8 0)], .agg [.lit (.int .u8 0), .lit (.int .u8 0)], .agg [.lit (.int .u8 0), .lit (.int .u8 0)], .agg [.lit (.int .u8 0), .lit (.int .u8 0)], .agg [.lit (.int .u8 0), .lit (.int .u8 0)], .agg [.lit (.int .u8 0), .lit (.int .u8 0)], .agg [.lit (.int .u8 0), .lit (.int .u8 0)]]
def laid_octant_wreck_kinds {H : Type} : DataW H := .iface "func table" (.agg [.iface "func" (.lit (.string [40, 111, 99, 116, 97, 110, 116, 47, 119, 114, 101, 99, 107, 46, 98, 111, 111, 107, 41, 46, 109, 97, 100, 101])), .iface "func" (.lit (.string [40, 111, 99, 116, 97, 110, 116, 47, 119, 114, 101, 99, 107, 46, 98, 111, 111, 107, 41, 46, 109, 101, 110, 100, 101, 100])), .iface "func" (.lit (.string [40, 111, 99, 116, 97, 110, 116, 47, 119, 114, 101, 99, 107, 46, 98, 111, 111, 107, 41, 46, 97, 103, 97, 105, 110])), .iface "func" (.lit (.string [40, 111, 99, 116, 97, 110, 116, 47, 119, 114, 101, 99, 107, 46, 98, 111, 111, 107, 41, 46, 108, 111, 115, 116]))])
/-- One of Go's own tables, pinned by name: the form's constant. -/
def laid_unicode_utf8_first : DataW Unit := Go.Pinned.utf8First

/-- 'octantlaw09.WreckRestores': WHATEVER THE INPUT: true; the input reads as it did. -/
def wreckRestoresSpec : ChangeSpec := { name := "wreckRestores", fn := fun _ => fun
  | [d] => { results := [.lit (.bool true)], args := [d] }
  | _ => none }
def wreckRestoresRow : OpenClaim := { program := "ytdkboibnokipaaadoor", sum := "2fb66f07d0cfcbbb59c382df0771be44c3f36ffc124b9f7db29fe05f54c340b2", func := "octant/octantlaw09.WreckRestores", spec := "wreckRestores", inPlace := ["internal/bytealg.CountString", "internal/bytealg.IndexByteString", "internal/bytealg.IndexString", "internal/abi.NoEscape", "internal/bytealg.MakeNoZero"], unfollowed := true, recurses := true, named := ["internal/bytealg.MaxLen", "unicode/utf8.first", "unicode/utf8.acceptRanges", "octant/wreck.kinds"], plainKeys := false, apart := false, laid := [("unicode/utf8.acceptRanges", laid_unicode_utf8_acceptRanges), ("octant/wreck.kinds", laid_octant_wreck_kinds), ("unicode/utf8.first", laid_unicode_utf8_first)] }
def WreckRestoresSaid : Prop := wreckRestoresRow.holds Tryd.pinned (OpenSpec.ofChange wreckRestoresSpec)

/-- ITS FALSE NEIGHBOUR: 'it returns false'. Refute it at one input. -/
def wreckRestoresWrong : ChangeSpec := { name := "wreckRestores", fn := fun _ => fun
  | [d] => { results := [.lit (.bool false)], args := [d] }
  | _ => none }
def WreckRestoresWrongFalsely : Prop := wreckRestoresRow.holds Tryd.pinned (OpenSpec.ofChange wreckRestoresWrong)

/-- 'octantlaw09.WreckPages': WHATEVER THE INPUT: true; the input reads as it did. -/
def wreckPagesSpec : ChangeSpec := { name := "wreckPages", fn := fun _ => fun
  | [d1, d2] => { results := [.lit (.bool true)], args := [d1, d2] }
  | _ => none }
def wreckPagesRow : OpenClaim := { program := "ytdkboibnokipaaadoor", sum := "2fb66f07d0cfcbbb59c382df0771be44c3f36ffc124b9f7db29fe05f54c340b2", func := "octant/octantlaw09.WreckPages", spec := "wreckPages", inPlace := ["internal/bytealg.CountString", "internal/bytealg.IndexByteString", "internal/bytealg.IndexString", "internal/abi.NoEscape", "internal/bytealg.MakeNoZero"], unfollowed := true, recurses := true, named := ["internal/bytealg.MaxLen", "unicode/utf8.first", "unicode/utf8.acceptRanges", "octant/wreck.kinds"], plainKeys := false, apart := false, laid := [("unicode/utf8.acceptRanges", laid_unicode_utf8_acceptRanges), ("octant/wreck.kinds", laid_octant_wreck_kinds), ("unicode/utf8.first", laid_unicode_utf8_first)] }
def WreckPagesSaid : Prop := wreckPagesRow.holds Tryd.pinned (OpenSpec.ofChange wreckPagesSpec)

/-- ITS FALSE NEIGHBOUR: 'it returns false'. Refute it at one input. -/
def wreckPagesWrong : ChangeSpec := { name := "wreckPages", fn := fun _ => fun
  | [d1, d2] => { results := [.lit (.bool false)], args := [d1, d2] }
  | _ => none }
def WreckPagesWrongFalsely : Prop := wreckPagesRow.holds Tryd.pinned (OpenSpec.ofChange wreckPagesWrong)

/-- 'octantlaw09.WreckTraces': WHATEVER THE INPUT: true; the input reads as it did. -/
def wreckTracesSpec : ChangeSpec := { name := "wreckTraces", fn := fun _ => fun
  | [d1, d2, d3] => { results := [.lit (.bool true)], args := [d1, d2, d3] }
  | _ => none }
def wreckTracesRow : OpenClaim := { program := "ytdkboibnokipaaadoor", sum := "2fb66f07d0cfcbbb59c382df0771be44c3f36ffc124b9f7db29fe05f54c340b2", func := "octant/octantlaw09.WreckTraces", spec := "wreckTraces", inPlace := ["internal/bytealg.CountString", "internal/bytealg.IndexByteString", "internal/bytealg.IndexString", "internal/abi.NoEscape", "internal/bytealg.MakeNoZero"], unfollowed := true, recurses := true, named := ["octant/wreck.kinds", "internal/bytealg.MaxLen", "unicode/utf8.first", "unicode/utf8.acceptRanges"], plainKeys := false, apart := false, laid := [("unicode/utf8.acceptRanges", laid_unicode_utf8_acceptRanges), ("octant/wreck.kinds", laid_octant_wreck_kinds), ("unicode/utf8.first", laid_unicode_utf8_first)] }
def WreckTracesSaid : Prop := wreckTracesRow.holds Tryd.pinned (OpenSpec.ofChange wreckTracesSpec)

/-- ITS FALSE NEIGHBOUR: 'it returns false'. Refute it at one input. -/
def wreckTracesWrong : ChangeSpec := { name := "wreckTraces", fn := fun _ => fun
  | [d1, d2, d3] => { results := [.lit (.bool false)], args := [d1, d2, d3] }
  | _ => none }
def WreckTracesWrongFalsely : Prop := wreckTracesRow.holds Tryd.pinned (OpenSpec.ofChange wreckTracesWrong)

/-- 'octantlaw09.WreckSaves': WHATEVER THE INPUT: true; the input reads as it did. -/
def wreckSavesSpec : ChangeSpec := { name := "wreckSaves", fn := fun _ => fun
  | [d1, d2] => { results := [.lit (.bool true)], args := [d1, d2] }
  | _ => none }
def wreckSavesRow : OpenClaim := { program := "ytdkboibnokipaaadoor", sum := "2fb66f07d0cfcbbb59c382df0771be44c3f36ffc124b9f7db29fe05f54c340b2", func := "octant/octantlaw09.WreckSaves", spec := "wreckSaves", inPlace := ["internal/bytealg.CountString", "internal/bytealg.IndexByteString", "internal/bytealg.IndexString", "internal/abi.NoEscape", "internal/bytealg.MakeNoZero"], unfollowed := true, recurses := true, named := ["internal/bytealg.MaxLen", "unicode/utf8.first", "unicode/utf8.acceptRanges", "octant/wreck.kinds"], plainKeys := false, apart := false, laid := [("unicode/utf8.acceptRanges", laid_unicode_utf8_acceptRanges), ("octant/wreck.kinds", laid_octant_wreck_kinds), ("unicode/utf8.first", laid_unicode_utf8_first)] }
def WreckSavesSaid : Prop := wreckSavesRow.holds Tryd.pinned (OpenSpec.ofChange wreckSavesSpec)

/-- ITS FALSE NEIGHBOUR: 'it returns false'. Refute it at one input. -/
def wreckSavesWrong : ChangeSpec := { name := "wreckSaves", fn := fun _ => fun
  | [d1, d2] => { results := [.lit (.bool false)], args := [d1, d2] }
  | _ => none }
def WreckSavesWrongFalsely : Prop := wreckSavesRow.holds Tryd.pinned (OpenSpec.ofChange wreckSavesWrong)

/-- 'octantlaw09.WreckSure': WHATEVER THE INPUT: true; the input reads as it did. -/
def wreckSureSpec : ChangeSpec := { name := "wreckSure", fn := fun _ => fun
  | [d] => { results := [.lit (.bool true)], args := [d] }
  | _ => none }
def wreckSureRow : OpenClaim := { program := "ytdkboibnokipaaadoor", sum := "2fb66f07d0cfcbbb59c382df0771be44c3f36ffc124b9f7db29fe05f54c340b2", func := "octant/octantlaw09.WreckSure", spec := "wreckSure", inPlace := ["internal/bytealg.CountString", "internal/bytealg.IndexByteString", "internal/bytealg.IndexString", "internal/abi.NoEscape", "internal/bytealg.MakeNoZero"], unfollowed := true, recurses := true, named := ["internal/bytealg.MaxLen", "unicode/utf8.first", "unicode/utf8.acceptRanges", "octant/wreck.kinds"], plainKeys := false, apart := false, laid := [("unicode/utf8.acceptRanges", laid_unicode_utf8_acceptRanges), ("octant/wreck.kinds", laid_octant_wreck_kinds), ("unicode/utf8.first", laid_unicode_utf8_first)] }
def WreckSureSaid : Prop := wreckSureRow.holds Tryd.pinned (OpenSpec.ofChange wreckSureSpec)

/-- ITS FALSE NEIGHBOUR: 'it returns false'. Refute it at one input. -/
def wreckSureWrong : ChangeSpec := { name := "wreckSure", fn := fun _ => fun
  | [d] => { results := [.lit (.bool false)], args := [d] }
  | _ => none }
def WreckSureWrongFalsely : Prop := wreckSureRow.holds Tryd.pinned (OpenSpec.ofChange wreckSureWrong)

/-- 'octantlaw09.WreckAsked': WHATEVER THE INPUT: true; the input reads as it did. -/
def wreckAskedSpec : ChangeSpec := { name := "wreckAsked", fn := fun _ => fun
  | [d1, d2] => { results := [.lit (.bool true)], args := [d1, d2] }
  | _ => none }
def wreckAskedRow : OpenClaim := { program := "ytdkboibnokipaaadoor", sum := "2fb66f07d0cfcbbb59c382df0771be44c3f36ffc124b9f7db29fe05f54c340b2", func := "octant/octantlaw09.WreckAsked", spec := "wreckAsked", inPlace := ["internal/bytealg.CountString", "internal/bytealg.IndexByteString", "internal/bytealg.IndexString", "internal/abi.NoEscape", "internal/bytealg.MakeNoZero"], unfollowed := true, recurses := true, named := ["internal/bytealg.MaxLen", "unicode/utf8.first", "unicode/utf8.acceptRanges", "octant/wreck.kinds"], plainKeys := false, apart := false, laid := [("unicode/utf8.acceptRanges", laid_unicode_utf8_acceptRanges), ("octant/wreck.kinds", laid_octant_wreck_kinds), ("unicode/utf8.first", laid_unicode_utf8_first)] }
def WreckAskedSaid : Prop := wreckAskedRow.holds Tryd.pinned (OpenSpec.ofChange wreckAskedSpec)

/-- ITS FALSE NEIGHBOUR: 'it returns false'. Refute it at one input. -/
def wreckAskedWrong : ChangeSpec := { name := "wreckAsked", fn := fun _ => fun
  | [d1, d2] => { results := [.lit (.bool false)], args := [d1, d2] }
  | _ => none }
def WreckAskedWrongFalsely : Prop := wreckAskedRow.holds Tryd.pinned (OpenSpec.ofChange wreckAskedWrong)

/-- 'octantlaw09.WreckOnce': WHATEVER THE INPUT: true; the input reads as it did. -/
def wreckOnceSpec : ChangeSpec := { name := "wreckOnce", fn := fun _ => fun
  | [d1, d2, d3] => { results := [.lit (.bool true)], args := [d1, d2, d3] }
  | _ => none }
def wreckOnceRow : OpenClaim := { program := "ytdkboibnokipaaadoor", sum := "2fb66f07d0cfcbbb59c382df0771be44c3f36ffc124b9f7db29fe05f54c340b2", func := "octant/octantlaw09.WreckOnce", spec := "wreckOnce", inPlace := ["internal/bytealg.CountString", "internal/bytealg.IndexByteString", "internal/bytealg.IndexString", "internal/abi.NoEscape", "internal/bytealg.MakeNoZero"], unfollowed := true, recurses := true, named := ["octant/wreck.kinds", "internal/bytealg.MaxLen", "unicode/utf8.first", "unicode/utf8.acceptRanges"], plainKeys := false, apart := false, laid := [("unicode/utf8.acceptRanges", laid_unicode_utf8_acceptRanges), ("octant/wreck.kinds", laid_octant_wreck_kinds), ("unicode/utf8.first", laid_unicode_utf8_first)] }
def WreckOnceSaid : Prop := wreckOnceRow.holds Tryd.pinned (OpenSpec.ofChange wreckOnceSpec)

/-- ITS FALSE NEIGHBOUR: 'it returns false'. Refute it at one input. -/
def wreckOnceWrong : ChangeSpec := { name := "wreckOnce", fn := fun _ => fun
  | [d1, d2, d3] => { results := [.lit (.bool false)], args := [d1, d2, d3] }
  | _ => none }
def WreckOnceWrongFalsely : Prop := wreckOnceRow.holds Tryd.pinned (OpenSpec.ofChange wreckOnceWrong)

/-- 'octantlaw09.WreckForged': WHATEVER THE INPUT: true; the input reads as it did. -/
def wreckForgedSpec : ChangeSpec := { name := "wreckForged", fn := fun _ => fun
  | [d1, d2, d3] => { results := [.lit (.bool true)], args := [d1, d2, d3] }
  | _ => none }
def wreckForgedRow : OpenClaim := { program := "ytdkboibnokipaaadoor", sum := "2fb66f07d0cfcbbb59c382df0771be44c3f36ffc124b9f7db29fe05f54c340b2", func := "octant/octantlaw09.WreckForged", spec := "wreckForged", inPlace := ["internal/bytealg.CountString", "internal/bytealg.IndexByteString", "internal/bytealg.IndexString", "internal/abi.NoEscape", "internal/bytealg.MakeNoZero"], unfollowed := true, recurses := true, named := ["octant/wreck.kinds", "internal/bytealg.MaxLen", "unicode/utf8.first", "unicode/utf8.acceptRanges"], plainKeys := false, apart := false, laid := [("unicode/utf8.acceptRanges", laid_unicode_utf8_acceptRanges), ("octant/wreck.kinds", laid_octant_wreck_kinds), ("unicode/utf8.first", laid_unicode_utf8_first)] }
def WreckForgedSaid : Prop := wreckForgedRow.holds Tryd.pinned (OpenSpec.ofChange wreckForgedSpec)

/-- ITS FALSE NEIGHBOUR: 'it returns false'. Refute it at one input. -/
def wreckForgedWrong : ChangeSpec := { name := "wreckForged", fn := fun _ => fun
  | [d1, d2, d3] => { results := [.lit (.bool false)], args := [d1, d2, d3] }
  | _ => none }
def WreckForgedWrongFalsely : Prop := wreckForgedRow.holds Tryd.pinned (OpenSpec.ofChange wreckForgedWrong)

/-- 'octantlaw09.WreckBack': WHATEVER THE INPUT: true; the input reads as it did. -/
def wreckBackSpec : ChangeSpec := { name := "wreckBack", fn := fun _ => fun
  | [d1, d2] => { results := [.lit (.bool true)], args := [d1, d2] }
  | _ => none }
def wreckBackRow : OpenClaim := { program := "ytdkboibnokipaaadoor", sum := "2fb66f07d0cfcbbb59c382df0771be44c3f36ffc124b9f7db29fe05f54c340b2", func := "octant/octantlaw09.WreckBack", spec := "wreckBack", inPlace := ["internal/bytealg.CountString", "internal/bytealg.IndexByteString", "internal/bytealg.IndexString", "internal/abi.NoEscape", "internal/bytealg.MakeNoZero"], unfollowed := true, recurses := true, named := ["internal/bytealg.MaxLen", "unicode/utf8.first", "unicode/utf8.acceptRanges", "octant/wreck.kinds"], plainKeys := false, apart := false, laid := [("unicode/utf8.acceptRanges", laid_unicode_utf8_acceptRanges), ("octant/wreck.kinds", laid_octant_wreck_kinds), ("unicode/utf8.first", laid_unicode_utf8_first)] }
def WreckBackSaid : Prop := wreckBackRow.holds Tryd.pinned (OpenSpec.ofChange wreckBackSpec)

/-- ITS FALSE NEIGHBOUR: 'it returns false'. Refute it at one input. -/
def wreckBackWrong : ChangeSpec := { name := "wreckBack", fn := fun _ => fun
  | [d1, d2] => { results := [.lit (.bool false)], args := [d1, d2] }
  | _ => none }
def WreckBackWrongFalsely : Prop := wreckBackRow.holds Tryd.pinned (OpenSpec.ofChange wreckBackWrong)

/-- 'octantlaw09.WreckKnown': WHATEVER THE INPUT: true; the input reads as it did. -/
def wreckKnownSpec : ChangeSpec := { name := "wreckKnown", fn := fun _ => fun
  | [] => { results := [.lit (.bool true)], args := [] }
  | _ => none }
def wreckKnownRow : OpenClaim := { program := "ytdkboibnokipaaadoor", sum := "2fb66f07d0cfcbbb59c382df0771be44c3f36ffc124b9f7db29fe05f54c340b2", func := "octant/octantlaw09.WreckKnown", spec := "wreckKnown", inPlace := ["internal/bytealg.CountString", "internal/bytealg.IndexByteString", "internal/bytealg.IndexString", "internal/abi.NoEscape", "internal/bytealg.MakeNoZero"], unfollowed := true, recurses := true, named := ["internal/bytealg.MaxLen", "unicode/utf8.first", "unicode/utf8.acceptRanges", "octant/wreck.kinds"], plainKeys := false, apart := false, laid := [("unicode/utf8.acceptRanges", laid_unicode_utf8_acceptRanges), ("octant/wreck.kinds", laid_octant_wreck_kinds), ("unicode/utf8.first", laid_unicode_utf8_first)] }
def WreckKnownSaid : Prop := wreckKnownRow.holds Tryd.pinned (OpenSpec.ofChange wreckKnownSpec)

/-- ITS FALSE NEIGHBOUR: 'it returns false'. Refute it at one input. -/
def wreckKnownWrong : ChangeSpec := { name := "wreckKnown", fn := fun _ => fun
  | [] => { results := [.lit (.bool false)], args := [] }
  | _ => none }
def WreckKnownWrongFalsely : Prop := wreckKnownRow.holds Tryd.pinned (OpenSpec.ofChange wreckKnownWrong)

/-- 'octanttop.TopSigned': WHATEVER THE INPUT: true; the input reads as it did. -/
def topSignedSpec : ChangeSpec := { name := "topSigned", fn := fun _ => fun
  | [d1, d2, d3] => { results := [.lit (.bool true)], args := [d1, d2, d3] }
  | _ => none }
def topSignedRow : OpenClaim := { program := "ytdkboibnokipaaadoor", sum := "2fb66f07d0cfcbbb59c382df0771be44c3f36ffc124b9f7db29fe05f54c340b2", func := "octant/octanttop.TopSigned", spec := "topSigned", inPlace := ["internal/bytealg.CountString", "internal/bytealg.IndexByteString", "internal/bytealg.IndexString"], unfollowed := true, recurses := true, named := ["internal/bytealg.MaxLen", "octant/wreck.kinds"], plainKeys := false, apart := false, laid := [("octant/wreck.kinds", laid_octant_wreck_kinds)] }
def TopSignedSaid : Prop := topSignedRow.holds Tryd.pinned (OpenSpec.ofChange topSignedSpec)

/-- ITS FALSE NEIGHBOUR: 'it returns false'. Refute it at one input. -/
def topSignedWrong : ChangeSpec := { name := "topSigned", fn := fun _ => fun
  | [d1, d2, d3] => { results := [.lit (.bool false)], args := [d1, d2, d3] }
  | _ => none }
def TopSignedWrongFalsely : Prop := topSignedRow.holds Tryd.pinned (OpenSpec.ofChange topSignedWrong)

/- THE SECOND FORM. 'bulk': how many values and letters a reading holds, each counted each time it is reached (what is shared counts as often as it is met; a slice's spare places count too). A statement '..UptoSaid' is the law's where the arguments, and the package variables that the reading takes, are together of bulk at most 1048576: NARROWER than '..Said'. Prove '..Said' where nothing that the law and all that it calls make is longer than what came in: it says more and counts as full. Else prove '..UptoSaid'. A law counts once. -/
mutual
def uptoBulk {H : Type} : DataW H → Nat
  | .lit (.string bytes) => bytes.length + 1
  | .lit _ => 1
  | .nil => 1
  | .ptr d => uptoBulk d + 1
  | .slice elems spare => uptoBulkAll elems + uptoBulkAll spare + 1
  | .agg parts => uptoBulkAll parts + 1
  | .iface _ d => uptoBulk d + 1
  | .map entries => uptoBulkEntries entries + 1
  | .held _ => 1
def uptoBulkAll {H : Type} : List (DataW H) → Nat
  | [] => 0
  | d :: r => uptoBulk d + uptoBulkAll r
def uptoBulkEntries {H : Type} : List (Lit × DataW H) → Nat
  | [] => 0
  | x :: r => uptoBulkEntry x + uptoBulkEntries r
def uptoBulkEntry {H : Type} : Lit × DataW H → Nat
  | (.string bytes, d) => bytes.length + uptoBulk d + 1
  | (_, d) => uptoBulk d + 1
 end
def uptoSmall : (H : Type) → List (DataW H) → Bool := fun _ ds => decide (uptoBulkAll ds ≤ 1048576)
def OpenSpec.upto (s : _root_.Go.ChangeSpec) : _root_.Go.OpenSpec := { _root_.Go.OpenSpec.ofChange s with cond := some uptoSmall }

/-- 'octantlaw09.WreckRestores', WHERE WHAT IT READS IS OF BULK AT MOST 1048576: true; the input reads as it did. -/
def wreckRestoresUptoRow : OpenClaim := { program := "ytdkboibnokipaaadoor", sum := "2fb66f07d0cfcbbb59c382df0771be44c3f36ffc124b9f7db29fe05f54c340b2", func := "octant/octantlaw09.WreckRestores", spec := "wreckRestores", inPlace := ["internal/bytealg.CountString", "internal/bytealg.IndexByteString", "internal/bytealg.IndexString", "internal/abi.NoEscape", "internal/bytealg.MakeNoZero"], unfollowed := true, recurses := true, named := ["internal/bytealg.MaxLen", "unicode/utf8.first", "unicode/utf8.acceptRanges", "octant/wreck.kinds"], plainKeys := false, apart := false, laid := [("unicode/utf8.acceptRanges", laid_unicode_utf8_acceptRanges), ("octant/wreck.kinds", laid_octant_wreck_kinds), ("unicode/utf8.first", laid_unicode_utf8_first)], narrowed := true }
def WreckRestoresUptoSaid : Prop := wreckRestoresUptoRow.holds Tryd.pinned (OpenSpec.upto wreckRestoresSpec)

/-- 'octantlaw09.WreckPages', WHERE WHAT IT READS IS OF BULK AT MOST 1048576: true; the input reads as it did. -/
def wreckPagesUptoRow : OpenClaim := { program := "ytdkboibnokipaaadoor", sum := "2fb66f07d0cfcbbb59c382df0771be44c3f36ffc124b9f7db29fe05f54c340b2", func := "octant/octantlaw09.WreckPages", spec := "wreckPages", inPlace := ["internal/bytealg.CountString", "internal/bytealg.IndexByteString", "internal/bytealg.IndexString", "internal/abi.NoEscape", "internal/bytealg.MakeNoZero"], unfollowed := true, recurses := true, named := ["internal/bytealg.MaxLen", "unicode/utf8.first", "unicode/utf8.acceptRanges", "octant/wreck.kinds"], plainKeys := false, apart := false, laid := [("unicode/utf8.acceptRanges", laid_unicode_utf8_acceptRanges), ("octant/wreck.kinds", laid_octant_wreck_kinds), ("unicode/utf8.first", laid_unicode_utf8_first)], narrowed := true }
def WreckPagesUptoSaid : Prop := wreckPagesUptoRow.holds Tryd.pinned (OpenSpec.upto wreckPagesSpec)

/-- 'octantlaw09.WreckTraces', WHERE WHAT IT READS IS OF BULK AT MOST 1048576: true; the input reads as it did. -/
def wreckTracesUptoRow : OpenClaim := { program := "ytdkboibnokipaaadoor", sum := "2fb66f07d0cfcbbb59c382df0771be44c3f36ffc124b9f7db29fe05f54c340b2", func := "octant/octantlaw09.WreckTraces", spec := "wreckTraces", inPlace := ["internal/bytealg.CountString", "internal/bytealg.IndexByteString", "internal/bytealg.IndexString", "internal/abi.NoEscape", "internal/bytealg.MakeNoZero"], unfollowed := true, recurses := true, named := ["octant/wreck.kinds", "internal/bytealg.MaxLen", "unicode/utf8.first", "unicode/utf8.acceptRanges"], plainKeys := false, apart := false, laid := [("unicode/utf8.acceptRanges", laid_unicode_utf8_acceptRanges), ("octant/wreck.kinds", laid_octant_wreck_kinds), ("unicode/utf8.first", laid_unicode_utf8_first)], narrowed := true }
def WreckTracesUptoSaid : Prop := wreckTracesUptoRow.holds Tryd.pinned (OpenSpec.upto wreckTracesSpec)

/-- 'octantlaw09.WreckSaves', WHERE WHAT IT READS IS OF BULK AT MOST 1048576: true; the input reads as it did. -/
def wreckSavesUptoRow : OpenClaim := { program := "ytdkboibnokipaaadoor", sum := "2fb66f07d0cfcbbb59c382df0771be44c3f36ffc124b9f7db29fe05f54c340b2", func := "octant/octantlaw09.WreckSaves", spec := "wreckSaves", inPlace := ["internal/bytealg.CountString", "internal/bytealg.IndexByteString", "internal/bytealg.IndexString", "internal/abi.NoEscape", "internal/bytealg.MakeNoZero"], unfollowed := true, recurses := true, named := ["internal/bytealg.MaxLen", "unicode/utf8.first", "unicode/utf8.acceptRanges", "octant/wreck.kinds"], plainKeys := false, apart := false, laid := [("unicode/utf8.acceptRanges", laid_unicode_utf8_acceptRanges), ("octant/wreck.kinds", laid_octant_wreck_kinds), ("unicode/utf8.first", laid_unicode_utf8_first)], narrowed := true }
def WreckSavesUptoSaid : Prop := wreckSavesUptoRow.holds Tryd.pinned (OpenSpec.upto wreckSavesSpec)

/-- 'octantlaw09.WreckSure', WHERE WHAT IT READS IS OF BULK AT MOST 1048576: true; the input reads as it did. -/
def wreckSureUptoRow : OpenClaim := { program := "ytdkboibnokipaaadoor", sum := "2fb66f07d0cfcbbb59c382df0771be44c3f36ffc124b9f7db29fe05f54c340b2", func := "octant/octantlaw09.WreckSure", spec := "wreckSure", inPlace := ["internal/bytealg.CountString", "internal/bytealg.IndexByteString", "internal/bytealg.IndexString", "internal/abi.NoEscape", "internal/bytealg.MakeNoZero"], unfollowed := true, recurses := true, named := ["internal/bytealg.MaxLen", "unicode/utf8.first", "unicode/utf8.acceptRanges", "octant/wreck.kinds"], plainKeys := false, apart := false, laid := [("unicode/utf8.acceptRanges", laid_unicode_utf8_acceptRanges), ("octant/wreck.kinds", laid_octant_wreck_kinds), ("unicode/utf8.first", laid_unicode_utf8_first)], narrowed := true }
def WreckSureUptoSaid : Prop := wreckSureUptoRow.holds Tryd.pinned (OpenSpec.upto wreckSureSpec)

/-- 'octantlaw09.WreckAsked', WHERE WHAT IT READS IS OF BULK AT MOST 1048576: true; the input reads as it did. -/
def wreckAskedUptoRow : OpenClaim := { program := "ytdkboibnokipaaadoor", sum := "2fb66f07d0cfcbbb59c382df0771be44c3f36ffc124b9f7db29fe05f54c340b2", func := "octant/octantlaw09.WreckAsked", spec := "wreckAsked", inPlace := ["internal/bytealg.CountString", "internal/bytealg.IndexByteString", "internal/bytealg.IndexString", "internal/abi.NoEscape", "internal/bytealg.MakeNoZero"], unfollowed := true, recurses := true, named := ["internal/bytealg.MaxLen", "unicode/utf8.first", "unicode/utf8.acceptRanges", "octant/wreck.kinds"], plainKeys := false, apart := false, laid := [("unicode/utf8.acceptRanges", laid_unicode_utf8_acceptRanges), ("octant/wreck.kinds", laid_octant_wreck_kinds), ("unicode/utf8.first", laid_unicode_utf8_first)], narrowed := true }
def WreckAskedUptoSaid : Prop := wreckAskedUptoRow.holds Tryd.pinned (OpenSpec.upto wreckAskedSpec)

/-- 'octantlaw09.WreckOnce', WHERE WHAT IT READS IS OF BULK AT MOST 1048576: true; the input reads as it did. -/
def wreckOnceUptoRow : OpenClaim := { program := "ytdkboibnokipaaadoor", sum := "2fb66f07d0cfcbbb59c382df0771be44c3f36ffc124b9f7db29fe05f54c340b2", func := "octant/octantlaw09.WreckOnce", spec := "wreckOnce", inPlace := ["internal/bytealg.CountString", "internal/bytealg.IndexByteString", "internal/bytealg.IndexString", "internal/abi.NoEscape", "internal/bytealg.MakeNoZero"], unfollowed := true, recurses := true, named := ["octant/wreck.kinds", "internal/bytealg.MaxLen", "unicode/utf8.first", "unicode/utf8.acceptRanges"], plainKeys := false, apart := false, laid := [("unicode/utf8.acceptRanges", laid_unicode_utf8_acceptRanges), ("octant/wreck.kinds", laid_octant_wreck_kinds), ("unicode/utf8.first", laid_unicode_utf8_first)], narrowed := true }
def WreckOnceUptoSaid : Prop := wreckOnceUptoRow.holds Tryd.pinned (OpenSpec.upto wreckOnceSpec)

/-- 'octantlaw09.WreckForged', WHERE WHAT IT READS IS OF BULK AT MOST 1048576: true; the input reads as it did. -/
def wreckForgedUptoRow : OpenClaim := { program := "ytdkboibnokipaaadoor", sum := "2fb66f07d0cfcbbb59c382df0771be44c3f36ffc124b9f7db29fe05f54c340b2", func := "octant/octantlaw09.WreckForged", spec := "wreckForged", inPlace := ["internal/bytealg.CountString", "internal/bytealg.IndexByteString", "internal/bytealg.IndexString", "internal/abi.NoEscape", "internal/bytealg.MakeNoZero"], unfollowed := true, recurses := true, named := ["octant/wreck.kinds", "internal/bytealg.MaxLen", "unicode/utf8.first", "unicode/utf8.acceptRanges"], plainKeys := false, apart := false, laid := [("unicode/utf8.acceptRanges", laid_unicode_utf8_acceptRanges), ("octant/wreck.kinds", laid_octant_wreck_kinds), ("unicode/utf8.first", laid_unicode_utf8_first)], narrowed := true }
def WreckForgedUptoSaid : Prop := wreckForgedUptoRow.holds Tryd.pinned (OpenSpec.upto wreckForgedSpec)

/-- 'octantlaw09.WreckBack', WHERE WHAT IT READS IS OF BULK AT MOST 1048576: true; the input reads as it did. -/
def wreckBackUptoRow : OpenClaim := { program := "ytdkboibnokipaaadoor", sum := "2fb66f07d0cfcbbb59c382df0771be44c3f36ffc124b9f7db29fe05f54c340b2", func := "octant/octantlaw09.WreckBack", spec := "wreckBack", inPlace := ["internal/bytealg.CountString", "internal/bytealg.IndexByteString", "internal/bytealg.IndexString", "internal/abi.NoEscape", "internal/bytealg.MakeNoZero"], unfollowed := true, recurses := true, named := ["internal/bytealg.MaxLen", "unicode/utf8.first", "unicode/utf8.acceptRanges", "octant/wreck.kinds"], plainKeys := false, apart := false, laid := [("unicode/utf8.acceptRanges", laid_unicode_utf8_acceptRanges), ("octant/wreck.kinds", laid_octant_wreck_kinds), ("unicode/utf8.first", laid_unicode_utf8_first)], narrowed := true }
def WreckBackUptoSaid : Prop := wreckBackUptoRow.holds Tryd.pinned (OpenSpec.upto wreckBackSpec)

/-- 'octantlaw09.WreckKnown', WHERE WHAT IT READS IS OF BULK AT MOST 1048576: true; the input reads as it did. -/
def wreckKnownUptoRow : OpenClaim := { program := "ytdkboibnokipaaadoor", sum := "2fb66f07d0cfcbbb59c382df0771be44c3f36ffc124b9f7db29fe05f54c340b2", func := "octant/octantlaw09.WreckKnown", spec := "wreckKnown", inPlace := ["internal/bytealg.CountString", "internal/bytealg.IndexByteString", "internal/bytealg.IndexString", "internal/abi.NoEscape", "internal/bytealg.MakeNoZero"], unfollowed := true, recurses := true, named := ["internal/bytealg.MaxLen", "unicode/utf8.first", "unicode/utf8.acceptRanges", "octant/wreck.kinds"], plainKeys := false, apart := false, laid := [("unicode/utf8.acceptRanges", laid_unicode_utf8_acceptRanges), ("octant/wreck.kinds", laid_octant_wreck_kinds), ("unicode/utf8.first", laid_unicode_utf8_first)], narrowed := true }
def WreckKnownUptoSaid : Prop := wreckKnownUptoRow.holds Tryd.pinned (OpenSpec.upto wreckKnownSpec)

/-- 'octanttop.TopSigned', WHERE WHAT IT READS IS OF BULK AT MOST 1048576: true; the input reads as it did. -/
def topSignedUptoRow : OpenClaim := { program := "ytdkboibnokipaaadoor", sum := "2fb66f07d0cfcbbb59c382df0771be44c3f36ffc124b9f7db29fe05f54c340b2", func := "octant/octanttop.TopSigned", spec := "topSigned", inPlace := ["internal/bytealg.CountString", "internal/bytealg.IndexByteString", "internal/bytealg.IndexString"], unfollowed := true, recurses := true, named := ["internal/bytealg.MaxLen", "octant/wreck.kinds"], plainKeys := false, apart := false, laid := [("octant/wreck.kinds", laid_octant_wreck_kinds)], narrowed := true }
def TopSignedUptoSaid : Prop := topSignedUptoRow.holds Tryd.pinned (OpenSpec.upto topSignedSpec)

end Rows
end Go.Proofs.YtdkboibnokipaaaDoor
