/-
  No cell of these rows narrows 'for every input' (looked for: loops, veiled, ifaces, maps, wideKeys, modest, calm, conditions, laid).
  DERIVED. THE GIVEN ROWS OF THIS SEAT. 13 by the template 'for every input the law returns true; each argument reads behind the call as it read before'; 0 by the template 'total and deterministic' (their statements: YtgofljmnlfnlnaaTotals.lean).
  GIVEN WITH THE SEED: the statements are not yours to turn. If you find one false, say at which input.
  Laid BY PROGRAM, IN A SANDBOX (cutbox-rows.mjs): the forced cells as the released guide's own fill.sh prints them over the translation 5227020b950b5cc1… (all of the seat's roots in one cut). By AI agents, Wed Nov 11 2026. No macro, syntax, notation, axiom, sorry.
-/
import Derived.Test.YtgofljmnlfnlnaaChecked
import GoSem.Claim
import GoSem.ClaimJoined
import GoSem.ClaimMapViews
import Derived.JoinedTies
import Derived.KernelRfl
namespace Go.Proofs.Ytgofljmnlfnlnaa
/- THE CELL 'sum', in the pinned program and in every row, IS THE sha256 OF THE DUMP (.gsa) THAT YtgofljmnlfnlnaaProg.lean LOADS. Nothing in Lean hashes anything: it is a label: what it is worth is what the hold of that sum in a sandbox is worth. -/
noncomputable def Try.pinned : Pinned := { name := "ytgofljmnlfnlnaa", sum := "5227020b950b5cc101314b43dd37ebc19a6f041d023e65df431a9751de2f8103", checked := Try.checked }
namespace Rows
def none {H : Type} : Left H := { results := [], args := [] }

/-- 'octantlaw03.LevelTilts': WHATEVER THE INPUT: true; the input reads as it did. -/
def levelTiltsSpec : ChangeSpec := { name := "levelTilts", fn := fun _ => fun
  | [d1, d2, d3] => { results := [.lit (.bool true)], args := [d1, d2, d3] }
  | _ => none }
def levelTiltsRow : OpenClaim := { program := "ytgofljmnlfnlnaa", sum := "5227020b950b5cc101314b43dd37ebc19a6f041d023e65df431a9751de2f8103", func := "octant/octantlaw03.LevelTilts", spec := "levelTilts", unfollowed := true, recurses := true, apart := false }
def LevelTiltsSaid : Prop := levelTiltsRow.holds Try.pinned (OpenSpec.ofChange levelTiltsSpec)

/-- ITS FALSE NEIGHBOUR: 'it returns false'. Refute it at one input. -/
def levelTiltsWrong : ChangeSpec := { name := "levelTilts", fn := fun _ => fun
  | [d1, d2, d3] => { results := [.lit (.bool false)], args := [d1, d2, d3] }
  | _ => none }
def LevelTiltsWrongFalsely : Prop := levelTiltsRow.holds Try.pinned (OpenSpec.ofChange levelTiltsWrong)

/-- 'octantlaw03.LevelFalse': WHATEVER THE INPUT: true; the input reads as it did. -/
def levelFalseSpec : ChangeSpec := { name := "levelFalse", fn := fun _ => fun
  | [d1, d2] => { results := [.lit (.bool true)], args := [d1, d2] }
  | _ => none }
def levelFalseRow : OpenClaim := { program := "ytgofljmnlfnlnaa", sum := "5227020b950b5cc101314b43dd37ebc19a6f041d023e65df431a9751de2f8103", func := "octant/octantlaw03.LevelFalse", spec := "levelFalse", unfollowed := true, recurses := true, apart := false }
def LevelFalseSaid : Prop := levelFalseRow.holds Try.pinned (OpenSpec.ofChange levelFalseSpec)

/-- ITS FALSE NEIGHBOUR: 'it returns false'. Refute it at one input. -/
def levelFalseWrong : ChangeSpec := { name := "levelFalse", fn := fun _ => fun
  | [d1, d2] => { results := [.lit (.bool false)], args := [d1, d2] }
  | _ => none }
def LevelFalseWrongFalsely : Prop := levelFalseRow.holds Try.pinned (OpenSpec.ofChange levelFalseWrong)

/-- 'octantlaw03.LevelNext': WHATEVER THE INPUT: true; the input reads as it did. -/
def levelNextSpec : ChangeSpec := { name := "levelNext", fn := fun _ => fun
  | [d1, d2] => { results := [.lit (.bool true)], args := [d1, d2] }
  | _ => none }
def levelNextRow : OpenClaim := { program := "ytgofljmnlfnlnaa", sum := "5227020b950b5cc101314b43dd37ebc19a6f041d023e65df431a9751de2f8103", func := "octant/octantlaw03.LevelNext", spec := "levelNext", unfollowed := true, recurses := true, apart := false }
def LevelNextSaid : Prop := levelNextRow.holds Try.pinned (OpenSpec.ofChange levelNextSpec)

/-- ITS FALSE NEIGHBOUR: 'it returns false'. Refute it at one input. -/
def levelNextWrong : ChangeSpec := { name := "levelNext", fn := fun _ => fun
  | [d1, d2] => { results := [.lit (.bool false)], args := [d1, d2] }
  | _ => none }
def LevelNextWrongFalsely : Prop := levelNextRow.holds Try.pinned (OpenSpec.ofChange levelNextWrong)

/-- 'octantlaw03.LevelClicks': WHATEVER THE INPUT: true; the input reads as it did. -/
def levelClicksSpec : ChangeSpec := { name := "levelClicks", fn := fun _ => fun
  | [d1, d2, d3] => { results := [.lit (.bool true)], args := [d1, d2, d3] }
  | _ => none }
def levelClicksRow : OpenClaim := { program := "ytgofljmnlfnlnaa", sum := "5227020b950b5cc101314b43dd37ebc19a6f041d023e65df431a9751de2f8103", func := "octant/octantlaw03.LevelClicks", spec := "levelClicks", unfollowed := true, recurses := true, apart := false }
def LevelClicksSaid : Prop := levelClicksRow.holds Try.pinned (OpenSpec.ofChange levelClicksSpec)

/-- ITS FALSE NEIGHBOUR: 'it returns false'. Refute it at one input. -/
def levelClicksWrong : ChangeSpec := { name := "levelClicks", fn := fun _ => fun
  | [d1, d2, d3] => { results := [.lit (.bool false)], args := [d1, d2, d3] }
  | _ => none }
def LevelClicksWrongFalsely : Prop := levelClicksRow.holds Try.pinned (OpenSpec.ofChange levelClicksWrong)

/-- 'octantlaw03.LevelChoices': WHATEVER THE INPUT: true; the input reads as it did. -/
def levelChoicesSpec : ChangeSpec := { name := "levelChoices", fn := fun _ => fun
  | [d1, d2, d3] => { results := [.lit (.bool true)], args := [d1, d2, d3] }
  | _ => none }
def levelChoicesRow : OpenClaim := { program := "ytgofljmnlfnlnaa", sum := "5227020b950b5cc101314b43dd37ebc19a6f041d023e65df431a9751de2f8103", func := "octant/octantlaw03.LevelChoices", spec := "levelChoices", unfollowed := true, recurses := true, apart := false }
def LevelChoicesSaid : Prop := levelChoicesRow.holds Try.pinned (OpenSpec.ofChange levelChoicesSpec)

/-- ITS FALSE NEIGHBOUR: 'it returns false'. Refute it at one input. -/
def levelChoicesWrong : ChangeSpec := { name := "levelChoices", fn := fun _ => fun
  | [d1, d2, d3] => { results := [.lit (.bool false)], args := [d1, d2, d3] }
  | _ => none }
def LevelChoicesWrongFalsely : Prop := levelChoicesRow.holds Try.pinned (OpenSpec.ofChange levelChoicesWrong)

/-- 'octantlaw03.LevelBubble': WHATEVER THE INPUT: true; the input reads as it did. -/
def levelBubbleSpec : ChangeSpec := { name := "levelBubble", fn := fun _ => fun
  | [d1, d2, d3] => { results := [.lit (.bool true)], args := [d1, d2, d3] }
  | _ => none }
def levelBubbleRow : OpenClaim := { program := "ytgofljmnlfnlnaa", sum := "5227020b950b5cc101314b43dd37ebc19a6f041d023e65df431a9751de2f8103", func := "octant/octantlaw03.LevelBubble", spec := "levelBubble", unfollowed := true, recurses := true, apart := false }
def LevelBubbleSaid : Prop := levelBubbleRow.holds Try.pinned (OpenSpec.ofChange levelBubbleSpec)

/-- ITS FALSE NEIGHBOUR: 'it returns false'. Refute it at one input. -/
def levelBubbleWrong : ChangeSpec := { name := "levelBubble", fn := fun _ => fun
  | [d1, d2, d3] => { results := [.lit (.bool false)], args := [d1, d2, d3] }
  | _ => none }
def LevelBubbleWrongFalsely : Prop := levelBubbleRow.holds Try.pinned (OpenSpec.ofChange levelBubbleWrong)

/-- 'octantlaw03.LevelEnds': WHATEVER THE INPUT: true; the input reads as it did. -/
def levelEndsSpec : ChangeSpec := { name := "levelEnds", fn := fun _ => fun
  | [d1, d2] => { results := [.lit (.bool true)], args := [d1, d2] }
  | _ => none }
def levelEndsRow : OpenClaim := { program := "ytgofljmnlfnlnaa", sum := "5227020b950b5cc101314b43dd37ebc19a6f041d023e65df431a9751de2f8103", func := "octant/octantlaw03.LevelEnds", spec := "levelEnds", unfollowed := true, recurses := true, apart := false }
def LevelEndsSaid : Prop := levelEndsRow.holds Try.pinned (OpenSpec.ofChange levelEndsSpec)

/-- ITS FALSE NEIGHBOUR: 'it returns false'. Refute it at one input. -/
def levelEndsWrong : ChangeSpec := { name := "levelEnds", fn := fun _ => fun
  | [d1, d2] => { results := [.lit (.bool false)], args := [d1, d2] }
  | _ => none }
def LevelEndsWrongFalsely : Prop := levelEndsRow.holds Try.pinned (OpenSpec.ofChange levelEndsWrong)

/-- 'octantlaw03.LevelTurned': WHATEVER THE INPUT: true; the input reads as it did. -/
def levelTurnedSpec : ChangeSpec := { name := "levelTurned", fn := fun _ => fun
  | [d1, d2, d3] => { results := [.lit (.bool true)], args := [d1, d2, d3] }
  | _ => none }
def levelTurnedRow : OpenClaim := { program := "ytgofljmnlfnlnaa", sum := "5227020b950b5cc101314b43dd37ebc19a6f041d023e65df431a9751de2f8103", func := "octant/octantlaw03.LevelTurned", spec := "levelTurned", unfollowed := true, recurses := true, apart := false }
def LevelTurnedSaid : Prop := levelTurnedRow.holds Try.pinned (OpenSpec.ofChange levelTurnedSpec)

/-- ITS FALSE NEIGHBOUR: 'it returns false'. Refute it at one input. -/
def levelTurnedWrong : ChangeSpec := { name := "levelTurned", fn := fun _ => fun
  | [d1, d2, d3] => { results := [.lit (.bool false)], args := [d1, d2, d3] }
  | _ => none }
def LevelTurnedWrongFalsely : Prop := levelTurnedRow.holds Try.pinned (OpenSpec.ofChange levelTurnedWrong)

/-- 'octantlaw03.LevelAccused': WHATEVER THE INPUT: true; the input reads as it did. -/
def levelAccusedSpec : ChangeSpec := { name := "levelAccused", fn := fun _ => fun
  | [d1, d2, d3] => { results := [.lit (.bool true)], args := [d1, d2, d3] }
  | _ => none }
def levelAccusedRow : OpenClaim := { program := "ytgofljmnlfnlnaa", sum := "5227020b950b5cc101314b43dd37ebc19a6f041d023e65df431a9751de2f8103", func := "octant/octantlaw03.LevelAccused", spec := "levelAccused", unfollowed := true, recurses := true, apart := false }
def LevelAccusedSaid : Prop := levelAccusedRow.holds Try.pinned (OpenSpec.ofChange levelAccusedSpec)

/-- ITS FALSE NEIGHBOUR: 'it returns false'. Refute it at one input. -/
def levelAccusedWrong : ChangeSpec := { name := "levelAccused", fn := fun _ => fun
  | [d1, d2, d3] => { results := [.lit (.bool false)], args := [d1, d2, d3] }
  | _ => none }
def LevelAccusedWrongFalsely : Prop := levelAccusedRow.holds Try.pinned (OpenSpec.ofChange levelAccusedWrong)

/-- 'octantlaw03.LevelNarrower': WHATEVER THE INPUT: true; the input reads as it did. -/
def levelNarrowerSpec : ChangeSpec := { name := "levelNarrower", fn := fun _ => fun
  | [d1, d2, d3] => { results := [.lit (.bool true)], args := [d1, d2, d3] }
  | _ => none }
def levelNarrowerRow : OpenClaim := { program := "ytgofljmnlfnlnaa", sum := "5227020b950b5cc101314b43dd37ebc19a6f041d023e65df431a9751de2f8103", func := "octant/octantlaw03.LevelNarrower", spec := "levelNarrower", unfollowed := true, recurses := true, apart := false }
def LevelNarrowerSaid : Prop := levelNarrowerRow.holds Try.pinned (OpenSpec.ofChange levelNarrowerSpec)

/-- ITS FALSE NEIGHBOUR: 'it returns false'. Refute it at one input. -/
def levelNarrowerWrong : ChangeSpec := { name := "levelNarrower", fn := fun _ => fun
  | [d1, d2, d3] => { results := [.lit (.bool false)], args := [d1, d2, d3] }
  | _ => none }
def LevelNarrowerWrongFalsely : Prop := levelNarrowerRow.holds Try.pinned (OpenSpec.ofChange levelNarrowerWrong)

/-- 'octantlaw03.LevelSet': WHATEVER THE INPUT: true; the input reads as it did. -/
def levelSetSpec : ChangeSpec := { name := "levelSet", fn := fun _ => fun
  | [d1, d2, d3, d4] => { results := [.lit (.bool true)], args := [d1, d2, d3, d4] }
  | _ => none }
def levelSetRow : OpenClaim := { program := "ytgofljmnlfnlnaa", sum := "5227020b950b5cc101314b43dd37ebc19a6f041d023e65df431a9751de2f8103", func := "octant/octantlaw03.LevelSet", spec := "levelSet", unfollowed := true, recurses := true, apart := false }
def LevelSetSaid : Prop := levelSetRow.holds Try.pinned (OpenSpec.ofChange levelSetSpec)

/-- ITS FALSE NEIGHBOUR: 'it returns false'. Refute it at one input. -/
def levelSetWrong : ChangeSpec := { name := "levelSet", fn := fun _ => fun
  | [d1, d2, d3, d4] => { results := [.lit (.bool false)], args := [d1, d2, d3, d4] }
  | _ => none }
def LevelSetWrongFalsely : Prop := levelSetRow.holds Try.pinned (OpenSpec.ofChange levelSetWrong)

/-- 'octantlaw03.LevelDoes': WHATEVER THE INPUT: true; the input reads as it did. -/
def levelDoesSpec : ChangeSpec := { name := "levelDoes", fn := fun _ => fun
  | [d1, d2, d3, d4] => { results := [.lit (.bool true)], args := [d1, d2, d3, d4] }
  | _ => none }
def levelDoesRow : OpenClaim := { program := "ytgofljmnlfnlnaa", sum := "5227020b950b5cc101314b43dd37ebc19a6f041d023e65df431a9751de2f8103", func := "octant/octantlaw03.LevelDoes", spec := "levelDoes", unfollowed := true, recurses := true, apart := false }
def LevelDoesSaid : Prop := levelDoesRow.holds Try.pinned (OpenSpec.ofChange levelDoesSpec)

/-- ITS FALSE NEIGHBOUR: 'it returns false'. Refute it at one input. -/
def levelDoesWrong : ChangeSpec := { name := "levelDoes", fn := fun _ => fun
  | [d1, d2, d3, d4] => { results := [.lit (.bool false)], args := [d1, d2, d3, d4] }
  | _ => none }
def LevelDoesWrongFalsely : Prop := levelDoesRow.holds Try.pinned (OpenSpec.ofChange levelDoesWrong)

/-- 'octantlaw03.LevelKnown': WHATEVER THE INPUT: true; the input reads as it did. -/
def levelKnownSpec : ChangeSpec := { name := "levelKnown", fn := fun _ => fun
  | [] => { results := [.lit (.bool true)], args := [] }
  | _ => none }
def levelKnownRow : OpenClaim := { program := "ytgofljmnlfnlnaa", sum := "5227020b950b5cc101314b43dd37ebc19a6f041d023e65df431a9751de2f8103", func := "octant/octantlaw03.LevelKnown", spec := "levelKnown", unfollowed := true, recurses := true, apart := false }
def LevelKnownSaid : Prop := levelKnownRow.holds Try.pinned (OpenSpec.ofChange levelKnownSpec)

/-- ITS FALSE NEIGHBOUR: 'it returns false'. Refute it at one input. -/
def levelKnownWrong : ChangeSpec := { name := "levelKnown", fn := fun _ => fun
  | [] => { results := [.lit (.bool false)], args := [] }
  | _ => none }
def LevelKnownWrongFalsely : Prop := levelKnownRow.holds Try.pinned (OpenSpec.ofChange levelKnownWrong)

/- THE SECOND FORM. 'bulk': how many values and letters a reading holds, each counted each time it is reached (what is shared counts as often as it is met; a slice's spare places count too). A statement '..UptoSaid' is the law's where the arguments, and the package variables that the reading takes, are together of bulk at most 1048576: NARROWER than '..Said'. Prove '..Said' where nothing that the law and all that it calls make is longer than what came in: it says more and counts as full. Else prove '..UptoSaid'. A law counts once. -/
mutual
def uptoBulk {H : Type} : DataW H → Nat
  | .lit (.string bytes) => bytes.length + 1
  | .lit _ => 1
  | .nil => 1
  | .ptr d => uptoBulk d + 1
  | .slice elems spare => uptoBulkAll elems + uptoBulkAll spare + 1
  | .agg parts => uptoBulkAll parts + 1
  | .iface _ d => uptoBulk d + 1
  | .map entries => uptoBulkEntries entries + 1
  | .held _ => 1
def uptoBulkAll {H : Type} : List (DataW H) → Nat
  | [] => 0
  | d :: r => uptoBulk d + uptoBulkAll r
def uptoBulkEntries {H : Type} : List (Lit × DataW H) → Nat
  | [] => 0
  | x :: r => uptoBulkEntry x + uptoBulkEntries r
def uptoBulkEntry {H : Type} : Lit × DataW H → Nat
  | (.string bytes, d) => bytes.length + uptoBulk d + 1
  | (_, d) => uptoBulk d + 1
 end
def uptoSmall : (H : Type) → List (DataW H) → Bool := fun _ ds => decide (uptoBulkAll ds ≤ 1048576)
def OpenSpec.upto (s : _root_.Go.ChangeSpec) : _root_.Go.OpenSpec := { _root_.Go.OpenSpec.ofChange s with cond := some uptoSmall }

/-- 'octantlaw03.LevelTilts', WHERE WHAT IT READS IS OF BULK AT MOST 1048576: true; the input reads as it did. -/
def levelTiltsUptoRow : OpenClaim := { program := "ytgofljmnlfnlnaa", sum := "5227020b950b5cc101314b43dd37ebc19a6f041d023e65df431a9751de2f8103", func := "octant/octantlaw03.LevelTilts", spec := "levelTilts", unfollowed := true, recurses := true, apart := false, narrowed := true }
def LevelTiltsUptoSaid : Prop := levelTiltsUptoRow.holds Try.pinned (OpenSpec.upto levelTiltsSpec)

/-- 'octantlaw03.LevelFalse', WHERE WHAT IT READS IS OF BULK AT MOST 1048576: true; the input reads as it did. -/
def levelFalseUptoRow : OpenClaim := { program := "ytgofljmnlfnlnaa", sum := "5227020b950b5cc101314b43dd37ebc19a6f041d023e65df431a9751de2f8103", func := "octant/octantlaw03.LevelFalse", spec := "levelFalse", unfollowed := true, recurses := true, apart := false, narrowed := true }
def LevelFalseUptoSaid : Prop := levelFalseUptoRow.holds Try.pinned (OpenSpec.upto levelFalseSpec)

/-- 'octantlaw03.LevelNext', WHERE WHAT IT READS IS OF BULK AT MOST 1048576: true; the input reads as it did. -/
def levelNextUptoRow : OpenClaim := { program := "ytgofljmnlfnlnaa", sum := "5227020b950b5cc101314b43dd37ebc19a6f041d023e65df431a9751de2f8103", func := "octant/octantlaw03.LevelNext", spec := "levelNext", unfollowed := true, recurses := true, apart := false, narrowed := true }
def LevelNextUptoSaid : Prop := levelNextUptoRow.holds Try.pinned (OpenSpec.upto levelNextSpec)

/-- 'octantlaw03.LevelClicks', WHERE WHAT IT READS IS OF BULK AT MOST 1048576: true; the input reads as it did. -/
def levelClicksUptoRow : OpenClaim := { program := "ytgofljmnlfnlnaa", sum := "5227020b950b5cc101314b43dd37ebc19a6f041d023e65df431a9751de2f8103", func := "octant/octantlaw03.LevelClicks", spec := "levelClicks", unfollowed := true, recurses := true, apart := false, narrowed := true }
def LevelClicksUptoSaid : Prop := levelClicksUptoRow.holds Try.pinned (OpenSpec.upto levelClicksSpec)

/-- 'octantlaw03.LevelChoices', WHERE WHAT IT READS IS OF BULK AT MOST 1048576: true; the input reads as it did. -/
def levelChoicesUptoRow : OpenClaim := { program := "ytgofljmnlfnlnaa", sum := "5227020b950b5cc101314b43dd37ebc19a6f041d023e65df431a9751de2f8103", func := "octant/octantlaw03.LevelChoices", spec := "levelChoices", unfollowed := true, recurses := true, apart := false, narrowed := true }
def LevelChoicesUptoSaid : Prop := levelChoicesUptoRow.holds Try.pinned (OpenSpec.upto levelChoicesSpec)

/-- 'octantlaw03.LevelBubble', WHERE WHAT IT READS IS OF BULK AT MOST 1048576: true; the input reads as it did. -/
def levelBubbleUptoRow : OpenClaim := { program := "ytgofljmnlfnlnaa", sum := "5227020b950b5cc101314b43dd37ebc19a6f041d023e65df431a9751de2f8103", func := "octant/octantlaw03.LevelBubble", spec := "levelBubble", unfollowed := true, recurses := true, apart := false, narrowed := true }
def LevelBubbleUptoSaid : Prop := levelBubbleUptoRow.holds Try.pinned (OpenSpec.upto levelBubbleSpec)

/-- 'octantlaw03.LevelEnds', WHERE WHAT IT READS IS OF BULK AT MOST 1048576: true; the input reads as it did. -/
def levelEndsUptoRow : OpenClaim := { program := "ytgofljmnlfnlnaa", sum := "5227020b950b5cc101314b43dd37ebc19a6f041d023e65df431a9751de2f8103", func := "octant/octantlaw03.LevelEnds", spec := "levelEnds", unfollowed := true, recurses := true, apart := false, narrowed := true }
def LevelEndsUptoSaid : Prop := levelEndsUptoRow.holds Try.pinned (OpenSpec.upto levelEndsSpec)

/-- 'octantlaw03.LevelTurned', WHERE WHAT IT READS IS OF BULK AT MOST 1048576: true; the input reads as it did. -/
def levelTurnedUptoRow : OpenClaim := { program := "ytgofljmnlfnlnaa", sum := "5227020b950b5cc101314b43dd37ebc19a6f041d023e65df431a9751de2f8103", func := "octant/octantlaw03.LevelTurned", spec := "levelTurned", unfollowed := true, recurses := true, apart := false, narrowed := true }
def LevelTurnedUptoSaid : Prop := levelTurnedUptoRow.holds Try.pinned (OpenSpec.upto levelTurnedSpec)

/-- 'octantlaw03.LevelAccused', WHERE WHAT IT READS IS OF BULK AT MOST 1048576: true; the input reads as it did. -/
def levelAccusedUptoRow : OpenClaim := { program := "ytgofljmnlfnlnaa", sum := "5227020b950b5cc101314b43dd37ebc19a6f041d023e65df431a9751de2f8103", func := "octant/octantlaw03.LevelAccused", spec := "levelAccused", unfollowed := true, recurses := true, apart := false, narrowed := true }
def LevelAccusedUptoSaid : Prop := levelAccusedUptoRow.holds Try.pinned (OpenSpec.upto levelAccusedSpec)

/-- 'octantlaw03.LevelNarrower', WHERE WHAT IT READS IS OF BULK AT MOST 1048576: true; the input reads as it did. -/
def levelNarrowerUptoRow : OpenClaim := { program := "ytgofljmnlfnlnaa", sum := "5227020b950b5cc101314b43dd37ebc19a6f041d023e65df431a9751de2f8103", func := "octant/octantlaw03.LevelNarrower", spec := "levelNarrower", unfollowed := true, recurses := true, apart := false, narrowed := true }
def LevelNarrowerUptoSaid : Prop := levelNarrowerUptoRow.holds Try.pinned (OpenSpec.upto levelNarrowerSpec)

/-- 'octantlaw03.LevelSet', WHERE WHAT IT READS IS OF BULK AT MOST 1048576: true; the input reads as it did. -/
def levelSetUptoRow : OpenClaim := { program := "ytgofljmnlfnlnaa", sum := "5227020b950b5cc101314b43dd37ebc19a6f041d023e65df431a9751de2f8103", func := "octant/octantlaw03.LevelSet", spec := "levelSet", unfollowed := true, recurses := true, apart := false, narrowed := true }
def LevelSetUptoSaid : Prop := levelSetUptoRow.holds Try.pinned (OpenSpec.upto levelSetSpec)

/-- 'octantlaw03.LevelDoes', WHERE WHAT IT READS IS OF BULK AT MOST 1048576: true; the input reads as it did. -/
def levelDoesUptoRow : OpenClaim := { program := "ytgofljmnlfnlnaa", sum := "5227020b950b5cc101314b43dd37ebc19a6f041d023e65df431a9751de2f8103", func := "octant/octantlaw03.LevelDoes", spec := "levelDoes", unfollowed := true, recurses := true, apart := false, narrowed := true }
def LevelDoesUptoSaid : Prop := levelDoesUptoRow.holds Try.pinned (OpenSpec.upto levelDoesSpec)

/-- 'octantlaw03.LevelKnown', WHERE WHAT IT READS IS OF BULK AT MOST 1048576: true; the input reads as it did. -/
def levelKnownUptoRow : OpenClaim := { program := "ytgofljmnlfnlnaa", sum := "5227020b950b5cc101314b43dd37ebc19a6f041d023e65df431a9751de2f8103", func := "octant/octantlaw03.LevelKnown", spec := "levelKnown", unfollowed := true, recurses := true, apart := false, narrowed := true }
def LevelKnownUptoSaid : Prop := levelKnownUptoRow.holds Try.pinned (OpenSpec.upto levelKnownSpec)

end Rows
end Go.Proofs.Ytgofljmnlfnlnaa
