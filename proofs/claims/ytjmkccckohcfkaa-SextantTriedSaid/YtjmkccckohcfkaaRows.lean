/-
  No cell of these rows narrows 'for every input' (looked for: loops, veiled, ifaces, maps, wideKeys, modest, calm, conditions, laid).
  DERIVED. THE GIVEN ROWS OF THIS SEAT. 12 by the template 'for every input the law returns true; each argument reads behind the call as it read before'; 0 by the template 'total and deterministic' (their statements: YtjmkccckohcfkaaTotals.lean).
  GIVEN WITH THE SEED: the statements are not yours to turn. If you find one false, say at which input.
  Laid BY PROGRAM, IN A SANDBOX (cutbox-rows.mjs): the forced cells as the released guide's own fill.sh prints them over the translation 8d66a0cb899da384… (all of the seat's roots in one cut). By AI agents, Wed Nov 11 2026. No macro, syntax, notation, axiom, sorry.
-/
import Derived.Test.YtjmkccckohcfkaaChecked
import GoSem.Claim
import GoSem.ClaimJoined
import GoSem.ClaimMapViews
import Derived.JoinedTies
import Derived.KernelRfl
namespace Go.Proofs.Ytjmkccckohcfkaa
/- THE CELL 'sum', in the pinned program and in every row, IS THE sha256 OF THE DUMP (.gsa) THAT YtjmkccckohcfkaaProg.lean LOADS. Nothing in Lean hashes anything: it is a label: what it is worth is what the hold of that sum in a sandbox is worth. -/
noncomputable def Try.pinned : Pinned := { name := "ytjmkccckohcfkaa", sum := "8d66a0cb899da38451950ca8bc0fa8055e51ce485eb0633e26df9e3d0525871c", checked := Try.checked }
namespace Rows
def none {H : Type} : Left H := { results := [], args := [] }

/-- 'octantlaw05.SextantReads': WHATEVER THE INPUT: true; the input reads as it did. -/
def sextantReadsSpec : ChangeSpec := { name := "sextantReads", fn := fun _ => fun
  | [d1, d2] => { results := [.lit (.bool true)], args := [d1, d2] }
  | _ => none }
def sextantReadsRow : OpenClaim := { program := "ytjmkccckohcfkaa", sum := "8d66a0cb899da38451950ca8bc0fa8055e51ce485eb0633e26df9e3d0525871c", func := "octant/octantlaw05.SextantReads", spec := "sextantReads", unfollowed := true, recurses := true, apart := false }
def SextantReadsSaid : Prop := sextantReadsRow.holds Try.pinned (OpenSpec.ofChange sextantReadsSpec)

/-- ITS FALSE NEIGHBOUR: 'it returns false'. Refute it at one input. -/
def sextantReadsWrong : ChangeSpec := { name := "sextantReads", fn := fun _ => fun
  | [d1, d2] => { results := [.lit (.bool false)], args := [d1, d2] }
  | _ => none }
def SextantReadsWrongFalsely : Prop := sextantReadsRow.holds Try.pinned (OpenSpec.ofChange sextantReadsWrong)

/-- 'octantlaw05.SextantSuns': WHATEVER THE INPUT: true; the input reads as it did. -/
def sextantSunsSpec : ChangeSpec := { name := "sextantSuns", fn := fun _ => fun
  | [d1, d2, d3] => { results := [.lit (.bool true)], args := [d1, d2, d3] }
  | _ => none }
def sextantSunsRow : OpenClaim := { program := "ytjmkccckohcfkaa", sum := "8d66a0cb899da38451950ca8bc0fa8055e51ce485eb0633e26df9e3d0525871c", func := "octant/octantlaw05.SextantSuns", spec := "sextantSuns", unfollowed := true, recurses := true, apart := false }
def SextantSunsSaid : Prop := sextantSunsRow.holds Try.pinned (OpenSpec.ofChange sextantSunsSpec)

/-- ITS FALSE NEIGHBOUR: 'it returns false'. Refute it at one input. -/
def sextantSunsWrong : ChangeSpec := { name := "sextantSuns", fn := fun _ => fun
  | [d1, d2, d3] => { results := [.lit (.bool false)], args := [d1, d2, d3] }
  | _ => none }
def SextantSunsWrongFalsely : Prop := sextantSunsRow.holds Try.pinned (OpenSpec.ofChange sextantSunsWrong)

/-- 'octantlaw05.SextantTrials': WHATEVER THE INPUT: true; the input reads as it did. -/
def sextantTrialsSpec : ChangeSpec := { name := "sextantTrials", fn := fun _ => fun
  | [d1, d2] => { results := [.lit (.bool true)], args := [d1, d2] }
  | _ => none }
def sextantTrialsRow : OpenClaim := { program := "ytjmkccckohcfkaa", sum := "8d66a0cb899da38451950ca8bc0fa8055e51ce485eb0633e26df9e3d0525871c", func := "octant/octantlaw05.SextantTrials", spec := "sextantTrials", unfollowed := true, recurses := true, apart := false }
def SextantTrialsSaid : Prop := sextantTrialsRow.holds Try.pinned (OpenSpec.ofChange sextantTrialsSpec)

/-- ITS FALSE NEIGHBOUR: 'it returns false'. Refute it at one input. -/
def sextantTrialsWrong : ChangeSpec := { name := "sextantTrials", fn := fun _ => fun
  | [d1, d2] => { results := [.lit (.bool false)], args := [d1, d2] }
  | _ => none }
def SextantTrialsWrongFalsely : Prop := sextantTrialsRow.holds Try.pinned (OpenSpec.ofChange sextantTrialsWrong)

/-- 'octantlaw05.SextantParts': WHATEVER THE INPUT: true; the input reads as it did. -/
def sextantPartsSpec : ChangeSpec := { name := "sextantParts", fn := fun _ => fun
  | [d1, d2] => { results := [.lit (.bool true)], args := [d1, d2] }
  | _ => none }
def sextantPartsRow : OpenClaim := { program := "ytjmkccckohcfkaa", sum := "8d66a0cb899da38451950ca8bc0fa8055e51ce485eb0633e26df9e3d0525871c", func := "octant/octantlaw05.SextantParts", spec := "sextantParts", unfollowed := true, recurses := true, apart := false }
def SextantPartsSaid : Prop := sextantPartsRow.holds Try.pinned (OpenSpec.ofChange sextantPartsSpec)

/-- ITS FALSE NEIGHBOUR: 'it returns false'. Refute it at one input. -/
def sextantPartsWrong : ChangeSpec := { name := "sextantParts", fn := fun _ => fun
  | [d1, d2] => { results := [.lit (.bool false)], args := [d1, d2] }
  | _ => none }
def SextantPartsWrongFalsely : Prop := sextantPartsRow.holds Try.pinned (OpenSpec.ofChange sextantPartsWrong)

/-- 'octantlaw05.SextantHolds': WHATEVER THE INPUT: true; the input reads as it did. -/
def sextantHoldsSpec : ChangeSpec := { name := "sextantHolds", fn := fun _ => fun
  | [d1, d2, d3] => { results := [.lit (.bool true)], args := [d1, d2, d3] }
  | _ => none }
def sextantHoldsRow : OpenClaim := { program := "ytjmkccckohcfkaa", sum := "8d66a0cb899da38451950ca8bc0fa8055e51ce485eb0633e26df9e3d0525871c", func := "octant/octantlaw05.SextantHolds", spec := "sextantHolds", unfollowed := true, recurses := true, apart := false }
def SextantHoldsSaid : Prop := sextantHoldsRow.holds Try.pinned (OpenSpec.ofChange sextantHoldsSpec)

/-- ITS FALSE NEIGHBOUR: 'it returns false'. Refute it at one input. -/
def sextantHoldsWrong : ChangeSpec := { name := "sextantHolds", fn := fun _ => fun
  | [d1, d2, d3] => { results := [.lit (.bool false)], args := [d1, d2, d3] }
  | _ => none }
def SextantHoldsWrongFalsely : Prop := sextantHoldsRow.holds Try.pinned (OpenSpec.ofChange sextantHoldsWrong)

/-- 'octantlaw05.SextantEnds': WHATEVER THE INPUT: true; the input reads as it did. -/
def sextantEndsSpec : ChangeSpec := { name := "sextantEnds", fn := fun _ => fun
  | [d1, d2] => { results := [.lit (.bool true)], args := [d1, d2] }
  | _ => none }
def sextantEndsRow : OpenClaim := { program := "ytjmkccckohcfkaa", sum := "8d66a0cb899da38451950ca8bc0fa8055e51ce485eb0633e26df9e3d0525871c", func := "octant/octantlaw05.SextantEnds", spec := "sextantEnds", unfollowed := true, recurses := true, apart := false }
def SextantEndsSaid : Prop := sextantEndsRow.holds Try.pinned (OpenSpec.ofChange sextantEndsSpec)

/-- ITS FALSE NEIGHBOUR: 'it returns false'. Refute it at one input. -/
def sextantEndsWrong : ChangeSpec := { name := "sextantEnds", fn := fun _ => fun
  | [d1, d2] => { results := [.lit (.bool false)], args := [d1, d2] }
  | _ => none }
def SextantEndsWrongFalsely : Prop := sextantEndsRow.holds Try.pinned (OpenSpec.ofChange sextantEndsWrong)

/-- 'octantlaw05.SextantSunny': WHATEVER THE INPUT: true; the input reads as it did. -/
def sextantSunnySpec : ChangeSpec := { name := "sextantSunny", fn := fun _ => fun
  | [d1, d2, d3] => { results := [.lit (.bool true)], args := [d1, d2, d3] }
  | _ => none }
def sextantSunnyRow : OpenClaim := { program := "ytjmkccckohcfkaa", sum := "8d66a0cb899da38451950ca8bc0fa8055e51ce485eb0633e26df9e3d0525871c", func := "octant/octantlaw05.SextantSunny", spec := "sextantSunny", unfollowed := true, recurses := true, apart := false }
def SextantSunnySaid : Prop := sextantSunnyRow.holds Try.pinned (OpenSpec.ofChange sextantSunnySpec)

/-- ITS FALSE NEIGHBOUR: 'it returns false'. Refute it at one input. -/
def sextantSunnyWrong : ChangeSpec := { name := "sextantSunny", fn := fun _ => fun
  | [d1, d2, d3] => { results := [.lit (.bool false)], args := [d1, d2, d3] }
  | _ => none }
def SextantSunnyWrongFalsely : Prop := sextantSunnyRow.holds Try.pinned (OpenSpec.ofChange sextantSunnyWrong)

/-- 'octantlaw05.SextantTried': WHATEVER THE INPUT: true; the input reads as it did. -/
def sextantTriedSpec : ChangeSpec := { name := "sextantTried", fn := fun _ => fun
  | [d1, d2, d3] => { results := [.lit (.bool true)], args := [d1, d2, d3] }
  | _ => none }
def sextantTriedRow : OpenClaim := { program := "ytjmkccckohcfkaa", sum := "8d66a0cb899da38451950ca8bc0fa8055e51ce485eb0633e26df9e3d0525871c", func := "octant/octantlaw05.SextantTried", spec := "sextantTried", unfollowed := true, recurses := true, apart := false }
def SextantTriedSaid : Prop := sextantTriedRow.holds Try.pinned (OpenSpec.ofChange sextantTriedSpec)

/-- ITS FALSE NEIGHBOUR: 'it returns false'. Refute it at one input. -/
def sextantTriedWrong : ChangeSpec := { name := "sextantTried", fn := fun _ => fun
  | [d1, d2, d3] => { results := [.lit (.bool false)], args := [d1, d2, d3] }
  | _ => none }
def SextantTriedWrongFalsely : Prop := sextantTriedRow.holds Try.pinned (OpenSpec.ofChange sextantTriedWrong)

/-- 'octantlaw05.SextantAccused': WHATEVER THE INPUT: true; the input reads as it did. -/
def sextantAccusedSpec : ChangeSpec := { name := "sextantAccused", fn := fun _ => fun
  | [d1, d2, d3] => { results := [.lit (.bool true)], args := [d1, d2, d3] }
  | _ => none }
def sextantAccusedRow : OpenClaim := { program := "ytjmkccckohcfkaa", sum := "8d66a0cb899da38451950ca8bc0fa8055e51ce485eb0633e26df9e3d0525871c", func := "octant/octantlaw05.SextantAccused", spec := "sextantAccused", unfollowed := true, recurses := true, apart := false }
def SextantAccusedSaid : Prop := sextantAccusedRow.holds Try.pinned (OpenSpec.ofChange sextantAccusedSpec)

/-- ITS FALSE NEIGHBOUR: 'it returns false'. Refute it at one input. -/
def sextantAccusedWrong : ChangeSpec := { name := "sextantAccused", fn := fun _ => fun
  | [d1, d2, d3] => { results := [.lit (.bool false)], args := [d1, d2, d3] }
  | _ => none }
def SextantAccusedWrongFalsely : Prop := sextantAccusedRow.holds Try.pinned (OpenSpec.ofChange sextantAccusedWrong)

/-- 'octantlaw05.SextantGraded': WHATEVER THE INPUT: true; the input reads as it did. -/
def sextantGradedSpec : ChangeSpec := { name := "sextantGraded", fn := fun _ => fun
  | [d1, d2] => { results := [.lit (.bool true)], args := [d1, d2] }
  | _ => none }
def sextantGradedRow : OpenClaim := { program := "ytjmkccckohcfkaa", sum := "8d66a0cb899da38451950ca8bc0fa8055e51ce485eb0633e26df9e3d0525871c", func := "octant/octantlaw05.SextantGraded", spec := "sextantGraded", unfollowed := true, recurses := true, apart := false }
def SextantGradedSaid : Prop := sextantGradedRow.holds Try.pinned (OpenSpec.ofChange sextantGradedSpec)

/-- ITS FALSE NEIGHBOUR: 'it returns false'. Refute it at one input. -/
def sextantGradedWrong : ChangeSpec := { name := "sextantGraded", fn := fun _ => fun
  | [d1, d2] => { results := [.lit (.bool false)], args := [d1, d2] }
  | _ => none }
def SextantGradedWrongFalsely : Prop := sextantGradedRow.holds Try.pinned (OpenSpec.ofChange sextantGradedWrong)

/-- 'octantlaw05.SextantFits': WHATEVER THE INPUT: true; the input reads as it did. -/
def sextantFitsSpec : ChangeSpec := { name := "sextantFits", fn := fun _ => fun
  | [d1, d2, d3] => { results := [.lit (.bool true)], args := [d1, d2, d3] }
  | _ => none }
def sextantFitsRow : OpenClaim := { program := "ytjmkccckohcfkaa", sum := "8d66a0cb899da38451950ca8bc0fa8055e51ce485eb0633e26df9e3d0525871c", func := "octant/octantlaw05.SextantFits", spec := "sextantFits", unfollowed := true, recurses := true, apart := false }
def SextantFitsSaid : Prop := sextantFitsRow.holds Try.pinned (OpenSpec.ofChange sextantFitsSpec)

/-- ITS FALSE NEIGHBOUR: 'it returns false'. Refute it at one input. -/
def sextantFitsWrong : ChangeSpec := { name := "sextantFits", fn := fun _ => fun
  | [d1, d2, d3] => { results := [.lit (.bool false)], args := [d1, d2, d3] }
  | _ => none }
def SextantFitsWrongFalsely : Prop := sextantFitsRow.holds Try.pinned (OpenSpec.ofChange sextantFitsWrong)

/-- 'octantlaw05.SextantKnown': WHATEVER THE INPUT: true; the input reads as it did. -/
def sextantKnownSpec : ChangeSpec := { name := "sextantKnown", fn := fun _ => fun
  | [] => { results := [.lit (.bool true)], args := [] }
  | _ => none }
def sextantKnownRow : OpenClaim := { program := "ytjmkccckohcfkaa", sum := "8d66a0cb899da38451950ca8bc0fa8055e51ce485eb0633e26df9e3d0525871c", func := "octant/octantlaw05.SextantKnown", spec := "sextantKnown", unfollowed := true, recurses := true, apart := false }
def SextantKnownSaid : Prop := sextantKnownRow.holds Try.pinned (OpenSpec.ofChange sextantKnownSpec)

/-- ITS FALSE NEIGHBOUR: 'it returns false'. Refute it at one input. -/
def sextantKnownWrong : ChangeSpec := { name := "sextantKnown", fn := fun _ => fun
  | [] => { results := [.lit (.bool false)], args := [] }
  | _ => none }
def SextantKnownWrongFalsely : Prop := sextantKnownRow.holds Try.pinned (OpenSpec.ofChange sextantKnownWrong)

/- THE SECOND FORM. 'bulk': how many values and letters a reading holds, each counted each time it is reached (what is shared counts as often as it is met; a slice's spare places count too). A statement '..UptoSaid' is the law's where the arguments, and the package variables that the reading takes, are together of bulk at most 1048576: NARROWER than '..Said'. Prove '..Said' where nothing that the law and all that it calls make is longer than what came in: it says more and counts as full. Else prove '..UptoSaid'. A law counts once. -/
mutual
def uptoBulk {H : Type} : DataW H → Nat
  | .lit (.string bytes) => bytes.length + 1
  | .lit _ => 1
  | .nil => 1
  | .ptr d => uptoBulk d + 1
  | .slice elems spare => uptoBulkAll elems + uptoBulkAll spare + 1
  | .agg parts => uptoBulkAll parts + 1
  | .iface _ d => uptoBulk d + 1
  | .map entries => uptoBulkEntries entries + 1
  | .held _ => 1
def uptoBulkAll {H : Type} : List (DataW H) → Nat
  | [] => 0
  | d :: r => uptoBulk d + uptoBulkAll r
def uptoBulkEntries {H : Type} : List (Lit × DataW H) → Nat
  | [] => 0
  | x :: r => uptoBulkEntry x + uptoBulkEntries r
def uptoBulkEntry {H : Type} : Lit × DataW H → Nat
  | (.string bytes, d) => bytes.length + uptoBulk d + 1
  | (_, d) => uptoBulk d + 1
 end
def uptoSmall : (H : Type) → List (DataW H) → Bool := fun _ ds => decide (uptoBulkAll ds ≤ 1048576)
def OpenSpec.upto (s : _root_.Go.ChangeSpec) : _root_.Go.OpenSpec := { _root_.Go.OpenSpec.ofChange s with cond := some uptoSmall }

/-- 'octantlaw05.SextantReads', WHERE WHAT IT READS IS OF BULK AT MOST 1048576: true; the input reads as it did. -/
def sextantReadsUptoRow : OpenClaim := { program := "ytjmkccckohcfkaa", sum := "8d66a0cb899da38451950ca8bc0fa8055e51ce485eb0633e26df9e3d0525871c", func := "octant/octantlaw05.SextantReads", spec := "sextantReads", unfollowed := true, recurses := true, apart := false, narrowed := true }
def SextantReadsUptoSaid : Prop := sextantReadsUptoRow.holds Try.pinned (OpenSpec.upto sextantReadsSpec)

/-- 'octantlaw05.SextantSuns', WHERE WHAT IT READS IS OF BULK AT MOST 1048576: true; the input reads as it did. -/
def sextantSunsUptoRow : OpenClaim := { program := "ytjmkccckohcfkaa", sum := "8d66a0cb899da38451950ca8bc0fa8055e51ce485eb0633e26df9e3d0525871c", func := "octant/octantlaw05.SextantSuns", spec := "sextantSuns", unfollowed := true, recurses := true, apart := false, narrowed := true }
def SextantSunsUptoSaid : Prop := sextantSunsUptoRow.holds Try.pinned (OpenSpec.upto sextantSunsSpec)

/-- 'octantlaw05.SextantTrials', WHERE WHAT IT READS IS OF BULK AT MOST 1048576: true; the input reads as it did. -/
def sextantTrialsUptoRow : OpenClaim := { program := "ytjmkccckohcfkaa", sum := "8d66a0cb899da38451950ca8bc0fa8055e51ce485eb0633e26df9e3d0525871c", func := "octant/octantlaw05.SextantTrials", spec := "sextantTrials", unfollowed := true, recurses := true, apart := false, narrowed := true }
def SextantTrialsUptoSaid : Prop := sextantTrialsUptoRow.holds Try.pinned (OpenSpec.upto sextantTrialsSpec)

/-- 'octantlaw05.SextantParts', WHERE WHAT IT READS IS OF BULK AT MOST 1048576: true; the input reads as it did. -/
def sextantPartsUptoRow : OpenClaim := { program := "ytjmkccckohcfkaa", sum := "8d66a0cb899da38451950ca8bc0fa8055e51ce485eb0633e26df9e3d0525871c", func := "octant/octantlaw05.SextantParts", spec := "sextantParts", unfollowed := true, recurses := true, apart := false, narrowed := true }
def SextantPartsUptoSaid : Prop := sextantPartsUptoRow.holds Try.pinned (OpenSpec.upto sextantPartsSpec)

/-- 'octantlaw05.SextantHolds', WHERE WHAT IT READS IS OF BULK AT MOST 1048576: true; the input reads as it did. -/
def sextantHoldsUptoRow : OpenClaim := { program := "ytjmkccckohcfkaa", sum := "8d66a0cb899da38451950ca8bc0fa8055e51ce485eb0633e26df9e3d0525871c", func := "octant/octantlaw05.SextantHolds", spec := "sextantHolds", unfollowed := true, recurses := true, apart := false, narrowed := true }
def SextantHoldsUptoSaid : Prop := sextantHoldsUptoRow.holds Try.pinned (OpenSpec.upto sextantHoldsSpec)

/-- 'octantlaw05.SextantEnds', WHERE WHAT IT READS IS OF BULK AT MOST 1048576: true; the input reads as it did. -/
def sextantEndsUptoRow : OpenClaim := { program := "ytjmkccckohcfkaa", sum := "8d66a0cb899da38451950ca8bc0fa8055e51ce485eb0633e26df9e3d0525871c", func := "octant/octantlaw05.SextantEnds", spec := "sextantEnds", unfollowed := true, recurses := true, apart := false, narrowed := true }
def SextantEndsUptoSaid : Prop := sextantEndsUptoRow.holds Try.pinned (OpenSpec.upto sextantEndsSpec)

/-- 'octantlaw05.SextantSunny', WHERE WHAT IT READS IS OF BULK AT MOST 1048576: true; the input reads as it did. -/
def sextantSunnyUptoRow : OpenClaim := { program := "ytjmkccckohcfkaa", sum := "8d66a0cb899da38451950ca8bc0fa8055e51ce485eb0633e26df9e3d0525871c", func := "octant/octantlaw05.SextantSunny", spec := "sextantSunny", unfollowed := true, recurses := true, apart := false, narrowed := true }
def SextantSunnyUptoSaid : Prop := sextantSunnyUptoRow.holds Try.pinned (OpenSpec.upto sextantSunnySpec)

/-- 'octantlaw05.SextantTried', WHERE WHAT IT READS IS OF BULK AT MOST 1048576: true; the input reads as it did. -/
def sextantTriedUptoRow : OpenClaim := { program := "ytjmkccckohcfkaa", sum := "8d66a0cb899da38451950ca8bc0fa8055e51ce485eb0633e26df9e3d0525871c", func := "octant/octantlaw05.SextantTried", spec := "sextantTried", unfollowed := true, recurses := true, apart := false, narrowed := true }
def SextantTriedUptoSaid : Prop := sextantTriedUptoRow.holds Try.pinned (OpenSpec.upto sextantTriedSpec)

/-- 'octantlaw05.SextantAccused', WHERE WHAT IT READS IS OF BULK AT MOST 1048576: true; the input reads as it did. -/
def sextantAccusedUptoRow : OpenClaim := { program := "ytjmkccckohcfkaa", sum := "8d66a0cb899da38451950ca8bc0fa8055e51ce485eb0633e26df9e3d0525871c", func := "octant/octantlaw05.SextantAccused", spec := "sextantAccused", unfollowed := true, recurses := true, apart := false, narrowed := true }
def SextantAccusedUptoSaid : Prop := sextantAccusedUptoRow.holds Try.pinned (OpenSpec.upto sextantAccusedSpec)

/-- 'octantlaw05.SextantGraded', WHERE WHAT IT READS IS OF BULK AT MOST 1048576: true; the input reads as it did. -/
def sextantGradedUptoRow : OpenClaim := { program := "ytjmkccckohcfkaa", sum := "8d66a0cb899da38451950ca8bc0fa8055e51ce485eb0633e26df9e3d0525871c", func := "octant/octantlaw05.SextantGraded", spec := "sextantGraded", unfollowed := true, recurses := true, apart := false, narrowed := true }
def SextantGradedUptoSaid : Prop := sextantGradedUptoRow.holds Try.pinned (OpenSpec.upto sextantGradedSpec)

/-- 'octantlaw05.SextantFits', WHERE WHAT IT READS IS OF BULK AT MOST 1048576: true; the input reads as it did. -/
def sextantFitsUptoRow : OpenClaim := { program := "ytjmkccckohcfkaa", sum := "8d66a0cb899da38451950ca8bc0fa8055e51ce485eb0633e26df9e3d0525871c", func := "octant/octantlaw05.SextantFits", spec := "sextantFits", unfollowed := true, recurses := true, apart := false, narrowed := true }
def SextantFitsUptoSaid : Prop := sextantFitsUptoRow.holds Try.pinned (OpenSpec.upto sextantFitsSpec)

/-- 'octantlaw05.SextantKnown', WHERE WHAT IT READS IS OF BULK AT MOST 1048576: true; the input reads as it did. -/
def sextantKnownUptoRow : OpenClaim := { program := "ytjmkccckohcfkaa", sum := "8d66a0cb899da38451950ca8bc0fa8055e51ce485eb0633e26df9e3d0525871c", func := "octant/octantlaw05.SextantKnown", spec := "sextantKnown", unfollowed := true, recurses := true, apart := false, narrowed := true }
def SextantKnownUptoSaid : Prop := sextantKnownUptoRow.holds Try.pinned (OpenSpec.upto sextantKnownSpec)

end Rows
end Go.Proofs.Ytjmkccckohcfkaa
