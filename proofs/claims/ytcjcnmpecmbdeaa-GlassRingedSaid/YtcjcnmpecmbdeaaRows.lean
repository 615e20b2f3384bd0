/-
  No cell of these rows narrows 'for every input' (looked for: loops, veiled, ifaces, maps, wideKeys, modest, calm, conditions, laid).
  DERIVED. THE GIVEN ROWS OF THIS SEAT. 13 by the template 'for every input the law returns true; each argument reads behind the call as it read before'; 0 by the template 'total and deterministic' (their statements: YtcjcnmpecmbdeaaTotals.lean).
  GIVEN WITH THE SEED: the statements are not yours to turn. If you find one false, say at which input.
  Laid BY PROGRAM, IN A SANDBOX (cutbox-rows.mjs): the forced cells as the released guide's own fill.sh prints them over the translation e8bc360bab4e5852… (all of the seat's roots in one cut). By AI agents, Wed Nov 11 2026. No macro, syntax, notation, axiom, sorry.
-/
import Derived.Test.YtcjcnmpecmbdeaaChecked
import GoSem.Claim
import GoSem.ClaimJoined
import GoSem.ClaimMapViews
import Derived.JoinedTies
import Derived.KernelRfl
namespace Go.Proofs.Ytcjcnmpecmbdeaa
/- THE CELL 'sum', in the pinned program and in every row, IS THE sha256 OF THE DUMP (.gsa) THAT YtcjcnmpecmbdeaaProg.lean LOADS. Nothing in Lean hashes anything: it is a label: what it is worth is what the hold of that sum in a sandbox is worth. -/
noncomputable def Try.pinned : Pinned := { name := "ytcjcnmpecmbdeaa", sum := "e8bc360bab4e5852dd8c7bb90fb24ff10a8021cbf15f5d05884310b99343b3fc", checked := Try.checked }
namespace Rows
def none {H : Type} : Left H := { results := [], args := [] }

/-- 'octantlaw04.GlassSees': WHATEVER THE INPUT: true; the input reads as it did. -/
def glassSeesSpec : ChangeSpec := { name := "glassSees", fn := fun _ => fun
  | [d1, d2, d3] => { results := [.lit (.bool true)], args := [d1, d2, d3] }
  | _ => none }
def glassSeesRow : OpenClaim := { program := "ytcjcnmpecmbdeaa", sum := "e8bc360bab4e5852dd8c7bb90fb24ff10a8021cbf15f5d05884310b99343b3fc", func := "octant/octantlaw04.GlassSees", spec := "glassSees", unfollowed := true, recurses := true, plainKeys := false, apart := false }
def GlassSeesSaid : Prop := glassSeesRow.holds Try.pinned (OpenSpec.ofChange glassSeesSpec)

/-- ITS FALSE NEIGHBOUR: 'it returns false'. Refute it at one input. -/
def glassSeesWrong : ChangeSpec := { name := "glassSees", fn := fun _ => fun
  | [d1, d2, d3] => { results := [.lit (.bool false)], args := [d1, d2, d3] }
  | _ => none }
def GlassSeesWrongFalsely : Prop := glassSeesRow.holds Try.pinned (OpenSpec.ofChange glassSeesWrong)

/-- 'octantlaw04.GlassChooses': WHATEVER THE INPUT: true; the input reads as it did. -/
def glassChoosesSpec : ChangeSpec := { name := "glassChooses", fn := fun _ => fun
  | [d1, d2, d3] => { results := [.lit (.bool true)], args := [d1, d2, d3] }
  | _ => none }
def glassChoosesRow : OpenClaim := { program := "ytcjcnmpecmbdeaa", sum := "e8bc360bab4e5852dd8c7bb90fb24ff10a8021cbf15f5d05884310b99343b3fc", func := "octant/octantlaw04.GlassChooses", spec := "glassChooses", unfollowed := true, recurses := true, plainKeys := false, apart := false }
def GlassChoosesSaid : Prop := glassChoosesRow.holds Try.pinned (OpenSpec.ofChange glassChoosesSpec)

/-- ITS FALSE NEIGHBOUR: 'it returns false'. Refute it at one input. -/
def glassChoosesWrong : ChangeSpec := { name := "glassChooses", fn := fun _ => fun
  | [d1, d2, d3] => { results := [.lit (.bool false)], args := [d1, d2, d3] }
  | _ => none }
def GlassChoosesWrongFalsely : Prop := glassChoosesRow.holds Try.pinned (OpenSpec.ofChange glassChoosesWrong)

/-- 'octantlaw04.GlassMakes': WHATEVER THE INPUT: true; the input reads as it did. -/
def glassMakesSpec : ChangeSpec := { name := "glassMakes", fn := fun _ => fun
  | [d1, d2] => { results := [.lit (.bool true)], args := [d1, d2] }
  | _ => none }
def glassMakesRow : OpenClaim := { program := "ytcjcnmpecmbdeaa", sum := "e8bc360bab4e5852dd8c7bb90fb24ff10a8021cbf15f5d05884310b99343b3fc", func := "octant/octantlaw04.GlassMakes", spec := "glassMakes", unfollowed := true, recurses := true, plainKeys := false, apart := false }
def GlassMakesSaid : Prop := glassMakesRow.holds Try.pinned (OpenSpec.ofChange glassMakesSpec)

/-- ITS FALSE NEIGHBOUR: 'it returns false'. Refute it at one input. -/
def glassMakesWrong : ChangeSpec := { name := "glassMakes", fn := fun _ => fun
  | [d1, d2] => { results := [.lit (.bool false)], args := [d1, d2] }
  | _ => none }
def GlassMakesWrongFalsely : Prop := glassMakesRow.holds Try.pinned (OpenSpec.ofChange glassMakesWrong)

/-- 'octantlaw04.GlassSurfaces': WHATEVER THE INPUT: true; the input reads as it did. -/
def glassSurfacesSpec : ChangeSpec := { name := "glassSurfaces", fn := fun _ => fun
  | [d] => { results := [.lit (.bool true)], args := [d] }
  | _ => none }
def glassSurfacesRow : OpenClaim := { program := "ytcjcnmpecmbdeaa", sum := "e8bc360bab4e5852dd8c7bb90fb24ff10a8021cbf15f5d05884310b99343b3fc", func := "octant/octantlaw04.GlassSurfaces", spec := "glassSurfaces", unfollowed := true, recurses := true, plainKeys := false, apart := false }
def GlassSurfacesSaid : Prop := glassSurfacesRow.holds Try.pinned (OpenSpec.ofChange glassSurfacesSpec)

/-- ITS FALSE NEIGHBOUR: 'it returns false'. Refute it at one input. -/
def glassSurfacesWrong : ChangeSpec := { name := "glassSurfaces", fn := fun _ => fun
  | [d] => { results := [.lit (.bool false)], args := [d] }
  | _ => none }
def GlassSurfacesWrongFalsely : Prop := glassSurfacesRow.holds Try.pinned (OpenSpec.ofChange glassSurfacesWrong)

/-- 'octantlaw04.GlassBounded': WHATEVER THE INPUT: true; the input reads as it did. -/
def glassBoundedSpec : ChangeSpec := { name := "glassBounded", fn := fun _ => fun
  | [d1, d2, d3, d4] => { results := [.lit (.bool true)], args := [d1, d2, d3, d4] }
  | _ => none }
def glassBoundedRow : OpenClaim := { program := "ytcjcnmpecmbdeaa", sum := "e8bc360bab4e5852dd8c7bb90fb24ff10a8021cbf15f5d05884310b99343b3fc", func := "octant/octantlaw04.GlassBounded", spec := "glassBounded", unfollowed := true, recurses := true, plainKeys := false, apart := false }
def GlassBoundedSaid : Prop := glassBoundedRow.holds Try.pinned (OpenSpec.ofChange glassBoundedSpec)

/-- ITS FALSE NEIGHBOUR: 'it returns false'. Refute it at one input. -/
def glassBoundedWrong : ChangeSpec := { name := "glassBounded", fn := fun _ => fun
  | [d1, d2, d3, d4] => { results := [.lit (.bool false)], args := [d1, d2, d3, d4] }
  | _ => none }
def GlassBoundedWrongFalsely : Prop := glassBoundedRow.holds Try.pinned (OpenSpec.ofChange glassBoundedWrong)

/-- 'octantlaw04.GlassEnds': WHATEVER THE INPUT: true; the input reads as it did. -/
def glassEndsSpec : ChangeSpec := { name := "glassEnds", fn := fun _ => fun
  | [d1, d2] => { results := [.lit (.bool true)], args := [d1, d2] }
  | _ => none }
def glassEndsRow : OpenClaim := { program := "ytcjcnmpecmbdeaa", sum := "e8bc360bab4e5852dd8c7bb90fb24ff10a8021cbf15f5d05884310b99343b3fc", func := "octant/octantlaw04.GlassEnds", spec := "glassEnds", unfollowed := true, recurses := true, plainKeys := false, apart := false }
def GlassEndsSaid : Prop := glassEndsRow.holds Try.pinned (OpenSpec.ofChange glassEndsSpec)

/-- ITS FALSE NEIGHBOUR: 'it returns false'. Refute it at one input. -/
def glassEndsWrong : ChangeSpec := { name := "glassEnds", fn := fun _ => fun
  | [d1, d2] => { results := [.lit (.bool false)], args := [d1, d2] }
  | _ => none }
def GlassEndsWrongFalsely : Prop := glassEndsRow.holds Try.pinned (OpenSpec.ofChange glassEndsWrong)

/-- 'octanttop.TopBox': WHATEVER THE INPUT: true; the input reads as it did. -/
def topBoxSpec : ChangeSpec := { name := "topBox", fn := fun _ => fun
  | [d1, d2, d3, d4] => { results := [.lit (.bool true)], args := [d1, d2, d3, d4] }
  | _ => none }
def topBoxRow : OpenClaim := { program := "ytcjcnmpecmbdeaa", sum := "e8bc360bab4e5852dd8c7bb90fb24ff10a8021cbf15f5d05884310b99343b3fc", func := "octant/octanttop.TopBox", spec := "topBox", unfollowed := true, recurses := true, plainKeys := false, apart := false }
def TopBoxSaid : Prop := topBoxRow.holds Try.pinned (OpenSpec.ofChange topBoxSpec)

/-- ITS FALSE NEIGHBOUR: 'it returns false'. Refute it at one input. -/
def topBoxWrong : ChangeSpec := { name := "topBox", fn := fun _ => fun
  | [d1, d2, d3, d4] => { results := [.lit (.bool false)], args := [d1, d2, d3, d4] }
  | _ => none }
def TopBoxWrongFalsely : Prop := topBoxRow.holds Try.pinned (OpenSpec.ofChange topBoxWrong)

/-- 'octantlaw04.GlassBest': WHATEVER THE INPUT: true; the input reads as it did. -/
def glassBestSpec : ChangeSpec := { name := "glassBest", fn := fun _ => fun
  | [d1, d2, d3] => { results := [.lit (.bool true)], args := [d1, d2, d3] }
  | _ => none }
def glassBestRow : OpenClaim := { program := "ytcjcnmpecmbdeaa", sum := "e8bc360bab4e5852dd8c7bb90fb24ff10a8021cbf15f5d05884310b99343b3fc", func := "octant/octantlaw04.GlassBest", spec := "glassBest", unfollowed := true, recurses := true, plainKeys := false, apart := false }
def GlassBestSaid : Prop := glassBestRow.holds Try.pinned (OpenSpec.ofChange glassBestSpec)

/-- ITS FALSE NEIGHBOUR: 'it returns false'. Refute it at one input. -/
def glassBestWrong : ChangeSpec := { name := "glassBest", fn := fun _ => fun
  | [d1, d2, d3] => { results := [.lit (.bool false)], args := [d1, d2, d3] }
  | _ => none }
def GlassBestWrongFalsely : Prop := glassBestRow.holds Try.pinned (OpenSpec.ofChange glassBestWrong)

/-- 'octantlaw04.GlassTurned': WHATEVER THE INPUT: true; the input reads as it did. -/
def glassTurnedSpec : ChangeSpec := { name := "glassTurned", fn := fun _ => fun
  | [d1, d2, d3] => { results := [.lit (.bool true)], args := [d1, d2, d3] }
  | _ => none }
def glassTurnedRow : OpenClaim := { program := "ytcjcnmpecmbdeaa", sum := "e8bc360bab4e5852dd8c7bb90fb24ff10a8021cbf15f5d05884310b99343b3fc", func := "octant/octantlaw04.GlassTurned", spec := "glassTurned", unfollowed := true, recurses := true, plainKeys := false, apart := false }
def GlassTurnedSaid : Prop := glassTurnedRow.holds Try.pinned (OpenSpec.ofChange glassTurnedSpec)

/-- ITS FALSE NEIGHBOUR: 'it returns false'. Refute it at one input. -/
def glassTurnedWrong : ChangeSpec := { name := "glassTurned", fn := fun _ => fun
  | [d1, d2, d3] => { results := [.lit (.bool false)], args := [d1, d2, d3] }
  | _ => none }
def GlassTurnedWrongFalsely : Prop := glassTurnedRow.holds Try.pinned (OpenSpec.ofChange glassTurnedWrong)

/-- 'octantlaw04.GlassAtOnce': WHATEVER THE INPUT: true; the input reads as it did. -/
def glassAtOnceSpec : ChangeSpec := { name := "glassAtOnce", fn := fun _ => fun
  | [d1, d2, d3] => { results := [.lit (.bool true)], args := [d1, d2, d3] }
  | _ => none }
def glassAtOnceRow : OpenClaim := { program := "ytcjcnmpecmbdeaa", sum := "e8bc360bab4e5852dd8c7bb90fb24ff10a8021cbf15f5d05884310b99343b3fc", func := "octant/octantlaw04.GlassAtOnce", spec := "glassAtOnce", unfollowed := true, recurses := true, plainKeys := false, apart := false }
def GlassAtOnceSaid : Prop := glassAtOnceRow.holds Try.pinned (OpenSpec.ofChange glassAtOnceSpec)

/-- ITS FALSE NEIGHBOUR: 'it returns false'. Refute it at one input. -/
def glassAtOnceWrong : ChangeSpec := { name := "glassAtOnce", fn := fun _ => fun
  | [d1, d2, d3] => { results := [.lit (.bool false)], args := [d1, d2, d3] }
  | _ => none }
def GlassAtOnceWrongFalsely : Prop := glassAtOnceRow.holds Try.pinned (OpenSpec.ofChange glassAtOnceWrong)

/-- 'octantlaw04.GlassBetter': WHATEVER THE INPUT: true; the input reads as it did. -/
def glassBetterSpec : ChangeSpec := { name := "glassBetter", fn := fun _ => fun
  | [d1, d2, d3] => { results := [.lit (.bool true)], args := [d1, d2, d3] }
  | _ => none }
def glassBetterRow : OpenClaim := { program := "ytcjcnmpecmbdeaa", sum := "e8bc360bab4e5852dd8c7bb90fb24ff10a8021cbf15f5d05884310b99343b3fc", func := "octant/octantlaw04.GlassBetter", spec := "glassBetter", unfollowed := true, recurses := true, plainKeys := false, apart := false }
def GlassBetterSaid : Prop := glassBetterRow.holds Try.pinned (OpenSpec.ofChange glassBetterSpec)

/-- ITS FALSE NEIGHBOUR: 'it returns false'. Refute it at one input. -/
def glassBetterWrong : ChangeSpec := { name := "glassBetter", fn := fun _ => fun
  | [d1, d2, d3] => { results := [.lit (.bool false)], args := [d1, d2, d3] }
  | _ => none }
def GlassBetterWrongFalsely : Prop := glassBetterRow.holds Try.pinned (OpenSpec.ofChange glassBetterWrong)

/-- 'octantlaw04.GlassRinged': WHATEVER THE INPUT: true; the input reads as it did. -/
def glassRingedSpec : ChangeSpec := { name := "glassRinged", fn := fun _ => fun
  | [d1, d2, d3] => { results := [.lit (.bool true)], args := [d1, d2, d3] }
  | _ => none }
def glassRingedRow : OpenClaim := { program := "ytcjcnmpecmbdeaa", sum := "e8bc360bab4e5852dd8c7bb90fb24ff10a8021cbf15f5d05884310b99343b3fc", func := "octant/octantlaw04.GlassRinged", spec := "glassRinged", unfollowed := true, recurses := true, plainKeys := false, apart := false }
def GlassRingedSaid : Prop := glassRingedRow.holds Try.pinned (OpenSpec.ofChange glassRingedSpec)

/-- ITS FALSE NEIGHBOUR: 'it returns false'. Refute it at one input. -/
def glassRingedWrong : ChangeSpec := { name := "glassRinged", fn := fun _ => fun
  | [d1, d2, d3] => { results := [.lit (.bool false)], args := [d1, d2, d3] }
  | _ => none }
def GlassRingedWrongFalsely : Prop := glassRingedRow.holds Try.pinned (OpenSpec.ofChange glassRingedWrong)

/-- 'octantlaw04.GlassKnown': WHATEVER THE INPUT: true; the input reads as it did. -/
def glassKnownSpec : ChangeSpec := { name := "glassKnown", fn := fun _ => fun
  | [] => { results := [.lit (.bool true)], args := [] }
  | _ => none }
def glassKnownRow : OpenClaim := { program := "ytcjcnmpecmbdeaa", sum := "e8bc360bab4e5852dd8c7bb90fb24ff10a8021cbf15f5d05884310b99343b3fc", func := "octant/octantlaw04.GlassKnown", spec := "glassKnown", unfollowed := true, recurses := true, plainKeys := false, apart := false }
def GlassKnownSaid : Prop := glassKnownRow.holds Try.pinned (OpenSpec.ofChange glassKnownSpec)

/-- ITS FALSE NEIGHBOUR: 'it returns false'. Refute it at one input. -/
def glassKnownWrong : ChangeSpec := { name := "glassKnown", fn := fun _ => fun
  | [] => { results := [.lit (.bool false)], args := [] }
  | _ => none }
def GlassKnownWrongFalsely : Prop := glassKnownRow.holds Try.pinned (OpenSpec.ofChange glassKnownWrong)

/- THE SECOND FORM. 'bulk': how many values and letters a reading holds, each counted each time it is reached (what is shared counts as often as it is met; a slice's spare places count too). A statement '..UptoSaid' is the law's where the arguments, and the package variables that the reading takes, are together of bulk at most 1048576: NARROWER than '..Said'. Prove '..Said' where nothing that the law and all that it calls make is longer than what came in: it says more and counts as full. Else prove '..UptoSaid'. A law counts once. -/
mutual
def uptoBulk {H : Type} : DataW H → Nat
  | .lit (.string bytes) => bytes.length + 1
  | .lit _ => 1
  | .nil => 1
  | .ptr d => uptoBulk d + 1
  | .slice elems spare => uptoBulkAll elems + uptoBulkAll spare + 1
  | .agg parts => uptoBulkAll parts + 1
  | .iface _ d => uptoBulk d + 1
  | .map entries => uptoBulkEntries entries + 1
  | .held _ => 1
def uptoBulkAll {H : Type} : List (DataW H) → Nat
  | [] => 0
  | d :: r => uptoBulk d + uptoBulkAll r
def uptoBulkEntries {H : Type} : List (Lit × DataW H) → Nat
  | [] => 0
  | x :: r => uptoBulkEntry x + uptoBulkEntries r
def uptoBulkEntry {H : Type} : Lit × DataW H → Nat
  | (.string bytes, d) => bytes.length + uptoBulk d + 1
  | (_, d) => uptoBulk d + 1
 end
def uptoSmall : (H : Type) → List (DataW H) → Bool := fun _ ds => decide (uptoBulkAll ds ≤ 1048576)
def OpenSpec.upto (s : _root_.Go.ChangeSpec) : _root_.Go.OpenSpec := { _root_.Go.OpenSpec.ofChange s with cond := some uptoSmall }

/-- 'octantlaw04.GlassSees', WHERE WHAT IT READS IS OF BULK AT MOST 1048576: true; the input reads as it did. -/
def glassSeesUptoRow : OpenClaim := { program := "ytcjcnmpecmbdeaa", sum := "e8bc360bab4e5852dd8c7bb90fb24ff10a8021cbf15f5d05884310b99343b3fc", func := "octant/octantlaw04.GlassSees", spec := "glassSees", unfollowed := true, recurses := true, plainKeys := false, apart := false, narrowed := true }
def GlassSeesUptoSaid : Prop := glassSeesUptoRow.holds Try.pinned (OpenSpec.upto glassSeesSpec)

/-- 'octantlaw04.GlassChooses', WHERE WHAT IT READS IS OF BULK AT MOST 1048576: true; the input reads as it did. -/
def glassChoosesUptoRow : OpenClaim := { program := "ytcjcnmpecmbdeaa", sum := "e8bc360bab4e5852dd8c7bb90fb24ff10a8021cbf15f5d05884310b99343b3fc", func := "octant/octantlaw04.GlassChooses", spec := "glassChooses", unfollowed := true, recurses := true, plainKeys := false, apart := false, narrowed := true }
def GlassChoosesUptoSaid : Prop := glassChoosesUptoRow.holds Try.pinned (OpenSpec.upto glassChoosesSpec)

/-- 'octantlaw04.GlassMakes', WHERE WHAT IT READS IS OF BULK AT MOST 1048576: true; the input reads as it did. -/
def glassMakesUptoRow : OpenClaim := { program := "ytcjcnmpecmbdeaa", sum := "e8bc360bab4e5852dd8c7bb90fb24ff10a8021cbf15f5d05884310b99343b3fc", func := "octant/octantlaw04.GlassMakes", spec := "glassMakes", unfollowed := true, recurses := true, plainKeys := false, apart := false, narrowed := true }
def GlassMakesUptoSaid : Prop := glassMakesUptoRow.holds Try.pinned (OpenSpec.upto glassMakesSpec)

/-- 'octantlaw04.GlassSurfaces', WHERE WHAT IT READS IS OF BULK AT MOST 1048576: true; the input reads as it did. -/
def glassSurfacesUptoRow : OpenClaim := { program := "ytcjcnmpecmbdeaa", sum := "e8bc360bab4e5852dd8c7bb90fb24ff10a8021cbf15f5d05884310b99343b3fc", func := "octant/octantlaw04.GlassSurfaces", spec := "glassSurfaces", unfollowed := true, recurses := true, plainKeys := false, apart := false, narrowed := true }
def GlassSurfacesUptoSaid : Prop := glassSurfacesUptoRow.holds Try.pinned (OpenSpec.upto glassSurfacesSpec)

/-- 'octantlaw04.GlassBounded', WHERE WHAT IT READS IS OF BULK AT MOST 1048576: true; the input reads as it did. -/
def glassBoundedUptoRow : OpenClaim := { program := "ytcjcnmpecmbdeaa", sum := "e8bc360bab4e5852dd8c7bb90fb24ff10a8021cbf15f5d05884310b99343b3fc", func := "octant/octantlaw04.GlassBounded", spec := "glassBounded", unfollowed := true, recurses := true, plainKeys := false, apart := false, narrowed := true }
def GlassBoundedUptoSaid : Prop := glassBoundedUptoRow.holds Try.pinned (OpenSpec.upto glassBoundedSpec)

/-- 'octantlaw04.GlassEnds', WHERE WHAT IT READS IS OF BULK AT MOST 1048576: true; the input reads as it did. -/
def glassEndsUptoRow : OpenClaim := { program := "ytcjcnmpecmbdeaa", sum := "e8bc360bab4e5852dd8c7bb90fb24ff10a8021cbf15f5d05884310b99343b3fc", func := "octant/octantlaw04.GlassEnds", spec := "glassEnds", unfollowed := true, recurses := true, plainKeys := false, apart := false, narrowed := true }
def GlassEndsUptoSaid : Prop := glassEndsUptoRow.holds Try.pinned (OpenSpec.upto glassEndsSpec)

/-- 'octanttop.TopBox', WHERE WHAT IT READS IS OF BULK AT MOST 1048576: true; the input reads as it did. -/
def topBoxUptoRow : OpenClaim := { program := "ytcjcnmpecmbdeaa", sum := "e8bc360bab4e5852dd8c7bb90fb24ff10a8021cbf15f5d05884310b99343b3fc", func := "octant/octanttop.TopBox", spec := "topBox", unfollowed := true, recurses := true, plainKeys := false, apart := false, narrowed := true }
def TopBoxUptoSaid : Prop := topBoxUptoRow.holds Try.pinned (OpenSpec.upto topBoxSpec)

/-- 'octantlaw04.GlassBest', WHERE WHAT IT READS IS OF BULK AT MOST 1048576: true; the input reads as it did. -/
def glassBestUptoRow : OpenClaim := { program := "ytcjcnmpecmbdeaa", sum := "e8bc360bab4e5852dd8c7bb90fb24ff10a8021cbf15f5d05884310b99343b3fc", func := "octant/octantlaw04.GlassBest", spec := "glassBest", unfollowed := true, recurses := true, plainKeys := false, apart := false, narrowed := true }
def GlassBestUptoSaid : Prop := glassBestUptoRow.holds Try.pinned (OpenSpec.upto glassBestSpec)

/-- 'octantlaw04.GlassTurned', WHERE WHAT IT READS IS OF BULK AT MOST 1048576: true; the input reads as it did. -/
def glassTurnedUptoRow : OpenClaim := { program := "ytcjcnmpecmbdeaa", sum := "e8bc360bab4e5852dd8c7bb90fb24ff10a8021cbf15f5d05884310b99343b3fc", func := "octant/octantlaw04.GlassTurned", spec := "glassTurned", unfollowed := true, recurses := true, plainKeys := false, apart := false, narrowed := true }
def GlassTurnedUptoSaid : Prop := glassTurnedUptoRow.holds Try.pinned (OpenSpec.upto glassTurnedSpec)

/-- 'octantlaw04.GlassAtOnce', WHERE WHAT IT READS IS OF BULK AT MOST 1048576: true; the input reads as it did. -/
def glassAtOnceUptoRow : OpenClaim := { program := "ytcjcnmpecmbdeaa", sum := "e8bc360bab4e5852dd8c7bb90fb24ff10a8021cbf15f5d05884310b99343b3fc", func := "octant/octantlaw04.GlassAtOnce", spec := "glassAtOnce", unfollowed := true, recurses := true, plainKeys := false, apart := false, narrowed := true }
def GlassAtOnceUptoSaid : Prop := glassAtOnceUptoRow.holds Try.pinned (OpenSpec.upto glassAtOnceSpec)

/-- 'octantlaw04.GlassBetter', WHERE WHAT IT READS IS OF BULK AT MOST 1048576: true; the input reads as it did. -/
def glassBetterUptoRow : OpenClaim := { program := "ytcjcnmpecmbdeaa", sum := "e8bc360bab4e5852dd8c7bb90fb24ff10a8021cbf15f5d05884310b99343b3fc", func := "octant/octantlaw04.GlassBetter", spec := "glassBetter", unfollowed := true, recurses := true, plainKeys := false, apart := false, narrowed := true }
def GlassBetterUptoSaid : Prop := glassBetterUptoRow.holds Try.pinned (OpenSpec.upto glassBetterSpec)

/-- 'octantlaw04.GlassRinged', WHERE WHAT IT READS IS OF BULK AT MOST 1048576: true; the input reads as it did. -/
def glassRingedUptoRow : OpenClaim := { program := "ytcjcnmpecmbdeaa", sum := "e8bc360bab4e5852dd8c7bb90fb24ff10a8021cbf15f5d05884310b99343b3fc", func := "octant/octantlaw04.GlassRinged", spec := "glassRinged", unfollowed := true, recurses := true, plainKeys := false, apart := false, narrowed := true }
def GlassRingedUptoSaid : Prop := glassRingedUptoRow.holds Try.pinned (OpenSpec.upto glassRingedSpec)

/-- 'octantlaw04.GlassKnown', WHERE WHAT IT READS IS OF BULK AT MOST 1048576: true; the input reads as it did. -/
def glassKnownUptoRow : OpenClaim := { program := "ytcjcnmpecmbdeaa", sum := "e8bc360bab4e5852dd8c7bb90fb24ff10a8021cbf15f5d05884310b99343b3fc", func := "octant/octantlaw04.GlassKnown", spec := "glassKnown", unfollowed := true, recurses := true, plainKeys := false, apart := false, narrowed := true }
def GlassKnownUptoSaid : Prop := glassKnownUptoRow.holds Try.pinned (OpenSpec.upto glassKnownSpec)

end Rows
end Go.Proofs.Ytcjcnmpecmbdeaa
