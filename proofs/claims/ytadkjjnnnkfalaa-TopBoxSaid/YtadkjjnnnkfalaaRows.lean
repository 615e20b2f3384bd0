/-
  No cell of these rows narrows 'for every input' (looked for: loops, veiled, ifaces, maps, wideKeys, modest, calm, conditions, laid).
  DERIVED. THE GIVEN ROWS OF THIS SEAT. 4 by the template 'for every input the law returns true; each argument reads behind the call as it read before'; 0 by the template 'total and deterministic' (their statements: YtadkjjnnnkfalaaTotals.lean).
  GIVEN WITH THE SEED: the statements are not yours to turn. If you find one false, say at which input.
  Laid BY PROGRAM, IN A SANDBOX (cutbox-rows.mjs): the forced cells as the released guide's own fill.sh prints them over the translation 5f7f2b1e52ae99ef… (all of the seat's roots in one cut). By AI agents, Wed Nov 11 2026. No macro, syntax, notation, axiom, sorry.
-/
import Derived.Test.YtadkjjnnnkfalaaChecked
import GoSem.Claim
import GoSem.ClaimJoined
import GoSem.ClaimMapViews
import Derived.JoinedTies
import Derived.KernelRfl
namespace Go.Proofs.Ytadkjjnnnkfalaa
/- THE CELL 'sum', in the pinned program and in every row, IS THE sha256 OF THE DUMP (.gsa) THAT YtadkjjnnnkfalaaProg.lean LOADS. Nothing in Lean hashes anything: it is a label: what it is worth is what the hold of that sum in a sandbox is worth. -/
noncomputable def Try.pinned : Pinned := { name := "ytadkjjnnnkfalaa", sum := "5f7f2b1e52ae99ef9c8d58880d2c21903fab19ee7a549feddca74a5482172596", checked := Try.checked }
namespace Rows
def none {H : Type} : Left H := { results := [], args := [] }

/-- 'octantlaw04.GlassKnown': WHATEVER THE INPUT: true; the input reads as it did. -/
def glassKnownSpec : ChangeSpec := { name := "glassKnown", fn := fun _ => fun
  | [] => { results := [.lit (.bool true)], args := [] }
  | _ => none }
def glassKnownRow : OpenClaim := { program := "ytadkjjnnnkfalaa", sum := "5f7f2b1e52ae99ef9c8d58880d2c21903fab19ee7a549feddca74a5482172596", func := "octant/octantlaw04.GlassKnown", spec := "glassKnown", unfollowed := true, recurses := true, plainKeys := false, apart := false }
def GlassKnownSaid : Prop := glassKnownRow.holds Try.pinned (OpenSpec.ofChange glassKnownSpec)

/-- ITS FALSE NEIGHBOUR: 'it returns false'. Refute it at one input. -/
def glassKnownWrong : ChangeSpec := { name := "glassKnown", fn := fun _ => fun
  | [] => { results := [.lit (.bool false)], args := [] }
  | _ => none }
def GlassKnownWrongFalsely : Prop := glassKnownRow.holds Try.pinned (OpenSpec.ofChange glassKnownWrong)

/-- 'octanttop.TopBox': WHATEVER THE INPUT: true; the input reads as it did. -/
def topBoxSpec : ChangeSpec := { name := "topBox", fn := fun _ => fun
  | [d1, d2, d3, d4] => { results := [.lit (.bool true)], args := [d1, d2, d3, d4] }
  | _ => none }
def topBoxRow : OpenClaim := { program := "ytadkjjnnnkfalaa", sum := "5f7f2b1e52ae99ef9c8d58880d2c21903fab19ee7a549feddca74a5482172596", func := "octant/octanttop.TopBox", spec := "topBox", unfollowed := true, recurses := true, plainKeys := false, apart := false }
def TopBoxSaid : Prop := topBoxRow.holds Try.pinned (OpenSpec.ofChange topBoxSpec)

/-- ITS FALSE NEIGHBOUR: 'it returns false'. Refute it at one input. -/
def topBoxWrong : ChangeSpec := { name := "topBox", fn := fun _ => fun
  | [d1, d2, d3, d4] => { results := [.lit (.bool false)], args := [d1, d2, d3, d4] }
  | _ => none }
def TopBoxWrongFalsely : Prop := topBoxRow.holds Try.pinned (OpenSpec.ofChange topBoxWrong)

/-- 'octanttop.TopHorizon': WHATEVER THE INPUT: true; the input reads as it did. -/
def topHorizonSpec : ChangeSpec := { name := "topHorizon", fn := fun _ => fun
  | [d1, d2, d3] => { results := [.lit (.bool true)], args := [d1, d2, d3] }
  | _ => none }
def topHorizonRow : OpenClaim := { program := "ytadkjjnnnkfalaa", sum := "5f7f2b1e52ae99ef9c8d58880d2c21903fab19ee7a549feddca74a5482172596", func := "octant/octanttop.TopHorizon", spec := "topHorizon", unfollowed := true, recurses := true, plainKeys := false, apart := false }
def TopHorizonSaid : Prop := topHorizonRow.holds Try.pinned (OpenSpec.ofChange topHorizonSpec)

/-- ITS FALSE NEIGHBOUR: 'it returns false'. Refute it at one input. -/
def topHorizonWrong : ChangeSpec := { name := "topHorizon", fn := fun _ => fun
  | [d1, d2, d3] => { results := [.lit (.bool false)], args := [d1, d2, d3] }
  | _ => none }
def TopHorizonWrongFalsely : Prop := topHorizonRow.holds Try.pinned (OpenSpec.ofChange topHorizonWrong)

/-- 'octanttop.TopLimb': WHATEVER THE INPUT: true; the input reads as it did. -/
def topLimbSpec : ChangeSpec := { name := "topLimb", fn := fun _ => fun
  | [d1, d2, d3] => { results := [.lit (.bool true)], args := [d1, d2, d3] }
  | _ => none }
def topLimbRow : OpenClaim := { program := "ytadkjjnnnkfalaa", sum := "5f7f2b1e52ae99ef9c8d58880d2c21903fab19ee7a549feddca74a5482172596", func := "octant/octanttop.TopLimb", spec := "topLimb", unfollowed := true, recurses := true, plainKeys := false, apart := false }
def TopLimbSaid : Prop := topLimbRow.holds Try.pinned (OpenSpec.ofChange topLimbSpec)

/-- ITS FALSE NEIGHBOUR: 'it returns false'. Refute it at one input. -/
def topLimbWrong : ChangeSpec := { name := "topLimb", fn := fun _ => fun
  | [d1, d2, d3] => { results := [.lit (.bool false)], args := [d1, d2, d3] }
  | _ => none }
def TopLimbWrongFalsely : Prop := topLimbRow.holds Try.pinned (OpenSpec.ofChange topLimbWrong)

/- THE SECOND FORM. 'bulk': how many values and letters a reading holds, each counted each time it is reached (what is shared counts as often as it is met; a slice's spare places count too). A statement '..UptoSaid' is the law's where the arguments, and the package variables that the reading takes, are together of bulk at most 1048576: NARROWER than '..Said'. Prove '..Said' where nothing that the law and all that it calls make is longer than what came in: it says more and counts as full. Else prove '..UptoSaid'. A law counts once. -/
mutual
def uptoBulk {H : Type} : DataW H → Nat
  | .lit (.string bytes) => bytes.length + 1
  | .lit _ => 1
  | .nil => 1
  | .ptr d => uptoBulk d + 1
  | .slice elems spare => uptoBulkAll elems + uptoBulkAll spare + 1
  | .agg parts => uptoBulkAll parts + 1
  | .iface _ d => uptoBulk d + 1
  | .map entries => uptoBulkEntries entries + 1
  | .held _ => 1
def uptoBulkAll {H : Type} : List (DataW H) → Nat
  | [] => 0
  | d :: r => uptoBulk d + uptoBulkAll r
def uptoBulkEntries {H : Type} : List (Lit × DataW H) → Nat
  | [] => 0
  | x :: r => uptoBulkEntry x + uptoBulkEntries r
def uptoBulkEntry {H : Type} : Lit × DataW H → Nat
  | (.string bytes, d) => bytes.length + uptoBulk d + 1
  | (_, d) => uptoBulk d + 1
 end
def uptoSmall : (H : Type) → List (DataW H) → Bool := fun _ ds => decide (uptoBulkAll ds ≤ 1048576)
def OpenSpec.upto (s : _root_.Go.ChangeSpec) : _root_.Go.OpenSpec := { _root_.Go.OpenSpec.ofChange s with cond := some uptoSmall }

/-- 'octantlaw04.GlassKnown', WHERE WHAT IT READS IS OF BULK AT MOST 1048576: true; the input reads as it did. -/
def glassKnownUptoRow : OpenClaim := { program := "ytadkjjnnnkfalaa", sum := "5f7f2b1e52ae99ef9c8d58880d2c21903fab19ee7a549feddca74a5482172596", func := "octant/octantlaw04.GlassKnown", spec := "glassKnown", unfollowed := true, recurses := true, plainKeys := false, apart := false, narrowed := true }
def GlassKnownUptoSaid : Prop := glassKnownUptoRow.holds Try.pinned (OpenSpec.upto glassKnownSpec)

/-- 'octanttop.TopBox', WHERE WHAT IT READS IS OF BULK AT MOST 1048576: true; the input reads as it did. -/
def topBoxUptoRow : OpenClaim := { program := "ytadkjjnnnkfalaa", sum := "5f7f2b1e52ae99ef9c8d58880d2c21903fab19ee7a549feddca74a5482172596", func := "octant/octanttop.TopBox", spec := "topBox", unfollowed := true, recurses := true, plainKeys := false, apart := false, narrowed := true }
def TopBoxUptoSaid : Prop := topBoxUptoRow.holds Try.pinned (OpenSpec.upto topBoxSpec)

/-- 'octanttop.TopHorizon', WHERE WHAT IT READS IS OF BULK AT MOST 1048576: true; the input reads as it did. -/
def topHorizonUptoRow : OpenClaim := { program := "ytadkjjnnnkfalaa", sum := "5f7f2b1e52ae99ef9c8d58880d2c21903fab19ee7a549feddca74a5482172596", func := "octant/octanttop.TopHorizon", spec := "topHorizon", unfollowed := true, recurses := true, plainKeys := false, apart := false, narrowed := true }
def TopHorizonUptoSaid : Prop := topHorizonUptoRow.holds Try.pinned (OpenSpec.upto topHorizonSpec)

/-- 'octanttop.TopLimb', WHERE WHAT IT READS IS OF BULK AT MOST 1048576: true; the input reads as it did. -/
def topLimbUptoRow : OpenClaim := { program := "ytadkjjnnnkfalaa", sum := "5f7f2b1e52ae99ef9c8d58880d2c21903fab19ee7a549feddca74a5482172596", func := "octant/octanttop.TopLimb", spec := "topLimb", unfollowed := true, recurses := true, plainKeys := false, apart := false, narrowed := true }
def TopLimbUptoSaid : Prop := topLimbUptoRow.holds Try.pinned (OpenSpec.upto topLimbSpec)

end Rows
end Go.Proofs.Ytadkjjnnnkfalaa
