/- What the claim leans on, text 5. -/
import Derived.Test.YtdkboibnokipaaaDoorRows
import Derived.Shelf.Strings.OnBuilder
import Derived.Shelf.Small.Wraps
import Derived.Shelf.Strings.BuilderF
import Derived.Shelf.Strings.Search3
import Derived.Shelf.Strings.Count
import Derived.Shelf.Strings.SplitCore
import Derived.Lib.SplitLaws
import Derived.Test.YtdkboibnokipaaaDoorChecked
import Derived.WalkKit
import Derived.BigCall
import Derived.Test.YtdkboibnokipaaaDoorC4
set_option linter.unusedSimpArgs false
set_option linter.unusedVariables false
set_option maxRecDepth 100000
set_option maxHeartbeats 16000000
namespace Go.Pm
theorem wS {k : Nat} (h : k < 9223372036854775807) : IntKind.i64.wrap ((k : Int) + 1) = ((k + 1 : Nat) : Int) := by rw [wrap_in (by omega) (by omega)]; omega
end Go.Pm

namespace Go.Proofs.YtdkboibnokipaaaDoor
open Go.Pm
@[go_sem] theorem Tryd.agg2 : aggO Tryd.prog 2 = some false := by kernel_rfl
@[go_sem] theorem Tryd.pln2 : plainO Tryd.prog 2 = some true := by kernel_rfl
@[go_sem] theorem Tryd.sz2 : szO Tryd.prog 2 = some 1 := by kernel_rfl
@[go_sem] theorem Tryd.zero2 : zeroL Tryd.prog 2 = some [.int .i64 0] := by kernel_rfl
@[go_sem] theorem Tryd.small2 : smallO Tryd.prog 2 = some (1, 8) := by kernel_rfl
@[go_sem] theorem Tryd.zt2 : zeroT Tryd.prog 2 = some (.int .i64 0) := by kernel_rfl
@[go_sem] theorem Tryd.knd2 : kindO Tryd.prog 2 = some .i64 := by kernel_rfl
@[go_sem] theorem Tryd.und2 : Program.underlying Tryd.prog 2 = some (.int .i64) := by kernel_rfl
@[go_sem] theorem Tryd.agg3 : aggO Tryd.prog 3 = some false := by kernel_rfl
@[go_sem] theorem Tryd.pln3 : plainO Tryd.prog 3 = some true := by kernel_rfl
@[go_sem] theorem Tryd.sz3 : szO Tryd.prog 3 = some 1 := by kernel_rfl
@[go_sem] theorem Tryd.zero3 : zeroL Tryd.prog 3 = some [.int .i64 0] := by kernel_rfl
@[go_sem] theorem Tryd.small3 : smallO Tryd.prog 3 = some (1, 8) := by kernel_rfl
@[go_sem] theorem Tryd.zt3 : zeroT Tryd.prog 3 = some (.int .i64 0) := by kernel_rfl
@[go_sem] theorem Tryd.knd3 : kindO Tryd.prog 3 = some .i64 := by kernel_rfl
@[go_sem] theorem Tryd.und3 : Program.underlying Tryd.prog 3 = some (.int .i64) := by kernel_rfl
@[go_sem] theorem Tryd.agg4 : aggO Tryd.prog 4 = some false := by kernel_rfl
@[go_sem] theorem Tryd.pln4 : plainO Tryd.prog 4 = some true := by kernel_rfl
@[go_sem] theorem Tryd.sz4 : szO Tryd.prog 4 = some 1 := by kernel_rfl
@[go_sem] theorem Tryd.zero4 : zeroL Tryd.prog 4 = some [.bool false] := by kernel_rfl
@[go_sem] theorem Tryd.small4 : smallO Tryd.prog 4 = some (1, 1) := by kernel_rfl
@[go_sem] theorem Tryd.zt4 : zeroT Tryd.prog 4 = some (.bool false) := by kernel_rfl
@[go_sem] theorem Tryd.eq4 (a b : Bool) : eqT Tryd.prog 20 4 (.bool a) (.bool b) = some (a == b) := by kernel_rfl
@[go_sem] theorem Tryd.und4 : Program.underlying Tryd.prog 4 = some .bool := by kernel_rfl
@[go_sem] theorem Tryd.agg5 : aggO Tryd.prog 5 = some false := by kernel_rfl
@[go_sem] theorem Tryd.pln5 : plainO Tryd.prog 5 = some true := by kernel_rfl
@[go_sem] theorem Tryd.sz5 : szO Tryd.prog 5 = some 1 := by kernel_rfl
@[go_sem] theorem Tryd.zero5 : zeroL Tryd.prog 5 = some [.int .u8 0] := by kernel_rfl
@[go_sem] theorem Tryd.small5 : smallO Tryd.prog 5 = some (1, 1) := by kernel_rfl
@[go_sem] theorem Tryd.zt5 : zeroT Tryd.prog 5 = some (.int .u8 0) := by kernel_rfl
@[go_sem] theorem Tryd.knd5 : kindO Tryd.prog 5 = some .u8 := by kernel_rfl
@[go_sem] theorem Tryd.und5 : Program.underlying Tryd.prog 5 = some (.int .u8) := by kernel_rfl
@[go_sem] theorem Tryd.agg7 : aggO Tryd.prog 7 = some true := by kernel_rfl
@[go_sem] theorem Tryd.pln7 : plainO Tryd.prog 7 = some true := by kernel_rfl
@[go_sem] theorem Tryd.sz7 : szO Tryd.prog 7 = some 4 := by kernel_rfl
@[go_sem] theorem Tryd.zero7 : zeroL Tryd.prog 7 = some [.int .i64 0, .int .i64 0, .bool false, .int .u8 0] := by kernel_rfl
@[go_sem] theorem Tryd.small7 : smallO Tryd.prog 7 = some (4, 24) := by kernel_rfl
@[go_sem] theorem Tryd.zt7 : zeroT Tryd.prog 7 = some (.agg [.int .i64 0, .int .i64 0, .bool false, .int .u8 0]) := by kernel_rfl
@[go_sem] theorem Tryd.fld7_0 : fieldO Tryd.prog 7 0 = some (0, 2) := by kernel_rfl
@[go_sem] theorem Tryd.fld7_1 : fieldO Tryd.prog 7 1 = some (1, 3) := by kernel_rfl
@[go_sem] theorem Tryd.fld7_2 : fieldO Tryd.prog 7 2 = some (2, 4) := by kernel_rfl
@[go_sem] theorem Tryd.fld7_3 : fieldO Tryd.prog 7 3 = some (3, 6) := by kernel_rfl
@[go_sem] theorem Tryd.bld7 (parts : List (Nat × TV)) : buildO Tryd.prog 7 parts = (fillT (fun i => ([(0, 1), (1, 1), (2, 1), (3, 1)] : List (Nat × Nat))[i]?) [.int .i64 0, .int .i64 0, .bool false, .int .u8 0] parts).map .agg := by kernel_rfl
@[go_sem] theorem Tryd.eqg7 : Program.eqGuardType Tryd.prog (Program.depth Tryd.prog) 7 = false := by kernel_rfl
@[go_sem] theorem Tryd.agg9 : aggO Tryd.prog 9 = some false := by kernel_rfl
@[go_sem] theorem Tryd.pln9 : plainO Tryd.prog 9 = some true := by kernel_rfl
@[go_sem] theorem Tryd.sz9 : szO Tryd.prog 9 = some 1 := by kernel_rfl
@[go_sem] theorem Tryd.zero9 : zeroL Tryd.prog 9 = some [.str ⟨#[]⟩] := by kernel_rfl
@[go_sem] theorem Tryd.small9 : smallO Tryd.prog 9 = some (1, 16) := by kernel_rfl
@[go_sem] theorem Tryd.zt9 : zeroT Tryd.prog 9 = some (.str ⟨#[]⟩) := by kernel_rfl
@[go_sem] theorem Tryd.eq9 (a b : ByteArray) : eqT Tryd.prog 20 9 (.str a) (.str b) = some (a.toList == b.toList) := by kernel_rfl
@[go_sem] theorem Tryd.und9 : Program.underlying Tryd.prog 9 = some .string := by kernel_rfl
@[go_sem] theorem Tryd.agg12 : aggO Tryd.prog 12 = some false := by kernel_rfl
@[go_sem] theorem Tryd.pln12 : plainO Tryd.prog 12 = some true := by kernel_rfl
@[go_sem] theorem Tryd.sz12 : szO Tryd.prog 12 = some 1 := by kernel_rfl
@[go_sem] theorem Tryd.zero12 : zeroL Tryd.prog 12 = some [.int .u64 0] := by kernel_rfl
@[go_sem] theorem Tryd.small12 : smallO Tryd.prog 12 = some (1, 8) := by kernel_rfl
@[go_sem] theorem Tryd.zt12 : zeroT Tryd.prog 12 = some (.int .u64 0) := by kernel_rfl
@[go_sem] theorem Tryd.knd12 : kindO Tryd.prog 12 = some .u64 := by kernel_rfl
@[go_sem] theorem Tryd.und12 : Program.underlying Tryd.prog 12 = some (.int .u64) := by kernel_rfl
@[go_sem] theorem Tryd.agg13 : aggO Tryd.prog 13 = some true := by kernel_rfl
@[go_sem] theorem Tryd.pln13 : plainO Tryd.prog 13 = some true := by kernel_rfl
@[go_sem] theorem Tryd.sz13 : szO Tryd.prog 13 = some 2 := by kernel_rfl
@[go_sem] theorem Tryd.zero13 : zeroL Tryd.prog 13 = some [.str ⟨#[]⟩, .int .u64 0] := by kernel_rfl
@[go_sem] theorem Tryd.small13 : smallO Tryd.prog 13 = some (2, 24) := by kernel_rfl
@[go_sem] theorem Tryd.zt13 : zeroT Tryd.prog 13 = some (.agg [.str ⟨#[]⟩, .int .u64 0]) := by kernel_rfl
@[go_sem] theorem Tryd.fld13_0 : fieldO Tryd.prog 13 0 = some (0, 9) := by kernel_rfl
@[go_sem] theorem Tryd.fld13_1 : fieldO Tryd.prog 13 1 = some (1, 12) := by kernel_rfl
@[go_sem] theorem Tryd.bld13 (parts : List (Nat × TV)) : buildO Tryd.prog 13 parts = (fillT (fun i => ([(0, 1), (1, 1)] : List (Nat × Nat))[i]?) [.str ⟨#[]⟩, .int .u64 0] parts).map .agg := by kernel_rfl
@[go_sem] theorem Tryd.eqg13 : Program.eqGuardType Tryd.prog (Program.depth Tryd.prog) 13 = false := by kernel_rfl
@[go_sem] theorem Tryd.agg15 : aggO Tryd.prog 15 = some false := by kernel_rfl
@[go_sem] theorem Tryd.pln15 : plainO Tryd.prog 15 = some true := by kernel_rfl
@[go_sem] theorem Tryd.sz15 : szO Tryd.prog 15 = some 1 := by kernel_rfl
@[go_sem] theorem Tryd.zero15 : zeroL Tryd.prog 15 = some [.nilPtr] := by kernel_rfl
@[go_sem] theorem Tryd.small15 : smallO Tryd.prog 15 = some (1, 8) := by kernel_rfl
@[go_sem] theorem Tryd.zt15 : zeroT Tryd.prog 15 = some (.nilPtr) := by kernel_rfl
@[go_sem] theorem Tryd.agg17 : aggO Tryd.prog 17 = some false := by kernel_rfl
@[go_sem] theorem Tryd.pln17 : plainO Tryd.prog 17 = some true := by kernel_rfl
@[go_sem] theorem Tryd.sz17 : szO Tryd.prog 17 = some 1 := by kernel_rfl
@[go_sem] theorem Tryd.zero17 : zeroL Tryd.prog 17 = some [.nilPtr] := by kernel_rfl
@[go_sem] theorem Tryd.small17 : smallO Tryd.prog 17 = some (1, 8) := by kernel_rfl
@[go_sem] theorem Tryd.zt17 : zeroT Tryd.prog 17 = some (.nilPtr) := by kernel_rfl
@[go_sem] theorem Tryd.agg20 : aggO Tryd.prog 20 = some false := by kernel_rfl
@[go_sem] theorem Tryd.pln20 : plainO Tryd.prog 20 = some false := by kernel_rfl
@[go_sem] theorem Tryd.sz20 : szO Tryd.prog 20 = some 1 := by kernel_rfl
@[go_sem] theorem Tryd.zero20 : zeroL Tryd.prog 20 = some [.nilIf] := by kernel_rfl
@[go_sem] theorem Tryd.small20 : smallO Tryd.prog 20 = some (1, 16) := by kernel_rfl
@[go_sem] theorem Tryd.zt20 : zeroT Tryd.prog 20 = some (.nilIf) := by kernel_rfl
@[go_sem] theorem Tryd.agg22 : aggO Tryd.prog 22 = some false := by kernel_rfl
@[go_sem] theorem Tryd.pln22 : plainO Tryd.prog 22 = some true := by kernel_rfl
@[go_sem] theorem Tryd.sz22 : szO Tryd.prog 22 = some 1 := by kernel_rfl
@[go_sem] theorem Tryd.zero22 : zeroL Tryd.prog 22 = some [.nilSl] := by kernel_rfl
@[go_sem] theorem Tryd.small22 : smallO Tryd.prog 22 = some (1, 24) := by kernel_rfl
@[go_sem] theorem Tryd.zt22 : zeroT Tryd.prog 22 = some (.nilSl) := by kernel_rfl
@[go_sem] theorem Tryd.eqn22 : eqT Tryd.prog 20 22 .nilSl .nilSl = some true := by kernel_rfl
@[go_sem] theorem Tryd.eqs22 (cs : List TV) (n : Nat) (f : Bool) : eqT Tryd.prog 20 22 (.sl cs n f) .nilSl = some false := by kernel_rfl
@[go_sem] theorem Tryd.eqt22 (cs : List TV) (n : Nat) (f : Bool) : eqT Tryd.prog 20 22 .nilSl (.sl cs n f) = some false := by kernel_rfl
@[go_sem] theorem Tryd.sl22 : sliceO Tryd.prog 22 = some 41 := by kernel_rfl
@[go_sem] theorem Tryd.und22 : Program.underlying Tryd.prog 22 = some (.slice 41) := by kernel_rfl
@[go_sem] theorem Tryd.agg23 : aggO Tryd.prog 23 = some false := by kernel_rfl
@[go_sem] theorem Tryd.pln23 : plainO Tryd.prog 23 = some true := by kernel_rfl
@[go_sem] theorem Tryd.sz23 : szO Tryd.prog 23 = some 1 := by kernel_rfl
@[go_sem] theorem Tryd.zero23 : zeroL Tryd.prog 23 = some [.int .i64 0] := by kernel_rfl
@[go_sem] theorem Tryd.small23 : smallO Tryd.prog 23 = some (1, 8) := by kernel_rfl
@[go_sem] theorem Tryd.zt23 : zeroT Tryd.prog 23 = some (.int .i64 0) := by kernel_rfl
@[go_sem] theorem Tryd.knd23 : kindO Tryd.prog 23 = some .i64 := by kernel_rfl
@[go_sem] theorem Tryd.und23 : Program.underlying Tryd.prog 23 = some (.int .i64) := by kernel_rfl
@[go_sem] theorem Tryd.agg27 : aggO Tryd.prog 27 = some false := by kernel_rfl
@[go_sem] theorem Tryd.pln27 : plainO Tryd.prog 27 = some true := by kernel_rfl
@[go_sem] theorem Tryd.sz27 : szO Tryd.prog 27 = some 1 := by kernel_rfl
@[go_sem] theorem Tryd.zero27 : zeroL Tryd.prog 27 = some [.nilFn] := by kernel_rfl
@[go_sem] theorem Tryd.small27 : smallO Tryd.prog 27 = some (1, 8) := by kernel_rfl
@[go_sem] theorem Tryd.zt27 : zeroT Tryd.prog 27 = some (.nilFn) := by kernel_rfl
@[go_sem] theorem Tryd.agg28 : aggO Tryd.prog 28 = some true := by kernel_rfl
@[go_sem] theorem Tryd.pln28 : plainO Tryd.prog 28 = some true := by kernel_rfl
@[go_sem] theorem Tryd.sz28 : szO Tryd.prog 28 = some 3 := by kernel_rfl
@[go_sem] theorem Tryd.zero28 : zeroL Tryd.prog 28 = some [.int .i64 0, .int .i64 0, .int .i64 0] := by kernel_rfl
@[go_sem] theorem Tryd.small28 : smallO Tryd.prog 28 = some (3, 24) := by kernel_rfl
@[go_sem] theorem Tryd.zt28 : zeroT Tryd.prog 28 = some (.agg [.int .i64 0, .int .i64 0, .int .i64 0]) := by kernel_rfl
@[go_sem] theorem Tryd.fld28_0 : fieldO Tryd.prog 28 0 = some (0, 3) := by kernel_rfl
@[go_sem] theorem Tryd.fld28_1 : fieldO Tryd.prog 28 1 = some (1, 3) := by kernel_rfl
@[go_sem] theorem Tryd.fld28_2 : fieldO Tryd.prog 28 2 = some (2, 3) := by kernel_rfl
@[go_sem] theorem Tryd.bld28 (parts : List (Nat × TV)) : buildO Tryd.prog 28 parts = (fillT (fun i => ([(0, 1), (1, 1), (2, 1)] : List (Nat × Nat))[i]?) [.int .i64 0, .int .i64 0, .int .i64 0] parts).map .agg := by kernel_rfl
@[go_sem] theorem Tryd.eqg28 : Program.eqGuardType Tryd.prog (Program.depth Tryd.prog) 28 = false := by kernel_rfl
@[go_sem] theorem Tryd.agg29 : aggO Tryd.prog 29 = some true := by kernel_rfl
@[go_sem] theorem Tryd.pln29 : plainO Tryd.prog 29 = some true := by kernel_rfl
@[go_sem] theorem Tryd.sz29 : szO Tryd.prog 29 = some 3 := by kernel_rfl
@[go_sem] theorem Tryd.zero29 : zeroL Tryd.prog 29 = some [.int .i64 0, .int .i64 0, .int .i64 0] := by kernel_rfl
@[go_sem] theorem Tryd.small29 : smallO Tryd.prog 29 = some (3, 24) := by kernel_rfl
@[go_sem] theorem Tryd.zt29 : zeroT Tryd.prog 29 = some (.agg [.int .i64 0, .int .i64 0, .int .i64 0]) := by kernel_rfl
@[go_sem] theorem Tryd.fld29_0 : fieldO Tryd.prog 29 0 = some (0, 3) := by kernel_rfl
@[go_sem] theorem Tryd.fld29_1 : fieldO Tryd.prog 29 1 = some (1, 3) := by kernel_rfl
@[go_sem] theorem Tryd.fld29_2 : fieldO Tryd.prog 29 2 = some (2, 3) := by kernel_rfl
@[go_sem] theorem Tryd.bld29 (parts : List (Nat × TV)) : buildO Tryd.prog 29 parts = (fillT (fun i => ([(0, 1), (1, 1), (2, 1)] : List (Nat × Nat))[i]?) [.int .i64 0, .int .i64 0, .int .i64 0] parts).map .agg := by kernel_rfl
@[go_sem] theorem Tryd.eq29 (a0 b0 : Int) (a1 b1 : Int) (a2 b2 : Int) : eqT Tryd.prog 20 29 (.agg [.int .i64 a0, .int .i64 a1, .int .i64 a2]) (.agg [.int .i64 b0, .int .i64 b1, .int .i64 b2]) = some ((a0 == b0) && ((a1 == b1) && ((a2 == b2) && true))) := by kernel_rfl
@[go_sem] theorem Tryd.eqg29 : Program.eqGuardType Tryd.prog (Program.depth Tryd.prog) 29 = false := by kernel_rfl
@[go_sem] theorem Tryd.agg31 : aggO Tryd.prog 31 = some false := by kernel_rfl
@[go_sem] theorem Tryd.pln31 : plainO Tryd.prog 31 = some true := by kernel_rfl
@[go_sem] theorem Tryd.sz31 : szO Tryd.prog 31 = some 1 := by kernel_rfl
@[go_sem] theorem Tryd.zero31 : zeroL Tryd.prog 31 = some [.nilFn] := by kernel_rfl
@[go_sem] theorem Tryd.small31 : smallO Tryd.prog 31 = some (1, 8) := by kernel_rfl
@[go_sem] theorem Tryd.zt31 : zeroT Tryd.prog 31 = some (.nilFn) := by kernel_rfl
@[go_sem] theorem Tryd.agg33 : aggO Tryd.prog 33 = some false := by kernel_rfl
@[go_sem] theorem Tryd.pln33 : plainO Tryd.prog 33 = some true := by kernel_rfl
@[go_sem] theorem Tryd.sz33 : szO Tryd.prog 33 = some 1 := by kernel_rfl
@[go_sem] theorem Tryd.zero33 : zeroL Tryd.prog 33 = some [.nilFn] := by kernel_rfl
@[go_sem] theorem Tryd.small33 : smallO Tryd.prog 33 = some (1, 8) := by kernel_rfl
@[go_sem] theorem Tryd.zt33 : zeroT Tryd.prog 33 = some (.nilFn) := by kernel_rfl
@[go_sem] theorem Tryd.agg35 : aggO Tryd.prog 35 = some false := by kernel_rfl
@[go_sem] theorem Tryd.pln35 : plainO Tryd.prog 35 = some true := by kernel_rfl
@[go_sem] theorem Tryd.sz35 : szO Tryd.prog 35 = some 1 := by kernel_rfl
@[go_sem] theorem Tryd.zero35 : zeroL Tryd.prog 35 = some [.nilFn] := by kernel_rfl
@[go_sem] theorem Tryd.small35 : smallO Tryd.prog 35 = some (1, 8) := by kernel_rfl
@[go_sem] theorem Tryd.zt35 : zeroT Tryd.prog 35 = some (.nilFn) := by kernel_rfl
@[go_sem] theorem Tryd.agg38 : aggO Tryd.prog 38 = some false := by kernel_rfl
@[go_sem] theorem Tryd.pln38 : plainO Tryd.prog 38 = some true := by kernel_rfl
@[go_sem] theorem Tryd.sz38 : szO Tryd.prog 38 = some 1 := by kernel_rfl
@[go_sem] theorem Tryd.zero38 : zeroL Tryd.prog 38 = some [.nilFn] := by kernel_rfl
@[go_sem] theorem Tryd.small38 : smallO Tryd.prog 38 = some (1, 8) := by kernel_rfl
@[go_sem] theorem Tryd.zt38 : zeroT Tryd.prog 38 = some (.nilFn) := by kernel_rfl
@[go_sem] theorem Tryd.agg39 : aggO Tryd.prog 39 = some false := by kernel_rfl
@[go_sem] theorem Tryd.pln39 : plainO Tryd.prog 39 = some true := by kernel_rfl
@[go_sem] theorem Tryd.sz39 : szO Tryd.prog 39 = some 1 := by kernel_rfl
@[go_sem] theorem Tryd.zero39 : zeroL Tryd.prog 39 = some [.nilSl] := by kernel_rfl
@[go_sem] theorem Tryd.small39 : smallO Tryd.prog 39 = some (1, 24) := by kernel_rfl
@[go_sem] theorem Tryd.zt39 : zeroT Tryd.prog 39 = some (.nilSl) := by kernel_rfl
@[go_sem] theorem Tryd.eqn39 : eqT Tryd.prog 20 39 .nilSl .nilSl = some true := by kernel_rfl
@[go_sem] theorem Tryd.eqs39 (cs : List TV) (n : Nat) (f : Bool) : eqT Tryd.prog 20 39 (.sl cs n f) .nilSl = some false := by kernel_rfl
@[go_sem] theorem Tryd.eqt39 (cs : List TV) (n : Nat) (f : Bool) : eqT Tryd.prog 20 39 .nilSl (.sl cs n f) = some false := by kernel_rfl
@[go_sem] theorem Tryd.sl39 : sliceO Tryd.prog 39 = some 66 := by kernel_rfl
@[go_sem] theorem Tryd.und39 : Program.underlying Tryd.prog 39 = some (.slice 66) := by kernel_rfl
@[go_sem] theorem Tryd.agg41 : aggO Tryd.prog 41 = some false := by kernel_rfl
@[go_sem] theorem Tryd.pln41 : plainO Tryd.prog 41 = some true := by kernel_rfl
@[go_sem] theorem Tryd.sz41 : szO Tryd.prog 41 = some 1 := by kernel_rfl
@[go_sem] theorem Tryd.zero41 : zeroL Tryd.prog 41 = some [.nilSl] := by kernel_rfl
@[go_sem] theorem Tryd.small41 : smallO Tryd.prog 41 = some (1, 24) := by kernel_rfl
@[go_sem] theorem Tryd.zt41 : zeroT Tryd.prog 41 = some (.nilSl) := by kernel_rfl
@[go_sem] theorem Tryd.eqn41 : eqT Tryd.prog 20 41 .nilSl .nilSl = some true := by kernel_rfl
@[go_sem] theorem Tryd.eqs41 (cs : List TV) (n : Nat) (f : Bool) : eqT Tryd.prog 20 41 (.sl cs n f) .nilSl = some false := by kernel_rfl
@[go_sem] theorem Tryd.eqt41 (cs : List TV) (n : Nat) (f : Bool) : eqT Tryd.prog 20 41 .nilSl (.sl cs n f) = some false := by kernel_rfl
@[go_sem] theorem Tryd.sl41 : sliceO Tryd.prog 41 = some 9 := by kernel_rfl
@[go_sem] theorem Tryd.und41 : Program.underlying Tryd.prog 41 = some (.slice 9) := by kernel_rfl
@[go_sem] theorem Tryd.agg42 : aggO Tryd.prog 42 = some true := by kernel_rfl
@[go_sem] theorem Tryd.pln42 : plainO Tryd.prog 42 = some true := by kernel_rfl
@[go_sem] theorem Tryd.sz42 : szO Tryd.prog 42 = some 5 := by kernel_rfl
@[go_sem] theorem Tryd.zero42 : zeroL Tryd.prog 42 = some [.int .i64 0, .int .i64 0, .str ⟨#[]⟩, .int .i64 0, .nilSl] := by kernel_rfl
@[go_sem] theorem Tryd.small42 : smallO Tryd.prog 42 = some (5, 64) := by kernel_rfl
@[go_sem] theorem Tryd.zt42 : zeroT Tryd.prog 42 = some (.agg [.int .i64 0, .int .i64 0, .str ⟨#[]⟩, .int .i64 0, .nilSl]) := by kernel_rfl
@[go_sem] theorem Tryd.fld42_0 : fieldO Tryd.prog 42 0 = some (0, 3) := by kernel_rfl
@[go_sem] theorem Tryd.fld42_1 : fieldO Tryd.prog 42 1 = some (1, 3) := by kernel_rfl
@[go_sem] theorem Tryd.fld42_2 : fieldO Tryd.prog 42 2 = some (2, 9) := by kernel_rfl
@[go_sem] theorem Tryd.fld42_3 : fieldO Tryd.prog 42 3 = some (3, 3) := by kernel_rfl
@[go_sem] theorem Tryd.fld42_4 : fieldO Tryd.prog 42 4 = some (4, 41) := by kernel_rfl
@[go_sem] theorem Tryd.bld42 (parts : List (Nat × TV)) : buildO Tryd.prog 42 parts = (fillT (fun i => ([(0, 1), (1, 1), (2, 1), (3, 1), (4, 1)] : List (Nat × Nat))[i]?) [.int .i64 0, .int .i64 0, .str ⟨#[]⟩, .int .i64 0, .nilSl] parts).map .agg := by kernel_rfl
@[go_sem] theorem Tryd.bldp42 (parts : List (Nat × PV)) : buildP Tryd.prog 42 parts = fillP (fun i => ([(0, 1), (1, 1), (2, 1), (3, 1), (4, 1)] : List (Nat × Nat))[i]?) [.t (.int .i64 0), .t (.int .i64 0), .t (.str ⟨#[]⟩), .t (.int .i64 0), .t (.nilSl)] parts := by kernel_rfl
@[go_sem] theorem Tryd.eqg42 : Program.eqGuardType Tryd.prog (Program.depth Tryd.prog) 42 = false := by kernel_rfl
@[go_sem] theorem Tryd.agg43 : aggO Tryd.prog 43 = some true := by kernel_rfl
@[go_sem] theorem Tryd.pln43 : plainO Tryd.prog 43 = some true := by kernel_rfl
@[go_sem] theorem Tryd.sz43 : szO Tryd.prog 43 = some 5 := by kernel_rfl
@[go_sem] theorem Tryd.zero43 : zeroL Tryd.prog 43 = some [.int .i64 0, .int .i64 0, .str ⟨#[]⟩, .int .i64 0, .nilSl] := by kernel_rfl
@[go_sem] theorem Tryd.small43 : smallO Tryd.prog 43 = some (5, 64) := by kernel_rfl
@[go_sem] theorem Tryd.zt43 : zeroT Tryd.prog 43 = some (.agg [.int .i64 0, .int .i64 0, .str ⟨#[]⟩, .int .i64 0, .nilSl]) := by kernel_rfl
@[go_sem] theorem Tryd.fld43_0 : fieldO Tryd.prog 43 0 = some (0, 3) := by kernel_rfl
@[go_sem] theorem Tryd.fld43_1 : fieldO Tryd.prog 43 1 = some (1, 3) := by kernel_rfl
@[go_sem] theorem Tryd.fld43_2 : fieldO Tryd.prog 43 2 = some (2, 9) := by kernel_rfl
@[go_sem] theorem Tryd.fld43_3 : fieldO Tryd.prog 43 3 = some (3, 3) := by kernel_rfl
@[go_sem] theorem Tryd.fld43_4 : fieldO Tryd.prog 43 4 = some (4, 41) := by kernel_rfl
@[go_sem] theorem Tryd.bld43 (parts : List (Nat × TV)) : buildO Tryd.prog 43 parts = (fillT (fun i => ([(0, 1), (1, 1), (2, 1), (3, 1), (4, 1)] : List (Nat × Nat))[i]?) [.int .i64 0, .int .i64 0, .str ⟨#[]⟩, .int .i64 0, .nilSl] parts).map .agg := by kernel_rfl
@[go_sem] theorem Tryd.bldp43 (parts : List (Nat × PV)) : buildP Tryd.prog 43 parts = fillP (fun i => ([(0, 1), (1, 1), (2, 1), (3, 1), (4, 1)] : List (Nat × Nat))[i]?) [.t (.int .i64 0), .t (.int .i64 0), .t (.str ⟨#[]⟩), .t (.int .i64 0), .t (.nilSl)] parts := by kernel_rfl
@[go_sem] theorem Tryd.eqg43 : Program.eqGuardType Tryd.prog (Program.depth Tryd.prog) 43 = false := by kernel_rfl
@[go_sem] theorem Tryd.agg47 : aggO Tryd.prog 47 = some true := by kernel_rfl
@[go_sem] theorem Tryd.pln47 : plainO Tryd.prog 47 = some true := by kernel_rfl
@[go_sem] theorem Tryd.sz47 : szO Tryd.prog 47 = some 2 := by kernel_rfl
@[go_sem] theorem Tryd.zero47 : zeroL Tryd.prog 47 = some [.int .i64 0, .int .i64 0] := by kernel_rfl
@[go_sem] theorem Tryd.small47 : smallO Tryd.prog 47 = some (2, 16) := by kernel_rfl
@[go_sem] theorem Tryd.zt47 : zeroT Tryd.prog 47 = some (.agg [.int .i64 0, .int .i64 0]) := by kernel_rfl
@[go_sem] theorem Tryd.fld47_0 : fieldO Tryd.prog 47 0 = some (0, 3) := by kernel_rfl
@[go_sem] theorem Tryd.fld47_1 : fieldO Tryd.prog 47 1 = some (1, 3) := by kernel_rfl
@[go_sem] theorem Tryd.bld47 (parts : List (Nat × TV)) : buildO Tryd.prog 47 parts = (fillT (fun i => ([(0, 1), (1, 1)] : List (Nat × Nat))[i]?) [.int .i64 0, .int .i64 0] parts).map .agg := by kernel_rfl
@[go_sem] theorem Tryd.eqg47 : Program.eqGuardType Tryd.prog (Program.depth Tryd.prog) 47 = false := by kernel_rfl
@[go_sem] theorem Tryd.agg48 : aggO Tryd.prog 48 = some true := by kernel_rfl
@[go_sem] theorem Tryd.pln48 : plainO Tryd.prog 48 = some true := by kernel_rfl
@[go_sem] theorem Tryd.sz48 : szO Tryd.prog 48 = some 2 := by kernel_rfl
@[go_sem] theorem Tryd.zero48 : zeroL Tryd.prog 48 = some [.int .i64 0, .int .i64 0] := by kernel_rfl
@[go_sem] theorem Tryd.small48 : smallO Tryd.prog 48 = some (2, 16) := by kernel_rfl
@[go_sem] theorem Tryd.zt48 : zeroT Tryd.prog 48 = some (.agg [.int .i64 0, .int .i64 0]) := by kernel_rfl
@[go_sem] theorem Tryd.fld48_0 : fieldO Tryd.prog 48 0 = some (0, 3) := by kernel_rfl
@[go_sem] theorem Tryd.fld48_1 : fieldO Tryd.prog 48 1 = some (1, 3) := by kernel_rfl
@[go_sem] theorem Tryd.bld48 (parts : List (Nat × TV)) : buildO Tryd.prog 48 parts = (fillT (fun i => ([(0, 1), (1, 1)] : List (Nat × Nat))[i]?) [.int .i64 0, .int .i64 0] parts).map .agg := by kernel_rfl
@[go_sem] theorem Tryd.eq48 (a0 b0 : Int) (a1 b1 : Int) : eqT Tryd.prog 20 48 (.agg [.int .i64 a0, .int .i64 a1]) (.agg [.int .i64 b0, .int .i64 b1]) = some ((a0 == b0) && ((a1 == b1) && true)) := by kernel_rfl
@[go_sem] theorem Tryd.eqg48 : Program.eqGuardType Tryd.prog (Program.depth Tryd.prog) 48 = false := by kernel_rfl
@[go_sem] theorem Tryd.agg52 : aggO Tryd.prog 52 = some false := by kernel_rfl
@[go_sem] theorem Tryd.pln52 : plainO Tryd.prog 52 = some true := by kernel_rfl
@[go_sem] theorem Tryd.sz52 : szO Tryd.prog 52 = some 1 := by kernel_rfl
@[go_sem] theorem Tryd.zero52 : zeroL Tryd.prog 52 = some [.nilSl] := by kernel_rfl
@[go_sem] theorem Tryd.small52 : smallO Tryd.prog 52 = some (1, 24) := by kernel_rfl
@[go_sem] theorem Tryd.zt52 : zeroT Tryd.prog 52 = some (.nilSl) := by kernel_rfl
@[go_sem] theorem Tryd.eqn52 : eqT Tryd.prog 20 52 .nilSl .nilSl = some true := by kernel_rfl
@[go_sem] theorem Tryd.eqs52 (cs : List TV) (n : Nat) (f : Bool) : eqT Tryd.prog 20 52 (.sl cs n f) .nilSl = some false := by kernel_rfl
@[go_sem] theorem Tryd.eqt52 (cs : List TV) (n : Nat) (f : Bool) : eqT Tryd.prog 20 52 .nilSl (.sl cs n f) = some false := by kernel_rfl
@[go_sem] theorem Tryd.sl52 : sliceO Tryd.prog 52 = some 3 := by kernel_rfl
@[go_sem] theorem Tryd.und52 : Program.underlying Tryd.prog 52 = some (.slice 3) := by kernel_rfl
@[go_sem] theorem Tryd.agg57 : aggO Tryd.prog 57 = some false := by kernel_rfl
@[go_sem] theorem Tryd.pln57 : plainO Tryd.prog 57 = some true := by kernel_rfl
@[go_sem] theorem Tryd.sz57 : szO Tryd.prog 57 = some 1 := by kernel_rfl
@[go_sem] theorem Tryd.zero57 : zeroL Tryd.prog 57 = some [.nilFn] := by kernel_rfl
@[go_sem] theorem Tryd.small57 : smallO Tryd.prog 57 = some (1, 8) := by kernel_rfl
@[go_sem] theorem Tryd.zt57 : zeroT Tryd.prog 57 = some (.nilFn) := by kernel_rfl
@[go_sem] theorem Tryd.agg59 : aggO Tryd.prog 59 = some true := by kernel_rfl
@[go_sem] theorem Tryd.pln59 : plainO Tryd.prog 59 = some true := by kernel_rfl
@[go_sem] theorem Tryd.sz59 : szO Tryd.prog 59 = some 3 := by kernel_rfl
@[go_sem] theorem Tryd.zero59 : zeroL Tryd.prog 59 = some [.int .i64 0, .int .i64 0, .int .i64 0] := by kernel_rfl
@[go_sem] theorem Tryd.small59 : smallO Tryd.prog 59 = some (3, 24) := by kernel_rfl
@[go_sem] theorem Tryd.zt59 : zeroT Tryd.prog 59 = some (.agg [.int .i64 0, .int .i64 0, .int .i64 0]) := by kernel_rfl
@[go_sem] theorem Tryd.bld59 (parts : List (Nat × TV)) : buildO Tryd.prog 59 parts = (fillT (fun i => some (i * 1, 1)) [.int .i64 0, .int .i64 0, .int .i64 0] parts).map .agg := by kernel_rfl
@[go_sem] theorem Tryd.eq59 (a0 b0 : Int) (a1 b1 : Int) (a2 b2 : Int) : eqT Tryd.prog 20 59 (.agg [.int .i64 a0, .int .i64 a1, .int .i64 a2]) (.agg [.int .i64 b0, .int .i64 b1, .int .i64 b2]) = some ((a0 == b0) && ((a1 == b1) && ((a2 == b2) && true))) := by kernel_rfl
@[go_sem] theorem Tryd.eqg59 : Program.eqGuardType Tryd.prog (Program.depth Tryd.prog) 59 = false := by kernel_rfl
@[go_sem] theorem Tryd.arr59 : arrayO Tryd.prog 59 = some (3, 3) := by kernel_rfl
@[go_sem] theorem Tryd.und59 : Program.underlying Tryd.prog 59 = some (.array 3 3) := by kernel_rfl
@[go_sem] theorem Tryd.agg65 : aggO Tryd.prog 65 = some true := by kernel_rfl
@[go_sem] theorem Tryd.pln65 : plainO Tryd.prog 65 = some true := by kernel_rfl
@[go_sem] theorem Tryd.sz65 : szO Tryd.prog 65 = some 5 := by kernel_rfl
@[go_sem] theorem Tryd.zero65 : zeroL Tryd.prog 65 = some [.int .i64 0, .int .i64 0, .int .i64 0, .str ⟨#[]⟩, .int .i64 0] := by kernel_rfl
@[go_sem] theorem Tryd.small65 : smallO Tryd.prog 65 = some (5, 48) := by kernel_rfl
@[go_sem] theorem Tryd.zt65 : zeroT Tryd.prog 65 = some (.agg [.int .i64 0, .int .i64 0, .int .i64 0, .str ⟨#[]⟩, .int .i64 0]) := by kernel_rfl
@[go_sem] theorem Tryd.fld65_0 : fieldO Tryd.prog 65 0 = some (0, 3) := by kernel_rfl
@[go_sem] theorem Tryd.fld65_1 : fieldO Tryd.prog 65 1 = some (1, 3) := by kernel_rfl
@[go_sem] theorem Tryd.fld65_2 : fieldO Tryd.prog 65 2 = some (2, 3) := by kernel_rfl
@[go_sem] theorem Tryd.fld65_3 : fieldO Tryd.prog 65 3 = some (3, 9) := by kernel_rfl
@[go_sem] theorem Tryd.fld65_4 : fieldO Tryd.prog 65 4 = some (4, 3) := by kernel_rfl
@[go_sem] theorem Tryd.bld65 (parts : List (Nat × TV)) : buildO Tryd.prog 65 parts = (fillT (fun i => ([(0, 1), (1, 1), (2, 1), (3, 1), (4, 1)] : List (Nat × Nat))[i]?) [.int .i64 0, .int .i64 0, .int .i64 0, .str ⟨#[]⟩, .int .i64 0] parts).map .agg := by kernel_rfl
@[go_sem] theorem Tryd.eqg65 : Program.eqGuardType Tryd.prog (Program.depth Tryd.prog) 65 = false := by kernel_rfl
@[go_sem] theorem Tryd.agg66 : aggO Tryd.prog 66 = some true := by kernel_rfl
@[go_sem] theorem Tryd.pln66 : plainO Tryd.prog 66 = some true := by kernel_rfl
@[go_sem] theorem Tryd.sz66 : szO Tryd.prog 66 = some 5 := by kernel_rfl
@[go_sem] theorem Tryd.zero66 : zeroL Tryd.prog 66 = some [.int .i64 0, .int .i64 0, .int .i64 0, .str ⟨#[]⟩, .int .i64 0] := by kernel_rfl
@[go_sem] theorem Tryd.small66 : smallO Tryd.prog 66 = some (5, 48) := by kernel_rfl
@[go_sem] theorem Tryd.zt66 : zeroT Tryd.prog 66 = some (.agg [.int .i64 0, .int .i64 0, .int .i64 0, .str ⟨#[]⟩, .int .i64 0]) := by kernel_rfl
@[go_sem] theorem Tryd.fld66_0 : fieldO Tryd.prog 66 0 = some (0, 3) := by kernel_rfl
@[go_sem] theorem Tryd.fld66_1 : fieldO Tryd.prog 66 1 = some (1, 3) := by kernel_rfl
@[go_sem] theorem Tryd.fld66_2 : fieldO Tryd.prog 66 2 = some (2, 3) := by kernel_rfl
@[go_sem] theorem Tryd.fld66_3 : fieldO Tryd.prog 66 3 = some (3, 9) := by kernel_rfl
@[go_sem] theorem Tryd.fld66_4 : fieldO Tryd.prog 66 4 = some (4, 3) := by kernel_rfl
@[go_sem] theorem Tryd.bld66 (parts : List (Nat × TV)) : buildO Tryd.prog 66 parts = (fillT (fun i => ([(0, 1), (1, 1), (2, 1), (3, 1), (4, 1)] : List (Nat × Nat))[i]?) [.int .i64 0, .int .i64 0, .int .i64 0, .str ⟨#[]⟩, .int .i64 0] parts).map .agg := by kernel_rfl
@[go_sem] theorem Tryd.eq66 (a0 b0 : Int) (a1 b1 : Int) (a2 b2 : Int) (a3 b3 : ByteArray) (a4 b4 : Int) : eqT Tryd.prog 20 66 (.agg [.int .i64 a0, .int .i64 a1, .int .i64 a2, .str a3, .int .i64 a4]) (.agg [.int .i64 b0, .int .i64 b1, .int .i64 b2, .str b3, .int .i64 b4]) = some ((a0 == b0) && ((a1 == b1) && ((a2 == b2) && ((a3.toList == b3.toList) && ((a4 == b4) && true))))) := by kernel_rfl
@[go_sem] theorem Tryd.eqg66 : Program.eqGuardType Tryd.prog (Program.depth Tryd.prog) 66 = false := by kernel_rfl
@[go_sem] theorem Tryd.agg77 : aggO Tryd.prog 77 = some false := by kernel_rfl
@[go_sem] theorem Tryd.pln77 : plainO Tryd.prog 77 = some true := by kernel_rfl
@[go_sem] theorem Tryd.sz77 : szO Tryd.prog 77 = some 1 := by kernel_rfl
@[go_sem] theorem Tryd.zero77 : zeroL Tryd.prog 77 = some [.nilSl] := by kernel_rfl
@[go_sem] theorem Tryd.small77 : smallO Tryd.prog 77 = some (1, 24) := by kernel_rfl
@[go_sem] theorem Tryd.zt77 : zeroT Tryd.prog 77 = some (.nilSl) := by kernel_rfl
@[go_sem] theorem Tryd.eqn77 : eqT Tryd.prog 20 77 .nilSl .nilSl = some true := by kernel_rfl
@[go_sem] theorem Tryd.eqs77 (cs : List TV) (n : Nat) (f : Bool) : eqT Tryd.prog 20 77 (.sl cs n f) .nilSl = some false := by kernel_rfl
@[go_sem] theorem Tryd.eqt77 (cs : List TV) (n : Nat) (f : Bool) : eqT Tryd.prog 20 77 .nilSl (.sl cs n f) = some false := by kernel_rfl
@[go_sem] theorem Tryd.sl77 : sliceO Tryd.prog 77 = some 143 := by kernel_rfl
@[go_sem] theorem Tryd.und77 : Program.underlying Tryd.prog 77 = some (.slice 143) := by kernel_rfl
@[go_sem] theorem Tryd.agg82 : aggO Tryd.prog 82 = some false := by kernel_rfl
@[go_sem] theorem Tryd.pln82 : plainO Tryd.prog 82 = some true := by kernel_rfl
@[go_sem] theorem Tryd.sz82 : szO Tryd.prog 82 = some 1 := by kernel_rfl
@[go_sem] theorem Tryd.zero82 : zeroL Tryd.prog 82 = some [.nilSl] := by kernel_rfl
@[go_sem] theorem Tryd.small82 : smallO Tryd.prog 82 = some (1, 24) := by kernel_rfl
@[go_sem] theorem Tryd.zt82 : zeroT Tryd.prog 82 = some (.nilSl) := by kernel_rfl
@[go_sem] theorem Tryd.eqn82 : eqT Tryd.prog 20 82 .nilSl .nilSl = some true := by kernel_rfl
@[go_sem] theorem Tryd.eqs82 (cs : List TV) (n : Nat) (f : Bool) : eqT Tryd.prog 20 82 (.sl cs n f) .nilSl = some false := by kernel_rfl
@[go_sem] theorem Tryd.eqt82 (cs : List TV) (n : Nat) (f : Bool) : eqT Tryd.prog 20 82 .nilSl (.sl cs n f) = some false := by kernel_rfl
@[go_sem] theorem Tryd.sl82 : sliceO Tryd.prog 82 = some 41 := by kernel_rfl
@[go_sem] theorem Tryd.und82 : Program.underlying Tryd.prog 82 = some (.slice 41) := by kernel_rfl
@[go_sem] theorem Tryd.agg83 : aggO Tryd.prog 83 = some false := by kernel_rfl
@[go_sem] theorem Tryd.pln83 : plainO Tryd.prog 83 = some true := by kernel_rfl
@[go_sem] theorem Tryd.sz83 : szO Tryd.prog 83 = some 1 := by kernel_rfl
@[go_sem] theorem Tryd.zero83 : zeroL Tryd.prog 83 = some [.nilSl] := by kernel_rfl
@[go_sem] theorem Tryd.small83 : smallO Tryd.prog 83 = some (1, 24) := by kernel_rfl
@[go_sem] theorem Tryd.zt83 : zeroT Tryd.prog 83 = some (.nilSl) := by kernel_rfl
@[go_sem] theorem Tryd.eqn83 : eqT Tryd.prog 20 83 .nilSl .nilSl = some true := by kernel_rfl
@[go_sem] theorem Tryd.eqs83 (cs : List TV) (n : Nat) (f : Bool) : eqT Tryd.prog 20 83 (.sl cs n f) .nilSl = some false := by kernel_rfl
@[go_sem] theorem Tryd.eqt83 (cs : List TV) (n : Nat) (f : Bool) : eqT Tryd.prog 20 83 .nilSl (.sl cs n f) = some false := by kernel_rfl
@[go_sem] theorem Tryd.sl83 : sliceO Tryd.prog 83 = some 29 := by kernel_rfl
@[go_sem] theorem Tryd.und83 : Program.underlying Tryd.prog 83 = some (.slice 29) := by kernel_rfl
@[go_sem] theorem Tryd.agg84 : aggO Tryd.prog 84 = some false := by kernel_rfl
@[go_sem] theorem Tryd.pln84 : plainO Tryd.prog 84 = some true := by kernel_rfl
@[go_sem] theorem Tryd.sz84 : szO Tryd.prog 84 = some 1 := by kernel_rfl
@[go_sem] theorem Tryd.zero84 : zeroL Tryd.prog 84 = some [.nilMap] := by kernel_rfl
@[go_sem] theorem Tryd.small84 : smallO Tryd.prog 84 = some (1, 8) := by kernel_rfl
@[go_sem] theorem Tryd.key84 (a0 : Int) (a1 : Int) (a2 : Int) : keyOk Tryd.prog 84 (.agg [.int .i64 a0, .int .i64 a1, .int .i64 a2]) = true := by kernel_rfl
@[go_sem] theorem Tryd.map84 : mapO Tryd.prog 84 = some (29, 3) := by kernel_rfl
@[go_sem] theorem Tryd.und84 : Program.underlying Tryd.prog 84 = some (.map 29 3) := by kernel_rfl
@[go_sem] theorem Tryd.zt84 : zeroT Tryd.prog 84 = some (.nilMap) := by kernel_rfl
@[go_sem] theorem Tryd.agg86 : aggO Tryd.prog 86 = some true := by kernel_rfl
@[go_sem] theorem Tryd.pln86 : plainO Tryd.prog 86 = some true := by kernel_rfl
@[go_sem] theorem Tryd.sz86 : szO Tryd.prog 86 = some 3 := by kernel_rfl
@[go_sem] theorem Tryd.zero86 : zeroL Tryd.prog 86 = some [.nilSl, .nilSl, .nilMap] := by kernel_rfl
@[go_sem] theorem Tryd.small86 : smallO Tryd.prog 86 = some (3, 56) := by kernel_rfl
@[go_sem] theorem Tryd.zt86 : zeroT Tryd.prog 86 = some (.agg [.nilSl, .nilSl, .nilMap]) := by kernel_rfl
@[go_sem] theorem Tryd.fld86_0 : fieldO Tryd.prog 86 0 = some (0, 82) := by kernel_rfl
@[go_sem] theorem Tryd.fld86_1 : fieldO Tryd.prog 86 1 = some (1, 83) := by kernel_rfl
@[go_sem] theorem Tryd.fld86_2 : fieldO Tryd.prog 86 2 = some (2, 84) := by kernel_rfl
@[go_sem] theorem Tryd.bld86 (parts : List (Nat × TV)) : buildO Tryd.prog 86 parts = (fillT (fun i => ([(0, 1), (1, 1), (2, 1)] : List (Nat × Nat))[i]?) [.nilSl, .nilSl, .nilMap] parts).map .agg := by kernel_rfl
@[go_sem] theorem Tryd.bldp86 (parts : List (Nat × PV)) : buildP Tryd.prog 86 parts = fillP (fun i => ([(0, 1), (1, 1), (2, 1)] : List (Nat × Nat))[i]?) [.t (.nilSl), .t (.nilSl), .t (.nilMap)] parts := by kernel_rfl
@[go_sem] theorem Tryd.eqg86 : Program.eqGuardType Tryd.prog (Program.depth Tryd.prog) 86 = false := by kernel_rfl
@[go_sem] theorem Tryd.agg89 : aggO Tryd.prog 89 = some false := by kernel_rfl
@[go_sem] theorem Tryd.pln89 : plainO Tryd.prog 89 = some true := by kernel_rfl
@[go_sem] theorem Tryd.sz89 : szO Tryd.prog 89 = some 1 := by kernel_rfl
@[go_sem] theorem Tryd.zero89 : zeroL Tryd.prog 89 = some [.nilSl] := by kernel_rfl
@[go_sem] theorem Tryd.small89 : smallO Tryd.prog 89 = some (1, 24) := by kernel_rfl
@[go_sem] theorem Tryd.zt89 : zeroT Tryd.prog 89 = some (.nilSl) := by kernel_rfl
@[go_sem] theorem Tryd.eqn89 : eqT Tryd.prog 20 89 .nilSl .nilSl = some true := by kernel_rfl
@[go_sem] theorem Tryd.eqs89 (cs : List TV) (n : Nat) (f : Bool) : eqT Tryd.prog 20 89 (.sl cs n f) .nilSl = some false := by kernel_rfl
@[go_sem] theorem Tryd.eqt89 (cs : List TV) (n : Nat) (f : Bool) : eqT Tryd.prog 20 89 .nilSl (.sl cs n f) = some false := by kernel_rfl
@[go_sem] theorem Tryd.sl89 : sliceO Tryd.prog 89 = some 93 := by kernel_rfl
@[go_sem] theorem Tryd.und89 : Program.underlying Tryd.prog 89 = some (.slice 93) := by kernel_rfl
@[go_sem] theorem Tryd.agg90 : aggO Tryd.prog 90 = some false := by kernel_rfl
@[go_sem] theorem Tryd.pln90 : plainO Tryd.prog 90 = some true := by kernel_rfl
@[go_sem] theorem Tryd.sz90 : szO Tryd.prog 90 = some 1 := by kernel_rfl
@[go_sem] theorem Tryd.zero90 : zeroL Tryd.prog 90 = some [.nilFn] := by kernel_rfl
@[go_sem] theorem Tryd.small90 : smallO Tryd.prog 90 = some (1, 8) := by kernel_rfl
@[go_sem] theorem Tryd.zt90 : zeroT Tryd.prog 90 = some (.nilFn) := by kernel_rfl
@[go_sem] theorem Tryd.agg93 : aggO Tryd.prog 93 = some true := by kernel_rfl
@[go_sem] theorem Tryd.pln93 : plainO Tryd.prog 93 = some true := by kernel_rfl
@[go_sem] theorem Tryd.sz93 : szO Tryd.prog 93 = some 10 := by kernel_rfl
@[go_sem] theorem Tryd.zero93 : zeroL Tryd.prog 93 = some [.bool false, .bool false, .bool false, .bool false, .bool false, .bool false, .bool false, .bool false, .bool false, .bool false] := by kernel_rfl
@[go_sem] theorem Tryd.small93 : smallO Tryd.prog 93 = some (10, 10) := by kernel_rfl
@[go_sem] theorem Tryd.zt93 : zeroT Tryd.prog 93 = some (.agg [.bool false, .bool false, .bool false, .bool false, .bool false, .bool false, .bool false, .bool false, .bool false, .bool false]) := by kernel_rfl
@[go_sem] theorem Tryd.bld93 (parts : List (Nat × TV)) : buildO Tryd.prog 93 parts = (fillT (fun i => some (i * 1, 1)) [.bool false, .bool false, .bool false, .bool false, .bool false, .bool false, .bool false, .bool false, .bool false, .bool false] parts).map .agg := by kernel_rfl
@[go_sem] theorem Tryd.eq93 (a0 b0 : Bool) (a1 b1 : Bool) (a2 b2 : Bool) (a3 b3 : Bool) (a4 b4 : Bool) (a5 b5 : Bool) (a6 b6 : Bool) (a7 b7 : Bool) (a8 b8 : Bool) (a9 b9 : Bool) : eqT Tryd.prog 20 93 (.agg [.bool a0, .bool a1, .bool a2, .bool a3, .bool a4, .bool a5, .bool a6, .bool a7, .bool a8, .bool a9]) (.agg [.bool b0, .bool b1, .bool b2, .bool b3, .bool b4, .bool b5, .bool b6, .bool b7, .bool b8, .bool b9]) = some ((a0 == b0) && ((a1 == b1) && ((a2 == b2) && ((a3 == b3) && ((a4 == b4) && ((a5 == b5) && ((a6 == b6) && ((a7 == b7) && ((a8 == b8) && ((a9 == b9) && true)))))))))) := by kernel_rfl
@[go_sem] theorem Tryd.eqg93 : Program.eqGuardType Tryd.prog (Program.depth Tryd.prog) 93 = false := by kernel_rfl
@[go_sem] theorem Tryd.arr93 : arrayO Tryd.prog 93 = some (10, 4) := by kernel_rfl
@[go_sem] theorem Tryd.und93 : Program.underlying Tryd.prog 93 = some (.array 10 4) := by kernel_rfl
@[go_sem] theorem Tryd.agg94 : aggO Tryd.prog 94 = some false := by kernel_rfl
@[go_sem] theorem Tryd.pln94 : plainO Tryd.prog 94 = some true := by kernel_rfl
@[go_sem] theorem Tryd.sz94 : szO Tryd.prog 94 = some 1 := by kernel_rfl
@[go_sem] theorem Tryd.zero94 : zeroL Tryd.prog 94 = some [.nilMap] := by kernel_rfl
@[go_sem] theorem Tryd.small94 : smallO Tryd.prog 94 = some (1, 8) := by kernel_rfl
@[go_sem] theorem Tryd.key94 (a0 : Int) (a1 : Int) (a2 : Int) : keyOk Tryd.prog 94 (.agg [.int .i64 a0, .int .i64 a1, .int .i64 a2]) = true := by kernel_rfl
@[go_sem] theorem Tryd.map94 : mapO Tryd.prog 94 = some (29, 5) := by kernel_rfl
@[go_sem] theorem Tryd.und94 : Program.underlying Tryd.prog 94 = some (.map 29 5) := by kernel_rfl
@[go_sem] theorem Tryd.zt94 : zeroT Tryd.prog 94 = some (.nilMap) := by kernel_rfl
@[go_sem] theorem Tryd.agg95 : aggO Tryd.prog 95 = some false := by kernel_rfl
@[go_sem] theorem Tryd.pln95 : plainO Tryd.prog 95 = some true := by kernel_rfl
@[go_sem] theorem Tryd.sz95 : szO Tryd.prog 95 = some 1 := by kernel_rfl
@[go_sem] theorem Tryd.zero95 : zeroL Tryd.prog 95 = some [.nilFn] := by kernel_rfl
@[go_sem] theorem Tryd.small95 : smallO Tryd.prog 95 = some (1, 8) := by kernel_rfl
@[go_sem] theorem Tryd.zt95 : zeroT Tryd.prog 95 = some (.nilFn) := by kernel_rfl
@[go_sem] theorem Tryd.agg96 : aggO Tryd.prog 96 = some false := by kernel_rfl
@[go_sem] theorem Tryd.pln96 : plainO Tryd.prog 96 = some true := by kernel_rfl
@[go_sem] theorem Tryd.sz96 : szO Tryd.prog 96 = some 1 := by kernel_rfl
@[go_sem] theorem Tryd.zero96 : zeroL Tryd.prog 96 = some [.nilSl] := by kernel_rfl
@[go_sem] theorem Tryd.small96 : smallO Tryd.prog 96 = some (1, 24) := by kernel_rfl
@[go_sem] theorem Tryd.zt96 : zeroT Tryd.prog 96 = some (.nilSl) := by kernel_rfl
@[go_sem] theorem Tryd.eqn96 : eqT Tryd.prog 20 96 .nilSl .nilSl = some true := by kernel_rfl
@[go_sem] theorem Tryd.eqs96 (cs : List TV) (n : Nat) (f : Bool) : eqT Tryd.prog 20 96 (.sl cs n f) .nilSl = some false := by kernel_rfl
@[go_sem] theorem Tryd.eqt96 (cs : List TV) (n : Nat) (f : Bool) : eqT Tryd.prog 20 96 .nilSl (.sl cs n f) = some false := by kernel_rfl
@[go_sem] theorem Tryd.sl96 : sliceO Tryd.prog 96 = some 5 := by kernel_rfl
@[go_sem] theorem Tryd.und96 : Program.underlying Tryd.prog 96 = some (.slice 5) := by kernel_rfl
@[go_sem] theorem Tryd.agg118 : aggO Tryd.prog 118 = some true := by kernel_rfl
@[go_sem] theorem Tryd.pln118 : plainO Tryd.prog 118 = some true := by kernel_rfl
@[go_sem] theorem Tryd.sz118 : szO Tryd.prog 118 = some 1 := by kernel_rfl
@[go_sem] theorem Tryd.zero118 : zeroL Tryd.prog 118 = some [.int .i64 0] := by kernel_rfl
@[go_sem] theorem Tryd.small118 : smallO Tryd.prog 118 = some (1, 8) := by kernel_rfl
@[go_sem] theorem Tryd.zt118 : zeroT Tryd.prog 118 = some (.agg [.int .i64 0]) := by kernel_rfl
@[go_sem] theorem Tryd.fld118_0 : fieldO Tryd.prog 118 0 = some (0, 23) := by kernel_rfl
@[go_sem] theorem Tryd.bld118 (parts : List (Nat × TV)) : buildO Tryd.prog 118 parts = (fillT (fun i => ([(0, 1)] : List (Nat × Nat))[i]?) [.int .i64 0] parts).map .agg := by kernel_rfl
@[go_sem] theorem Tryd.eq118 (a0 b0 : Int) : eqT Tryd.prog 20 118 (.agg [.int .i64 a0]) (.agg [.int .i64 b0]) = some ((a0 == b0) && true) := by kernel_rfl
@[go_sem] theorem Tryd.eqg118 : Program.eqGuardType Tryd.prog (Program.depth Tryd.prog) 118 = false := by kernel_rfl
@[go_sem] theorem Tryd.agg125 : aggO Tryd.prog 125 = some false := by kernel_rfl
@[go_sem] theorem Tryd.pln125 : plainO Tryd.prog 125 = some true := by kernel_rfl
@[go_sem] theorem Tryd.sz125 : szO Tryd.prog 125 = some 1 := by kernel_rfl
@[go_sem] theorem Tryd.zero125 : zeroL Tryd.prog 125 = some [.nilFn] := by kernel_rfl
@[go_sem] theorem Tryd.small125 : smallO Tryd.prog 125 = some (1, 8) := by kernel_rfl
@[go_sem] theorem Tryd.zt125 : zeroT Tryd.prog 125 = some (.nilFn) := by kernel_rfl
@[go_sem] theorem Tryd.agg126 : aggO Tryd.prog 126 = some false := by kernel_rfl
@[go_sem] theorem Tryd.pln126 : plainO Tryd.prog 126 = some true := by kernel_rfl
@[go_sem] theorem Tryd.sz126 : szO Tryd.prog 126 = some 1 := by kernel_rfl
@[go_sem] theorem Tryd.zero126 : zeroL Tryd.prog 126 = some [.nilSl] := by kernel_rfl
@[go_sem] theorem Tryd.small126 : smallO Tryd.prog 126 = some (1, 24) := by kernel_rfl
@[go_sem] theorem Tryd.zt126 : zeroT Tryd.prog 126 = some (.nilSl) := by kernel_rfl
@[go_sem] theorem Tryd.eqn126 : eqT Tryd.prog 20 126 .nilSl .nilSl = some true := by kernel_rfl
@[go_sem] theorem Tryd.eqs126 (cs : List TV) (n : Nat) (f : Bool) : eqT Tryd.prog 20 126 (.sl cs n f) .nilSl = some false := by kernel_rfl
@[go_sem] theorem Tryd.eqt126 (cs : List TV) (n : Nat) (f : Bool) : eqT Tryd.prog 20 126 .nilSl (.sl cs n f) = some false := by kernel_rfl
@[go_sem] theorem Tryd.sl126 : sliceO Tryd.prog 126 = some 66 := by kernel_rfl
@[go_sem] theorem Tryd.und126 : Program.underlying Tryd.prog 126 = some (.slice 66) := by kernel_rfl
@[go_sem] theorem Tryd.agg128 : aggO Tryd.prog 128 = some false := by kernel_rfl
@[go_sem] theorem Tryd.pln128 : plainO Tryd.prog 128 = some true := by kernel_rfl
@[go_sem] theorem Tryd.sz128 : szO Tryd.prog 128 = some 1 := by kernel_rfl
@[go_sem] theorem Tryd.zero128 : zeroL Tryd.prog 128 = some [.nilFn] := by kernel_rfl
@[go_sem] theorem Tryd.small128 : smallO Tryd.prog 128 = some (1, 8) := by kernel_rfl
@[go_sem] theorem Tryd.zt128 : zeroT Tryd.prog 128 = some (.nilFn) := by kernel_rfl
@[go_sem] theorem Tryd.agg129 : aggO Tryd.prog 129 = some true := by kernel_rfl
@[go_sem] theorem Tryd.pln129 : plainO Tryd.prog 129 = some true := by kernel_rfl
@[go_sem] theorem Tryd.sz129 : szO Tryd.prog 129 = some 4 := by kernel_rfl
@[go_sem] theorem Tryd.zero129 : zeroL Tryd.prog 129 = some [.nilFn, .nilFn, .nilFn, .nilFn] := by kernel_rfl
@[go_sem] theorem Tryd.small129 : smallO Tryd.prog 129 = some (4, 32) := by kernel_rfl
@[go_sem] theorem Tryd.zt129 : zeroT Tryd.prog 129 = some (.agg [.nilFn, .nilFn, .nilFn, .nilFn]) := by kernel_rfl
@[go_sem] theorem Tryd.bld129 (parts : List (Nat × TV)) : buildO Tryd.prog 129 parts = (fillT (fun i => some (i * 1, 1)) [.nilFn, .nilFn, .nilFn, .nilFn] parts).map .agg := by kernel_rfl
@[go_sem] theorem Tryd.eqg129 : Program.eqGuardType Tryd.prog (Program.depth Tryd.prog) 129 = false := by kernel_rfl
@[go_sem] theorem Tryd.arr129 : arrayO Tryd.prog 129 = some (4, 128) := by kernel_rfl
@[go_sem] theorem Tryd.und129 : Program.underlying Tryd.prog 129 = some (.array 4 128) := by kernel_rfl
@[go_sem] theorem Tryd.agg140 : aggO Tryd.prog 140 = some true := by kernel_rfl
@[go_sem] theorem Tryd.pln140 : plainO Tryd.prog 140 = some true := by kernel_rfl
@[go_sem] theorem Tryd.sz140 : szO Tryd.prog 140 = some 3 := by kernel_rfl
@[go_sem] theorem Tryd.zero140 : zeroL Tryd.prog 140 = some [.int .i64 0, .int .i64 0, .int .i64 0] := by kernel_rfl
@[go_sem] theorem Tryd.small140 : smallO Tryd.prog 140 = some (3, 24) := by kernel_rfl
@[go_sem] theorem Tryd.zt140 : zeroT Tryd.prog 140 = some (.agg [.int .i64 0, .int .i64 0, .int .i64 0]) := by kernel_rfl
@[go_sem] theorem Tryd.fld140_0 : fieldO Tryd.prog 140 0 = some (0, 3) := by kernel_rfl
@[go_sem] theorem Tryd.fld140_1 : fieldO Tryd.prog 140 1 = some (1, 3) := by kernel_rfl
@[go_sem] theorem Tryd.fld140_2 : fieldO Tryd.prog 140 2 = some (2, 3) := by kernel_rfl
@[go_sem] theorem Tryd.bld140 (parts : List (Nat × TV)) : buildO Tryd.prog 140 parts = (fillT (fun i => ([(0, 1), (1, 1), (2, 1)] : List (Nat × Nat))[i]?) [.int .i64 0, .int .i64 0, .int .i64 0] parts).map .agg := by kernel_rfl
@[go_sem] theorem Tryd.eq140 (a0 b0 : Int) (a1 b1 : Int) (a2 b2 : Int) : eqT Tryd.prog 20 140 (.agg [.int .i64 a0, .int .i64 a1, .int .i64 a2]) (.agg [.int .i64 b0, .int .i64 b1, .int .i64 b2]) = some ((a0 == b0) && ((a1 == b1) && ((a2 == b2) && true))) := by kernel_rfl
@[go_sem] theorem Tryd.eqg140 : Program.eqGuardType Tryd.prog (Program.depth Tryd.prog) 140 = false := by kernel_rfl
@[go_sem] theorem Tryd.agg141 : aggO Tryd.prog 141 = some false := by kernel_rfl
@[go_sem] theorem Tryd.pln141 : plainO Tryd.prog 141 = some true := by kernel_rfl
@[go_sem] theorem Tryd.sz141 : szO Tryd.prog 141 = some 1 := by kernel_rfl
@[go_sem] theorem Tryd.zero141 : zeroL Tryd.prog 141 = some [.nilSl] := by kernel_rfl
@[go_sem] theorem Tryd.small141 : smallO Tryd.prog 141 = some (1, 24) := by kernel_rfl
@[go_sem] theorem Tryd.zt141 : zeroT Tryd.prog 141 = some (.nilSl) := by kernel_rfl
@[go_sem] theorem Tryd.eqn141 : eqT Tryd.prog 20 141 .nilSl .nilSl = some true := by kernel_rfl
@[go_sem] theorem Tryd.eqs141 (cs : List TV) (n : Nat) (f : Bool) : eqT Tryd.prog 20 141 (.sl cs n f) .nilSl = some false := by kernel_rfl
@[go_sem] theorem Tryd.eqt141 (cs : List TV) (n : Nat) (f : Bool) : eqT Tryd.prog 20 141 .nilSl (.sl cs n f) = some false := by kernel_rfl
@[go_sem] theorem Tryd.sl141 : sliceO Tryd.prog 141 = some 140 := by kernel_rfl
@[go_sem] theorem Tryd.und141 : Program.underlying Tryd.prog 141 = some (.slice 140) := by kernel_rfl
@[go_sem] theorem Tryd.agg143 : aggO Tryd.prog 143 = some true := by kernel_rfl
@[go_sem] theorem Tryd.pln143 : plainO Tryd.prog 143 = some true := by kernel_rfl
@[go_sem] theorem Tryd.sz143 : szO Tryd.prog 143 = some 2 := by kernel_rfl
@[go_sem] theorem Tryd.zero143 : zeroL Tryd.prog 143 = some [.int .i64 0, .int .i64 0] := by kernel_rfl
@[go_sem] theorem Tryd.small143 : smallO Tryd.prog 143 = some (2, 16) := by kernel_rfl
@[go_sem] theorem Tryd.zt143 : zeroT Tryd.prog 143 = some (.agg [.int .i64 0, .int .i64 0]) := by kernel_rfl
@[go_sem] theorem Tryd.fld143_0 : fieldO Tryd.prog 143 0 = some (0, 3) := by kernel_rfl
@[go_sem] theorem Tryd.fld143_1 : fieldO Tryd.prog 143 1 = some (1, 3) := by kernel_rfl
@[go_sem] theorem Tryd.bld143 (parts : List (Nat × TV)) : buildO Tryd.prog 143 parts = (fillT (fun i => ([(0, 1), (1, 1)] : List (Nat × Nat))[i]?) [.int .i64 0, .int .i64 0] parts).map .agg := by kernel_rfl
@[go_sem] theorem Tryd.eq143 (a0 b0 : Int) (a1 b1 : Int) : eqT Tryd.prog 20 143 (.agg [.int .i64 a0, .int .i64 a1]) (.agg [.int .i64 b0, .int .i64 b1]) = some ((a0 == b0) && ((a1 == b1) && true)) := by kernel_rfl
@[go_sem] theorem Tryd.eqg143 : Program.eqGuardType Tryd.prog (Program.depth Tryd.prog) 143 = false := by kernel_rfl
@[go_sem] theorem Tryd.agg144 : aggO Tryd.prog 144 = some false := by kernel_rfl
@[go_sem] theorem Tryd.pln144 : plainO Tryd.prog 144 = some true := by kernel_rfl
@[go_sem] theorem Tryd.sz144 : szO Tryd.prog 144 = some 1 := by kernel_rfl
@[go_sem] theorem Tryd.zero144 : zeroL Tryd.prog 144 = some [.nilFn] := by kernel_rfl
@[go_sem] theorem Tryd.small144 : smallO Tryd.prog 144 = some (1, 8) := by kernel_rfl
@[go_sem] theorem Tryd.zt144 : zeroT Tryd.prog 144 = some (.nilFn) := by kernel_rfl
@[go_sem] theorem Tryd.agg152 : aggO Tryd.prog 152 = some false := by kernel_rfl
@[go_sem] theorem Tryd.pln152 : plainO Tryd.prog 152 = some true := by kernel_rfl
@[go_sem] theorem Tryd.sz152 : szO Tryd.prog 152 = some 1 := by kernel_rfl
@[go_sem] theorem Tryd.zero152 : zeroL Tryd.prog 152 = some [.nilFn] := by kernel_rfl
@[go_sem] theorem Tryd.small152 : smallO Tryd.prog 152 = some (1, 8) := by kernel_rfl
@[go_sem] theorem Tryd.zt152 : zeroT Tryd.prog 152 = some (.nilFn) := by kernel_rfl
@[go_sem] theorem Tryd.agg154 : aggO Tryd.prog 154 = some false := by kernel_rfl
@[go_sem] theorem Tryd.pln154 : plainO Tryd.prog 154 = some true := by kernel_rfl
@[go_sem] theorem Tryd.sz154 : szO Tryd.prog 154 = some 1 := by kernel_rfl
@[go_sem] theorem Tryd.zero154 : zeroL Tryd.prog 154 = some [.nilFn] := by kernel_rfl
@[go_sem] theorem Tryd.small154 : smallO Tryd.prog 154 = some (1, 8) := by kernel_rfl
@[go_sem] theorem Tryd.zt154 : zeroT Tryd.prog 154 = some (.nilFn) := by kernel_rfl
@[go_sem] theorem Tryd.agg158 : aggO Tryd.prog 158 = some false := by kernel_rfl
@[go_sem] theorem Tryd.pln158 : plainO Tryd.prog 158 = some true := by kernel_rfl
@[go_sem] theorem Tryd.sz158 : szO Tryd.prog 158 = some 1 := by kernel_rfl
@[go_sem] theorem Tryd.zero158 : zeroL Tryd.prog 158 = some [.nilFn] := by kernel_rfl
@[go_sem] theorem Tryd.small158 : smallO Tryd.prog 158 = some (1, 8) := by kernel_rfl
@[go_sem] theorem Tryd.zt158 : zeroT Tryd.prog 158 = some (.nilFn) := by kernel_rfl
@[go_sem] theorem Tryd.agg160 : aggO Tryd.prog 160 = some false := by kernel_rfl
@[go_sem] theorem Tryd.pln160 : plainO Tryd.prog 160 = some true := by kernel_rfl
@[go_sem] theorem Tryd.sz160 : szO Tryd.prog 160 = some 1 := by kernel_rfl
@[go_sem] theorem Tryd.zero160 : zeroL Tryd.prog 160 = some [.nilFn] := by kernel_rfl
@[go_sem] theorem Tryd.small160 : smallO Tryd.prog 160 = some (1, 8) := by kernel_rfl
@[go_sem] theorem Tryd.zt160 : zeroT Tryd.prog 160 = some (.nilFn) := by kernel_rfl
@[go_sem] theorem Tryd.agg168 : aggO Tryd.prog 168 = some false := by kernel_rfl
@[go_sem] theorem Tryd.pln168 : plainO Tryd.prog 168 = some true := by kernel_rfl
@[go_sem] theorem Tryd.sz168 : szO Tryd.prog 168 = some 1 := by kernel_rfl
@[go_sem] theorem Tryd.zero168 : zeroL Tryd.prog 168 = some [.nilSl] := by kernel_rfl
@[go_sem] theorem Tryd.small168 : smallO Tryd.prog 168 = some (1, 24) := by kernel_rfl
@[go_sem] theorem Tryd.zt168 : zeroT Tryd.prog 168 = some (.nilSl) := by kernel_rfl
@[go_sem] theorem Tryd.eqn168 : eqT Tryd.prog 20 168 .nilSl .nilSl = some true := by kernel_rfl
@[go_sem] theorem Tryd.eqs168 (cs : List TV) (n : Nat) (f : Bool) : eqT Tryd.prog 20 168 (.sl cs n f) .nilSl = some false := by kernel_rfl
@[go_sem] theorem Tryd.eqt168 (cs : List TV) (n : Nat) (f : Bool) : eqT Tryd.prog 20 168 .nilSl (.sl cs n f) = some false := by kernel_rfl
@[go_sem] theorem Tryd.sl168 : sliceO Tryd.prog 168 = some 186 := by kernel_rfl
@[go_sem] theorem Tryd.und168 : Program.underlying Tryd.prog 168 = some (.slice 186) := by kernel_rfl
@[go_sem] theorem Tryd.agg171 : aggO Tryd.prog 171 = some false := by kernel_rfl
@[go_sem] theorem Tryd.pln171 : plainO Tryd.prog 171 = some true := by kernel_rfl
@[go_sem] theorem Tryd.sz171 : szO Tryd.prog 171 = some 1 := by kernel_rfl
@[go_sem] theorem Tryd.zero171 : zeroL Tryd.prog 171 = some [.nilMap] := by kernel_rfl
@[go_sem] theorem Tryd.small171 : smallO Tryd.prog 171 = some (1, 8) := by kernel_rfl
@[go_sem] theorem Tryd.map171 : mapO Tryd.prog 171 = some (3, 4) := by kernel_rfl
@[go_sem] theorem Tryd.und171 : Program.underlying Tryd.prog 171 = some (.map 3 4) := by kernel_rfl
@[go_sem] theorem Tryd.zt171 : zeroT Tryd.prog 171 = some (.nilMap) := by kernel_rfl
@[go_sem] theorem Tryd.agg186 : aggO Tryd.prog 186 = some true := by kernel_rfl
@[go_sem] theorem Tryd.pln186 : plainO Tryd.prog 186 = some true := by kernel_rfl
@[go_sem] theorem Tryd.sz186 : szO Tryd.prog 186 = some 5 := by kernel_rfl
@[go_sem] theorem Tryd.zero186 : zeroL Tryd.prog 186 = some [.int .i64 0, .int .i64 0, .int .i64 0, .int .i64 0, .int .i64 0] := by kernel_rfl
@[go_sem] theorem Tryd.small186 : smallO Tryd.prog 186 = some (5, 40) := by kernel_rfl
@[go_sem] theorem Tryd.zt186 : zeroT Tryd.prog 186 = some (.agg [.int .i64 0, .int .i64 0, .int .i64 0, .int .i64 0, .int .i64 0]) := by kernel_rfl
@[go_sem] theorem Tryd.fld186_0 : fieldO Tryd.prog 186 0 = some (0, 140) := by kernel_rfl
@[go_sem] theorem Tryd.fld186_1 : fieldO Tryd.prog 186 1 = some (3, 3) := by kernel_rfl
@[go_sem] theorem Tryd.fld186_2 : fieldO Tryd.prog 186 2 = some (4, 3) := by kernel_rfl
@[go_sem] theorem Tryd.bld186 (parts : List (Nat × TV)) : buildO Tryd.prog 186 parts = (fillT (fun i => ([(0, 3), (3, 1), (4, 1)] : List (Nat × Nat))[i]?) [.int .i64 0, .int .i64 0, .int .i64 0, .int .i64 0, .int .i64 0] parts).map .agg := by kernel_rfl
@[go_sem] theorem Tryd.eq186 (a0 b0 : Int) (a1 b1 : Int) (a2 b2 : Int) (a3 b3 : Int) (a4 b4 : Int) : eqT Tryd.prog 20 186 (.agg [.int .i64 a0, .int .i64 a1, .int .i64 a2, .int .i64 a3, .int .i64 a4]) (.agg [.int .i64 b0, .int .i64 b1, .int .i64 b2, .int .i64 b3, .int .i64 b4]) = some (((a0 == b0) && ((a1 == b1) && ((a2 == b2) && true))) && ((a3 == b3) && ((a4 == b4) && true))) := by kernel_rfl
@[go_sem] theorem Tryd.eqg186 : Program.eqGuardType Tryd.prog (Program.depth Tryd.prog) 186 = false := by kernel_rfl
@[go_sem] theorem Tryd.agg190 : aggO Tryd.prog 190 = some false := by kernel_rfl
@[go_sem] theorem Tryd.pln190 : plainO Tryd.prog 190 = some true := by kernel_rfl
@[go_sem] theorem Tryd.sz190 : szO Tryd.prog 190 = some 1 := by kernel_rfl
@[go_sem] theorem Tryd.zero190 : zeroL Tryd.prog 190 = some [.int .u64 0] := by kernel_rfl
@[go_sem] theorem Tryd.small190 : smallO Tryd.prog 190 = some (1, 8) := by kernel_rfl
@[go_sem] theorem Tryd.zt190 : zeroT Tryd.prog 190 = some (.int .u64 0) := by kernel_rfl
@[go_sem] theorem Tryd.knd190 : kindO Tryd.prog 190 = some .u64 := by kernel_rfl
@[go_sem] theorem Tryd.und190 : Program.underlying Tryd.prog 190 = some (.int .u64) := by kernel_rfl
@[go_sem] theorem Tryd.agg191 : aggO Tryd.prog 191 = some false := by kernel_rfl
@[go_sem] theorem Tryd.pln191 : plainO Tryd.prog 191 = some true := by kernel_rfl
@[go_sem] theorem Tryd.sz191 : szO Tryd.prog 191 = some 1 := by kernel_rfl
@[go_sem] theorem Tryd.zero191 : zeroL Tryd.prog 191 = some [.int .u32 0] := by kernel_rfl
@[go_sem] theorem Tryd.small191 : smallO Tryd.prog 191 = some (1, 4) := by kernel_rfl
@[go_sem] theorem Tryd.zt191 : zeroT Tryd.prog 191 = some (.int .u32 0) := by kernel_rfl
@[go_sem] theorem Tryd.knd191 : kindO Tryd.prog 191 = some .u32 := by kernel_rfl
@[go_sem] theorem Tryd.und191 : Program.underlying Tryd.prog 191 = some (.int .u32) := by kernel_rfl
theorem Tryd.mixes : Tryd.prog.follows .mixedOrders = true := by kernel_rfl
end Go.Proofs.YtdkboibnokipaaaDoor

namespace Go.Ow
def inW (n lo hi : Int) : Bool := decide (lo ≤ n) && decide (n ≤ hi)
def nameC (b : Int) : Bool := inW b 97 122 || inW b 48 57 || b == 45
def nameB (s : ByteArray) : Bool := inW s.size 1 16 && (!decide (((s.data.toList.getD 0 0).toNat : Int) < 97) && s.data.toList.all fun b => nameC b.toNat)
def entC (b : Int) : Bool := b == 63 || inW b 48 57
def entB (s : ByteArray) : Bool := inW s.size 1 5 && (!(decide ((1 : Int) < s.size) && ((s.data.toList.getD 0 0).toNat : Int) == 48) && s.data.toList.all fun b => entC b.toNat)
theorem bytesT_at {s : ByteArray} {k : Nat} {x : UInt8} (h : s.data.toList[k]? = some x) : (Go.Pm.bytesT s).drop (k * 1) = .int .u8 (x.toNat : Int) :: (Go.Pm.bytesT s).drop (k + 1) := by
 unfold Go.Pm.bytesT
 rw [Nat.mul_one, ← List.map_drop, ← List.map_drop]
 have hk := (List.getElem?_eq_some_iff.1 h).1
 rw [List.drop_eq_getElem_cons hk, List.map_cons]
 congr 2
 have := List.getElem?_eq_getElem hk
 rw [h] at this
 have e := Option.some.inj this
 rw [← e]
theorem bytes_len (s : ByteArray) : s.data.toList.length = s.size := by rw [Array.length_toList]; rfl
end Go.Ow
namespace Go.Proofs.YtdkboibnokipaaaDoor
open Go.RowKit Go.Pm Go.Ow
theorem wWithin_c (n lo hi : Int) : PCalls Tryd.prog 72 [.int .i64 n, .int .i64 lo, .int .i64 hi] (.bool (inW n lo hi)) := by
 refine pcalls_by Tryd.mixes noSpec_ok (fn := Tryd.f72) Tryd.func72 rfl (by kernel_rfl) (by show 3 ≤ _; decide) ?_
 simp +decide (maxSteps := 4000000) only [go_sem, decide_true, Tryd.f72, inW]
noncomputable def wkWithin : List TV → Option TV
 | [.int .i64 n, .int .i64 lo, .int .i64 hi] => some (.bool (inW n lo hi))
 | _ => none
theorem wkWithin_ok : ∀ xs r, wkWithin xs = some r → PCalls Tryd.prog 72 xs r := by
 intro xs r h
 unfold wkWithin at h
 split at h
 ·cases h; exact wWithin_c _ _ _
 ·cases h
attribute [go_sem] wkWithin
noncomputable def spWa : Pm.Spec := noSpec.one 72 wkWithin
@[go_sem] theorem spWa_p (f : FuncId) (xs : List TV) : spWa.p f xs = Pm.Spec.p (noSpec.one 72 wkWithin) f xs := rfl
@[go_sem] theorem spWa_h (f : FuncId) (ps : List PV) (hl : List PO) : spWa.h f ps hl = Pm.Spec.h (noSpec.one 72 wkWithin) f ps hl := rfl
@[go_sem] theorem spWa_y (Y : Pm.YS) (f : FuncId) (ps : List PV) (hl : List PO) : spWa.y Y f ps hl = Pm.Spec.y (noSpec.one 72 wkWithin) Y f ps hl := rfl
@[go_sem] theorem spWa_pn (f : FuncId) (ps : List PV) (hl : List PO) : spWa.pn f ps hl = Pm.Spec.pn (noSpec.one 72 wkWithin) f ps hl := rfl
@[go_sem] theorem spWa_fz (f : FuncId) : spWa.fz f = Pm.Spec.fz (noSpec.one 72 wkWithin) f := rfl
@[go_sem] theorem spWa_fr (f : FuncId) : spWa.fr f = Pm.Spec.fr (noSpec.one 72 wkWithin) f := rfl
@[go_sem] theorem spWa_yf (f : FuncId) : spWa.yf f = Pm.Spec.yf (noSpec.one 72 wkWithin) f := rfl
@[go_sem] theorem spWa_gd : spWa.gd = Pm.Spec.gd (noSpec.one 72 wkWithin) := rfl
@[go_sem] theorem spWa_mu (t : TypeId) : spWa.mu t = Pm.Spec.mu (noSpec.one 72 wkWithin) t := rfl
@[go_sem] theorem spWa_nf (t : TypeId) : spWa.nf t = Pm.Spec.nf (noSpec.one 72 wkWithin) t := rfl
theorem spWa_ok : SpecOk Tryd.prog spWa := Spec.one_ok wkWithin_ok noSpec_ok
theorem wIsNumber_c (n : Int) : PCalls Tryd.prog 68 [.int .i64 n] (.bool (inW n 1 99999)) := by
 refine pcalls_by Tryd.mixes spWa_ok (fn := Tryd.f68) Tryd.func68 rfl (by kernel_rfl) (by show 1 ≤ _; decide) ?_
 simp +decide (maxSteps := 4000000) only [go_sem, decide_true, Tryd.f68]
theorem wIsDay_c (n : Int) : PCalls Tryd.prog 69 [.int .i64 n] (.bool (inW n 0 100000)) := by
 refine pcalls_by Tryd.mixes spWa_ok (fn := Tryd.f69) Tryd.func69 rfl (by kernel_rfl) (by show 1 ≤ _; decide) ?_
 simp +decide (maxSteps := 4000000) only [go_sem, decide_true, Tryd.f69]
noncomputable def wkIsNumber : List TV → Option TV
 | [.int .i64 n] => some (.bool (inW n 1 99999))
 | _ => none
theorem wkIsNumber_ok : ∀ xs r, wkIsNumber xs = some r → PCalls Tryd.prog 68 xs r := by
 intro xs r h
 unfold wkIsNumber at h
 split at h
 ·cases h; exact wIsNumber_c _
 ·cases h
attribute [go_sem] wkIsNumber
noncomputable def wkIsDay : List TV → Option TV
 | [.int .i64 n] => some (.bool (inW n 0 100000))
 | _ => none
theorem wkIsDay_ok : ∀ xs r, wkIsDay xs = some r → PCalls Tryd.prog 69 xs r := by
 intro xs r h
 unfold wkIsDay at h
 split at h
 ·cases h; exact wIsDay_c _
 ·cases h
attribute [go_sem] wkIsDay
theorem wWide_c (rs row : List TV) (n m : Nat) (f g : Bool) (hn : (0 : Int) < n) : PCalls Tryd.prog 112 [.sl (.sl row m g :: rs) n f] (.int .i64 m) := by
 refine pcalls_by Tryd.mixes noSpec_ok (fn := Tryd.f112) Tryd.func112 rfl (by kernel_rfl) (by show 1 ≤ _; decide) ?_
 simp +decide (maxSteps := 4000000) only [go_sem, decide_true, Tryd.f112, hn]
theorem wIsName_c (s : ByteArray) : PCalls Tryd.prog 74 [.str s] (.bool (nameB s)) := by
 refine pcalls_by Tryd.mixes (Spec.gdt_ok spWa_ok) (fn := Tryd.f74) Tryd.func74 rfl (by kernel_rfl) (by show 1 ≤ _; decide) ?_
 have hgd : (s.data.getD 0 0) = s.data.toList.getD 0 0 := by simp
 by_cases h1 : inW s.size 1 16 = true
 ·have hb := h1
  unfold inW at hb
  simp only [Bool.and_eq_true, decide_eq_true_eq] at hb
  have hpos : (0 : Int) < s.size := by omega
  by_cases h2 : ((s.data.getD 0 0).toNat : Int) < 97
  ·have e : nameB s = false := by unfold nameB; rw [h1, ← hgd, decide_eq_true h2]; rfl
   simp +decide (maxSteps := 4000000) only [go_sem, Tryd.f74, h1, h2, hpos, e]
  ·have hr : s.size ≤ 140737488355328 := by omega
   have e : nameB s = s.data.toList.all fun b => nameC b.toNat := by unfold nameB; rw [h1, ← hgd, decide_eq_false h2]; rfl
   rw [e]
   have hlen := bytes_len s
   simp +decide (maxSteps := 4000000) only [go_sem, Tryd.f74, h1, h2, hpos, hr]
   refine pwpC_loopU (A := { k : Nat // k ≤ s.size ∧ ∀ (j : Nat) (x : UInt8), j < k → s.data.toList[j]? = some x → nameC x.toNat = true }) [15, 16] (fun k => [(17, .t (.int .i64 k.1))]) (fun _ => []) (fun k => s.size - k.1) ⟨0, Nat.zero_le _, fun j x hj => absurd hj (by omega)⟩ (by decide) (fun _ => by rfl) ?_ fun Q1 hQ1 ⟨k, hk, hall⟩ I1 hI1 => ?_
   ·simp +decide (maxSteps := 4000000) only [go_sem]
   ·by_cases hlt : (k : Int) < s.size
    ·obtain ⟨x, hx⟩ : ∃ x, s.data.toList[k]? = some x := ⟨_, List.getElem?_eq_getElem (by omega)⟩
     have d1 := bytesT_at hx
     rw [Nat.mul_one] at d1
     have hx256 := x.toNat_lt
     have hw : IntKind.i64.wrap (x.toNat : Int) = x.toNat := wrap_in (by omega) (by omega)
     have hk1 := Go.Pm.wS (k := k) (by omega)
     have hall' : nameC x.toNat = true → ∀ (j : Nat) (y : UInt8), j < k + 1 → s.data.toList[j]? = some y → nameC y.toNat = true := fun hc j y hj hy => by
      rcases Nat.lt_or_ge j k with h | h
      ·exact hall j y h hy
      ·have : j = k := by omega
       subst this; rw [hx] at hy; cases hy; exact hc
     have hk2 : k + 1 ≤ s.size := by omega
     cases c1 : inW (x.toNat : Int) 97 122 with
     | true =>
      simp +decide (maxSteps := 4000000) only [go_sem, hlt, d1, hw, c1, hk1]
      refine hI1 _ ⟨k + 1, hk2, hall' (by unfold nameC; rw [c1]; rfl)⟩ (by simp only; omega) ?_
      simp +decide (maxSteps := 4000000) only [go_sem]
     | false =>
      cases c2 : inW (x.toNat : Int) 48 57 with
      | true =>
       simp +decide (maxSteps := 4000000) only [go_sem, hlt, d1, hw, c1, c2, hk1]
       refine hI1 _ ⟨k + 1, hk2, hall' (by unfold nameC; rw [c1, c2]; rfl)⟩ (by simp only; omega) ?_
       simp +decide (maxSteps := 4000000) only [go_sem]
      | false =>
       by_cases c3 : (x.toNat : Int) = 45
       ·have c4 : ((x.toNat : Int) != 45) = false := by rw [c3]; rfl
        simp +decide (maxSteps := 4000000) only [go_sem, hlt, d1, hw, c1, c2, c4, hk1]
        refine hI1 _ ⟨k + 1, hk2, hall' (by unfold nameC; rw [c1, c2, c3]; rfl)⟩ (by simp only; omega) ?_
        simp +decide (maxSteps := 4000000) only [go_sem]
       ·have c4 : ((x.toNat : Int) != 45) = true := by simpa using c3
        have ea : (s.data.toList.all fun b => nameC b.toNat) = false := by
         rw [List.all_eq_false]
         refine ⟨x, List.mem_of_getElem? hx, ?_⟩
         unfold nameC
         rw [c1, c2]
         simpa using c3
        simp +decide (maxSteps := 4000000) only [go_sem, hlt, d1, hw, c1, c2, c4]
        refine hQ1 _ _ ?_
        simp +decide (maxSteps := 4000000) only [go_sem, ea]
    ·simp +decide (maxSteps := 4000000) only [go_sem, hlt]
     refine hQ1 _ _ ?_
     have ea : (s.data.toList.all fun b => nameC b.toNat) = true := by
      rw [List.all_eq_true]
      intro x hx
      obtain ⟨j, hj, rfl⟩ := List.getElem_of_mem hx
      exact hall j _ (by omega) (List.getElem?_eq_getElem hj)
     simp +decide (maxSteps := 4000000) only [go_sem, ea]
 ·have h1 : inW s.size 1 16 = false := by simpa using h1
  have e : nameB s = false := by unfold nameB; rw [h1]; rfl
  simp +decide (maxSteps := 4000000) only [go_sem, Tryd.f74, h1, e]
end Go.Proofs.YtdkboibnokipaaaDoor

namespace Go.Proofs.YtdkboibnokipaaaDoor
open Go.RowKit Go.Pm Go.Ow
theorem wIsEntry_c (s : ByteArray) : PCalls Tryd.prog 88 [.str s] (.bool (entB s)) := by
 refine pcalls_by Tryd.mixes (Spec.gdt_ok spWa_ok) (fn := Tryd.f88) Tryd.func88 rfl (by kernel_rfl) (by show 1 ≤ _; decide) ?_
 have hgd : (s.data.getD 0 0) = s.data.toList.getD 0 0 := by simp
 by_cases h1 : inW s.size 1 5 = true
 ·have hb := h1
  unfold inW at hb
  simp only [Bool.and_eq_true, decide_eq_true_eq] at hb
  have hpos : (0 : Int) < s.size := by omega
  have hr : s.size ≤ 140737488355328 := by omega
  by_cases h2 : (1 : Int) < s.size ∧ ((s.data.getD 0 0).toNat : Int) = 48
  ·obtain ⟨h2, h3⟩ := h2
   have h3' : (((s.data.getD 0 0).toNat : Int) == 48) = true := by rw [h3]; rfl
   have e : entB s = false := by unfold entB; rw [h1, ← hgd, decide_eq_true h2, h3']; rfl
   simp +decide (maxSteps := 4000000) only [go_sem, Tryd.f88, h1, h2, h3', hpos, e]
  ·have e : entB s = s.data.toList.all fun b => entC b.toNat := by
    unfold entB; rw [h1, ← hgd]
    by_cases h3 : (1 : Int) < s.size
    ·have h4 : (((s.data.getD 0 0).toNat : Int) == 48) = false := by simpa using fun h => h2 ⟨h3, h⟩
     rw [h4]; simp
    ·rw [decide_eq_false h3]; rfl
   rw [e]
   have hlen := bytes_len s
   by_cases h3 : (s.size : Int) > 1
   ·have h4 : (((s.data.getD 0 0).toNat : Int) == 48) = false := by simpa using fun h => h2 ⟨h3, h⟩
    simp +decide (maxSteps := 4000000) only [go_sem, Tryd.f88, h1, hpos, hr, h3, h4]
    refine pwpC_loopU (A := { k : Nat // k ≤ s.size ∧ ∀ (j : Nat) (x : UInt8), j < k → s.data.toList[j]? = some x → entC x.toNat = true }) [20, 21] (fun k => [(22, .t (.int .i64 k.1))]) (fun _ => []) (fun k => s.size - k.1) ⟨0, Nat.zero_le _, fun j x hj => absurd hj (by omega)⟩ (by decide) (fun _ => by rfl) ?_ fun Q1 hQ1 ⟨k, hk, hall⟩ I1 hI1 => ?_
    ·simp +decide (maxSteps := 4000000) only [go_sem]
    ·by_cases hlt : (k : Int) < s.size
     ·obtain ⟨x, hx⟩ : ∃ x, s.data.toList[k]? = some x := ⟨_, List.getElem?_eq_getElem (by omega)⟩
      have d1 := bytesT_at hx
      rw [Nat.mul_one] at d1
      have hx256 := x.toNat_lt
      have hw : IntKind.i64.wrap (x.toNat : Int) = x.toNat := wrap_in (by omega) (by omega)
      have hk1 := Go.Pm.wS (k := k) (by omega)
      have hall' : entC x.toNat = true → ∀ (j : Nat) (y : UInt8), j < k + 1 → s.data.toList[j]? = some y → entC y.toNat = true := fun hc j y hj hy => by
       rcases Nat.lt_or_ge j k with h | h
       ·exact hall j y h hy
       ·have : j = k := by omega
        subst this; rw [hx] at hy; cases hy; exact hc
      have hk2 : k + 1 ≤ s.size := by omega
      by_cases c1 : (x.toNat : Int) = 63
      ·have c4 : ((x.toNat : Int) != 63) = false := by rw [c1]; rfl
       simp +decide (maxSteps := 4000000) only [go_sem, hlt, d1, hw, c4, hk1]
       refine hI1 _ ⟨k + 1, hk2, hall' (by unfold entC; rw [c1]; rfl)⟩ (by simp only; omega) ?_
       simp +decide (maxSteps := 4000000) only [go_sem]
      ·have c4 : ((x.toNat : Int) != 63) = true := by simpa using c1
       have c5 : ((x.toNat : Int) == 63) = false := by simpa using c1
       cases c2 : inW (x.toNat : Int) 48 57 with
       | true =>
        simp +decide (maxSteps := 4000000) only [go_sem, hlt, d1, hw, c2, c4, hk1]
        refine hI1 _ ⟨k + 1, hk2, hall' (by unfold entC; rw [c2, c5]; rfl)⟩ (by simp only; omega) ?_
        simp +decide (maxSteps := 4000000) only [go_sem]
       | false =>
        have ea : (s.data.toList.all fun b => entC b.toNat) = false := by
         rw [List.all_eq_false]
         refine ⟨x, List.mem_of_getElem? hx, ?_⟩
         unfold entC
         rw [c2, c5]
         simp
        simp +decide (maxSteps := 4000000) only [go_sem, hlt, d1, hw, c2, c4]
        refine hQ1 _ _ ?_
        simp +decide (maxSteps := 4000000) only [go_sem, ea]
     ·simp +decide (maxSteps := 4000000) only [go_sem, hlt]
      refine hQ1 _ _ ?_
      have ea : (s.data.toList.all fun b => entC b.toNat) = true := by
       rw [List.all_eq_true]
       intro x hx
       obtain ⟨j, hj, rfl⟩ := List.getElem_of_mem hx
       exact hall j _ (by omega) (List.getElem?_eq_getElem hj)
      simp +decide (maxSteps := 4000000) only [go_sem, ea]
   ·simp +decide (maxSteps := 4000000) only [go_sem, Tryd.f88, h1, hpos, hr, h3]
    refine pwpC_loopU (A := { k : Nat // k ≤ s.size ∧ ∀ (j : Nat) (x : UInt8), j < k → s.data.toList[j]? = some x → entC x.toNat = true }) [20, 21] (fun k => [(22, .t (.int .i64 k.1))]) (fun _ => []) (fun k => s.size - k.1) ⟨0, Nat.zero_le _, fun j x hj => absurd hj (by omega)⟩ (by decide) (fun _ => by rfl) ?_ fun Q1 hQ1 ⟨k, hk, hall⟩ I1 hI1 => ?_
    ·simp +decide (maxSteps := 4000000) only [go_sem]
    ·by_cases hlt : (k : Int) < s.size
     ·obtain ⟨x, hx⟩ : ∃ x, s.data.toList[k]? = some x := ⟨_, List.getElem?_eq_getElem (by omega)⟩
      have d1 := bytesT_at hx
      rw [Nat.mul_one] at d1
      have hx256 := x.toNat_lt
      have hw : IntKind.i64.wrap (x.toNat : Int) = x.toNat := wrap_in (by omega) (by omega)
      have hk1 := Go.Pm.wS (k := k) (by omega)
      have hall' : entC x.toNat = true → ∀ (j : Nat) (y : UInt8), j < k + 1 → s.data.toList[j]? = some y → entC y.toNat = true := fun hc j y hj hy => by
       rcases Nat.lt_or_ge j k with h | h
       ·exact hall j y h hy
       ·have : j = k := by omega
        subst this; rw [hx] at hy; cases hy; exact hc
      have hk2 : k + 1 ≤ s.size := by omega
      by_cases c1 : (x.toNat : Int) = 63
      ·have c4 : ((x.toNat : Int) != 63) = false := by rw [c1]; rfl
       simp +decide (maxSteps := 4000000) only [go_sem, hlt, d1, hw, c4, hk1]
       refine hI1 _ ⟨k + 1, hk2, hall' (by unfold entC; rw [c1]; rfl)⟩ (by simp only; omega) ?_
       simp +decide (maxSteps := 4000000) only [go_sem]
      ·have c4 : ((x.toNat : Int) != 63) = true := by simpa using c1
       have c5 : ((x.toNat : Int) == 63) = false := by simpa using c1
       cases c2 : inW (x.toNat : Int) 48 57 with
       | true =>
        simp +decide (maxSteps := 4000000) only [go_sem, hlt, d1, hw, c2, c4, hk1]
        refine hI1 _ ⟨k + 1, hk2, hall' (by unfold entC; rw [c2, c5]; rfl)⟩ (by simp only; omega) ?_
        simp +decide (maxSteps := 4000000) only [go_sem]
       | false =>
        have ea : (s.data.toList.all fun b => entC b.toNat) = false := by
         rw [List.all_eq_false]
         refine ⟨x, List.mem_of_getElem? hx, ?_⟩
         unfold entC
         rw [c2, c5]
         simp
        simp +decide (maxSteps := 4000000) only [go_sem, hlt, d1, hw, c2, c4]
        refine hQ1 _ _ ?_
        simp +decide (maxSteps := 4000000) only [go_sem, ea]
     ·simp +decide (maxSteps := 4000000) only [go_sem, hlt]
      refine hQ1 _ _ ?_
      have ea : (s.data.toList.all fun b => entC b.toNat) = true := by
       rw [List.all_eq_true]
       intro x hx
       obtain ⟨j, hj, rfl⟩ := List.getElem_of_mem hx
       exact hall j _ (by omega) (List.getElem?_eq_getElem hj)
      simp +decide (maxSteps := 4000000) only [go_sem, ea]
 ·have h1 : inW s.size 1 5 = false := by simpa using h1
  have e : entB s = false := by unfold entB; rw [h1]; rfl
  simp +decide (maxSteps := 4000000) only [go_sem, Tryd.f88, h1, e]
end Go.Proofs.YtdkboibnokipaaaDoor

namespace Go.Ow
open Go Go.RowKit Go.Pm
def txR (s : TV) (l : List ByteArray) : Prop := (s = .nilSl ∧ l = []) ∨ ∃ f, s = .sl (l.map .str) l.length f
theorem txs_at {l : List ByteArray} {k : Nat} {x : ByteArray} (h : l[k]? = some x) : (l.map TV.str).drop k = .str x :: (l.map TV.str).drop (k + 1) := by
 have hk := (List.getElem?_eq_some_iff.1 h).1
 rw [← List.map_drop, ← List.map_drop, List.drop_eq_getElem_cons hk, List.map_cons]
 have := List.getElem?_eq_getElem hk
 rw [h] at this
 rw [← Option.some.inj this]
def pgR (s : TV) (p : List (List ByteArray)) : Prop := (s = .nilSl ∧ p = []) ∨ ∃ rs f, s = .sl rs p.length f ∧ rs.length = p.length ∧ ∀ (k : Nat) (r : List ByteArray) (t : TV), p[k]? = some r → rs[k]? = some t → txR t r
theorem tv_at {rs : List TV} {k : Nat} {t : TV} (h : rs[k]? = some t) : rs.drop k = t :: rs.drop (k + 1) := by
 have hk := (List.getElem?_eq_some_iff.1 h).1
 rw [List.drop_eq_getElem_cons hk]
 have := List.getElem?_eq_getElem hk
 rw [h] at this
 rw [← Option.some.inj this]
def lostC (s : ByteArray) : Nat := s.data.toList.count 63
def lostR (r : List ByteArray) : Nat := (r.map lostC).sum
def lostP (p : List (List ByteArray)) : Nat := (p.map lostR).sum
theorem lostC_le (s : ByteArray) : lostC s ≤ s.size := by
 unfold lostC; rw [← bytes_len s]; exact List.count_le_length
theorem lostR_snoc {r : List ByteArray} {k : Nat} {s : ByteArray} (h : r[k]? = some s) : lostR (r.take (k + 1)) = lostR (r.take k) + lostC s := by
 unfold lostR; rw [List.take_add_one, h]; simp
theorem lostP_snoc {p : List (List ByteArray)} {k : Nat} {r : List ByteArray} (h : p[k]? = some r) : lostP (p.take (k + 1)) = lostP (p.take k) + lostR r := by
 unfold lostP; rw [List.take_add_one, h]; simp
def rowOk (w : Nat) (r : List ByteArray) : Bool := inW r.length 2 5 && (r.length == w && r.all entB)
def wideP (p : List (List ByteArray)) : Nat := (p.getD 0 []).length
def validB (p : List (List ByteArray)) : Bool := inW p.length 2 5 && (p.all (rowOk (wideP p)) && decide (lostP p ≤ 5))
theorem entB_size {s : ByteArray} (h : entB s = true) : 1 ≤ s.size ∧ s.size ≤ 5 := by
 unfold entB inW at h
 simp only [Bool.and_eq_true, decide_eq_true_eq] at h
 omega
theorem inW_if {n a b : Int} : inW n a b = true ↔ a ≤ n ∧ n ≤ b := by unfold inW; simp
theorem valid_row {p : List (List ByteArray)} {k : Nat} {r : List ByteArray} (h : validB p = true) (hr : p[k]? = some r) : (2 ≤ r.length ∧ r.length ≤ 5) ∧ r.length = wideP p ∧ ∀ s ∈ r, entB s = true := by
 unfold validB at h
 simp only [Bool.and_eq_true, List.all_eq_true] at h
 have := h.2.1 r (List.mem_of_getElem? hr)
 unfold rowOk at this
 simp only [Bool.and_eq_true, inW_if, beq_iff_eq, List.all_eq_true] at this
 exact ⟨by omega, this.2.1, this.2.2⟩
theorem valid_len {p : List (List ByteArray)} (h : validB p = true) : (2 ≤ p.length ∧ p.length ≤ 5) ∧ lostP p ≤ 5 := by
 unfold validB at h
 simp only [Bool.and_eq_true, inW_if, decide_eq_true_eq] at h
 omega
theorem not_valid {p : List (List ByteArray)} {k : Nat} {r : List ByteArray} (hr : p[k]? = some r) (h : rowOk (wideP p) r = false) : validB p = false := by
 cases hv : validB p with
 | false => rfl
 | true =>
  unfold validB at hv
  simp only [Bool.and_eq_true, List.all_eq_true] at hv
  rw [hv.2.1 r (List.mem_of_getElem? hr)] at h; cases h
theorem row_bad {r : List ByteArray} {w j : Nat} {s : ByteArray} (hs : r[j]? = some s) (h : entB s = false) : rowOk w r = false := by
 unfold rowOk
 have : r.all entB = false := by rw [List.all_eq_false]; exact ⟨s, List.mem_of_getElem? hs, by rw [h]; decide⟩
 rw [this]; simp
end Go.Ow

namespace Go.Ow
open Go Go.RowKit Go.Pm
abbrev Pl := Nat × Nat × Nat
def plC (a : Pl) : List TV := [.int .i64 a.1, .int .i64 a.2.1, .int .i64 a.2.2]
def plT (a : Pl) : TV := .agg (plC a)
theorem plT_inj {a b : Pl} (h : plT a = plT b) : a = b := by
 obtain ⟨a1, a2, a3⟩ := a
 obtain ⟨b1, b2, b3⟩ := b
 simp only [plT, plC, TV.agg.injEq, List.cons.injEq, TV.int.injEq, true_and, and_true] at h
 obtain ⟨h1, h2, h3⟩ := h
 rw [show a1 = b1 by omega, show a2 = b2 by omega, show a3 = b3 by omega]
abbrev Dg := Pl → Option Int
open Classical in
noncomputable def mapD (D : Dg) : TV → Option TV := fun t => if h : ∃ a, t = plT a then (D (Classical.choose h)).map (.int .i64) else none
theorem mapD_at (D : Dg) (a : Pl) : mapD D (plT a) = (D a).map (.int .i64) := by
 have hx : ∃ b, plT a = plT b := ⟨a, rfl⟩
 unfold mapD
 rw [dif_pos hx, ← plT_inj (Classical.choose_spec hx)]
def updD (D : Dg) (a : Pl) (d : Int) : Dg := fun b => if b = a then some d else D b
theorem mapD_upd (D : Dg) (a : Pl) (d : Int) : updT (mapD D) (plT a) (.int .i64 d) = mapD (updD D a d) := by
 funext t
 unfold updT
 by_cases h : ∃ b, t = plT b
 ·obtain ⟨b, rfl⟩ := h
  rw [mapD_at, mapD_at]
  unfold updD
  by_cases e : b = a
  ·subst e; rw [if_pos rfl, if_pos rfl]; rfl
  ·rw [if_neg fun x => e (plT_inj x), if_neg e]
 ·rw [if_neg fun e => h ⟨a, e⟩]
  unfold mapD
  rw [dif_neg h, dif_neg h]
theorem mapD_none : mapD (fun _ => none) = fun _ => none := by
 funext t
 unfold mapD
 split <;> rfl
def upS (i k : Nat) (s : ByteArray) (n : Nat) : List Pl := (List.range n).flatMap fun x => if s.data.toList.getD x 0 = 63 then [(i, k, x)] else []
def entA (r : List ByteArray) (k : Nat) : ByteArray := r.getD k ⟨#[]⟩
def rowA (p : List (List ByteArray)) (i : Nat) : List ByteArray := p.getD i []
def upR (i : Nat) (r : List ByteArray) (n : Nat) : List Pl := (List.range n).flatMap fun k => upS i k (entA r k) (entA r k).size
def upP (p : List (List ByteArray)) (n : Nat) : List Pl := (List.range n).flatMap fun i => upR i (rowA p i) (rowA p i).length
def placesP (p : List (List ByteArray)) : List Pl := upP p p.length
theorem upS_succ (i k : Nat) (s : ByteArray) (n : Nat) : upS i k s (n + 1) = upS i k s n ++ if s.data.toList.getD n 0 = 63 then [(i, k, n)] else [] := by
 unfold upS; rw [List.range_succ, List.flatMap_append]; simp
theorem upR_succ (i : Nat) (r : List ByteArray) (n : Nat) : upR i r (n + 1) = upR i r n ++ upS i n (entA r n) (entA r n).size := by
 unfold upR; rw [List.range_succ, List.flatMap_append]; simp
theorem upP_succ (p : List (List ByteArray)) (n : Nat) : upP p (n + 1) = upP p n ++ upR n (rowA p n) (rowA p n).length := by
 unfold upP; rw [List.range_succ, List.flatMap_append]; simp
theorem upS_len (i k : Nat) (s : ByteArray) : ∀ n, n ≤ s.size → (upS i k s n).length = (s.data.toList.take n).count 63
 | 0, _ => by simp [upS]
 | n + 1, h => by
  have hl := bytes_len s
  rw [upS_succ, List.length_append, upS_len i k s n (by omega), List.take_add_one, List.count_append, List.getD_eq_getElem?_getD, List.getElem?_eq_getElem (show n < s.data.toList.length by omega)]
  simp only [Option.getD_some, Option.toList_some]
  by_cases e : s.data.toList[n]'(by omega) = 63
  ·rw [if_pos e, e]; rfl
  ·rw [if_neg e]
   have : List.count 63 [s.data.toList[n]'(by omega)] = 0 := by
    rw [List.count_eq_zero]; intro hm; rw [List.mem_singleton] at hm; exact e hm.symm
   rw [this]; rfl
theorem upS_all (i k : Nat) (s : ByteArray) : (upS i k s s.size).length = lostC s := by
 rw [upS_len i k s s.size (Nat.le_refl _), List.take_of_length_le (by rw [bytes_len]; exact Nat.le_refl _)]; rfl
theorem upR_len (i : Nat) (r : List ByteArray) : ∀ n, n ≤ r.length → (upR i r n).length = lostR (r.take n)
 | 0, _ => by simp [upR, lostR]
 | n + 1, h => by
  have e : r[n]? = some (r[n]'(by omega)) := List.getElem?_eq_getElem (by omega)
  have e2 : entA r n = r[n]'(by omega) := by unfold entA; rw [List.getD_eq_getElem?_getD, e]; rfl
  rw [upR_succ, List.length_append, upR_len i r n (by omega), upS_all, lostR_snoc e, e2]
theorem upP_len (p : List (List ByteArray)) : ∀ n, n ≤ p.length → (upP p n).length = lostP (p.take n)
 | 0, _ => by simp [upP, lostP]
 | n + 1, h => by
  have e : p[n]? = some (p[n]'(by omega)) := List.getElem?_eq_getElem (by omega)
  have e2 : rowA p n = p[n]'(by omega) := by unfold rowA; rw [List.getD_eq_getElem?_getD, e]; rfl
  rw [upP_succ, List.length_append, upP_len p n (by omega), lostP_snoc e, e2, upR_len _ _ _ (Nat.le_refl _), List.take_length]
theorem places_len (p : List (List ByteArray)) : (placesP p).length = lostP p := by
 unfold placesP; rw [upP_len p _ (Nat.le_refl _), List.take_length]
theorem mem_upS {i k n : Nat} {s : ByteArray} {a : Pl} : a ∈ upS i k s n ↔ a.1 = i ∧ a.2.1 = k ∧ a.2.2 < n ∧ s.data.toList.getD a.2.2 0 = 63 := by
 unfold upS
 rw [List.mem_flatMap]
 constructor
 ·rintro ⟨x, hx, hm⟩
  rw [List.mem_range] at hx
  split at hm
  ·rename_i h
   rw [List.mem_singleton] at hm
   subst hm
   exact ⟨rfl, rfl, hx, h⟩
  ·cases hm
 ·rintro ⟨h1, h2, h3, h4⟩
  refine ⟨a.2.2, List.mem_range.2 h3, ?_⟩
  rw [if_pos h4, ← h1, ← h2]; exact List.mem_singleton.2 rfl
theorem mem_upR {i n : Nat} {r : List ByteArray} {a : Pl} : a ∈ upR i r n ↔ a.1 = i ∧ a.2.1 < n ∧ a.2.2 < (entA r a.2.1).size ∧ (entA r a.2.1).data.toList.getD a.2.2 0 = 63 := by
 unfold upR
 rw [List.mem_flatMap]
 constructor
 ·rintro ⟨x, hx, hm⟩
  rw [List.mem_range] at hx
  obtain ⟨h1, rfl, h3, h4⟩ := mem_upS.1 hm
  exact ⟨h1, hx, h3, h4⟩
 ·rintro ⟨h1, h2, h3, h4⟩
  exact ⟨_, List.mem_range.2 h2, mem_upS.2 ⟨h1, rfl, h3, h4⟩⟩
theorem mem_upP {n : Nat} {p : List (List ByteArray)} {a : Pl} : a ∈ upP p n ↔ a.1 < n ∧ a.2.1 < (rowA p a.1).length ∧ a.2.2 < (entA (rowA p a.1) a.2.1).size ∧ (entA (rowA p a.1) a.2.1).data.toList.getD a.2.2 0 = 63 := by
 unfold upP
 rw [List.mem_flatMap]
 constructor
 ·rintro ⟨x, hx, hm⟩
  rw [List.mem_range] at hx
  obtain ⟨rfl, h2, h3, h4⟩ := mem_upR.1 hm
  exact ⟨hx, h2, h3, h4⟩
 ·rintro ⟨h1, h2, h3, h4⟩
  exact ⟨_, List.mem_range.2 h1, mem_upR.2 ⟨rfl, h2, h3, h4⟩⟩
theorem mem_places {p : List (List ByteArray)} {a : Pl} (h : a ∈ placesP p) : a.1 < p.length ∧ a.2.1 < (rowA p a.1).length ∧ a.2.2 < (entA (rowA p a.1) a.2.1).size ∧ (entA (rowA p a.1) a.2.1).data.toList.getD a.2.2 0 = 63 := mem_upP.1 h
def DOk (D : Dg) : Prop := ∀ a d, D a = some d → 0 ≤ d ∧ d ≤ 9
theorem DOk_none : DOk fun _ => none := fun a d h => by cases h
theorem DOk.upd {D : Dg} (h : DOk D) (a : Pl) {d : Int} (h0 : 0 ≤ d) (h9 : d ≤ 9) : DOk (updD D a d) := fun b e hb => by
 unfold updD at hb
 split at hb
 ·cases hb; exact ⟨h0, h9⟩
 ·exact h b e hb
def digB (D : Dg) (a : Pl) (b : UInt8) : Int := if b = 63 then (D a).getD 0 else (b.toNat : Int) - 48
def entN (D : Dg) (i k : Nat) (s : ByteArray) : Nat → Int
 | 0 => 0
 | n + 1 => 10 * entN D i k s n + digB D (i, k, n) (s.data.toList.getD n 0)
theorem entB_C {s : ByteArray} (h : entB s = true) {n : Nat} (hn : n < s.size) : entC (s.data.toList.getD n 0).toNat = true := by
 unfold entB at h
 simp only [Bool.and_eq_true, List.all_eq_true] at h
 rw [List.getD_eq_getElem?_getD, List.getElem?_eq_getElem (by rw [bytes_len]; exact hn)]
 exact h.2.2 _ (List.getElem_mem _)
theorem digB_le {D : Dg} (hD : DOk D) {a : Pl} {b : UInt8} (hb : entC b.toNat = true) : 0 ≤ digB D a b ∧ digB D a b ≤ 9 := by
 unfold digB
 split
 ·cases h : D a with
  | none => simp
  | some d => exact hD a d h
 ·rename_i hne
  unfold entC inW at hb
  have : ¬ (b.toNat : Int) = 63 := fun e => hne (by
   have e : b.toNat = 63 := by omega
   exact UInt8.toNat_inj.1 e)
  simp only [Bool.or_eq_true, beq_iff_eq, Bool.and_eq_true, decide_eq_true_eq] at hb
  omega
theorem entN_le {D : Dg} (hD : DOk D) {i k : Nat} {s : ByteArray} (hs : entB s = true) : ∀ n, n ≤ s.size → 0 ≤ entN D i k s n ∧ entN D i k s n < (10 : Int) ^ n
 | 0, _ => by simp [entN]
 | n + 1, h => by
  have ih := entN_le hD (i := i) (k := k) hs n (by omega)
  have hd := digB_le hD (a := (i, k, n)) (entB_C hs (n := n) (by omega))
  unfold entN
  rw [Int.pow_succ]
  omega
theorem entN_5 {D : Dg} (hD : DOk D) {i k : Nat} {s : ByteArray} (hs : entB s = true) {n : Nat} (h : n ≤ s.size) : 0 ≤ entN D i k s n ∧ entN D i k s n < 100000 := by
 have h1 := entN_le hD (i := i) (k := k) hs n h
 have h2 := (entB_size hs).2
 refine ⟨h1.1, Int.lt_of_lt_of_le h1.2 ?_⟩
 rcases (by omega : n = 0 ∨ n = 1 ∨ n = 2 ∨ n = 3 ∨ n = 4 ∨ n = 5) with rfl | rfl | rfl | rfl | rfl | rfl <;> decide
def valN (D : Dg) (p : List (List ByteArray)) (i k : Nat) : Int := entN D i k (entA (rowA p i) k) (entA (rowA p i) k).size
def sumN (f : Nat → Int) : Nat → Int
 | 0 => 0
 | n + 1 => sumN f n + f n
theorem sumN_le {f : Nat → Int} : ∀ n, (∀ k, k < n → 0 ≤ f k ∧ f k < 100000) → 0 ≤ sumN f n ∧ sumN f n ≤ n * 100000
 | 0, _ => by simp [sumN]
 | n + 1, h => by
  have := sumN_le n fun k hk => h k (by omega)
  have := h n (by omega)
  unfold sumN
  omega
def rowB (D : Dg) (p : List (List ByteArray)) (i : Nat) : Bool := sumN (fun k => valN D p i k) (wideP p - 1) == valN D p i (wideP p - 1)
def colB (D : Dg) (p : List (List ByteArray)) (k : Nat) : Bool := sumN (fun i => valN D p i k) (p.length - 1) == valN D p (p.length - 1) k
def colsB (D : Dg) (p : List (List ByteArray)) : Bool := (List.range (wideP p)).all (colB D p)
def openB (L : List Pl) (i : Nat) : Bool := L.any fun a => a.1 == i
def rowsB (D : Dg) (p : List (List ByteArray)) (L : List Pl) : Bool := (List.range p.length).all fun i => openB L i || rowB D p i
noncomputable def opM (L : List Pl) : TV → Option TV := L.foldl (fun f a => updT f (.int .i64 a.1) (.bool true)) fun _ => none
theorem opM_snoc (L : List Pl) (a : Pl) : opM (L ++ [a]) = updT (opM L) (.int .i64 a.1) (.bool true) := by unfold opM; rw [List.foldl_append]; rfl
theorem opM_at (L : List Pl) (i : Nat) : opM L (.int .i64 i) = if openB L i = true then some (.bool true) else none := by
 have key : ∀ (L : List Pl) (f : TV → Option TV), L.foldl (fun f a => updT f (.int .i64 a.1) (.bool true)) f (.int .i64 i) = if openB L i = true then some (.bool true) else f (.int .i64 i) := by
  intro L
  induction L with
  | nil => intro f; rfl
  | cons a L ih =>
   intro f
   rw [List.foldl_cons, ih]
   unfold openB
   rw [List.any_cons]
   by_cases h : L.any (fun a => a.1 == i) = true
   ·rw [if_pos h, h]; simp
   ·rw [if_neg h]
    unfold updT
    by_cases e : a.1 = i
    ·rw [e]; simp
    ·rw [if_neg (fun h => by simp only [TV.int.injEq, true_and] at h; omega)]
     have : (a.1 == i) = false := by simpa using e
     rw [this]; simp [h]
 exact key L _
def endP (L : List Pl) (i : Nat) : Pl := L.foldl (fun o a => if a.1 = i then a else o) (0, 0, 0)
theorem endP_snoc (L : List Pl) (a : Pl) (i : Nat) : endP (L ++ [a]) i = if a.1 = i then a else endP L i := by unfold endP; rw [List.foldl_append]; rfl
def firstB (p : List (List ByteArray)) (a : Pl) : Bool := a.2.2 == 0 && decide (1 < (entA (rowA p a.1) a.2.1).size)
def lastB (L : List Pl) (a : Pl) : Bool := a == endP L a.1
def stepR (p : List (List ByteArray)) (L : List Pl) (a : Pl) (g : Dg → Dg × List (List Int)) (S : Dg × List (List Int)) (d : Nat) : Dg × List (List Int) :=
 if d = 0 ∧ firstB p a = true then S else
 if (lastB L a && !rowB (updD S.1 a d) p a.1) = true then (updD S.1 a d, S.2) else ((g (updD S.1 a d)).1, S.2 ++ (g (updD S.1 a d)).2)
def toG (p : List (List ByteArray)) (L : List Pl) (a : Pl) (g : Dg → Dg × List (List Int)) (D : Dg) : Nat → Dg × List (List Int)
 | 0 => (D, [])
 | d + 1 => stepR p L a g (toG p L a g D d) d
def digsL (L : List Pl) (D : Dg) : List Int := L.map fun a => (D a).getD 0
def fillG (p : List (List ByteArray)) (L : List Pl) : Nat → Nat → Dg → Dg × List (List Int)
 | 0, _, D => (D, if colsB D p then [digsL L D] else [])
 | r + 1, k, D => toG p L (L.getD k (0, 0, 0)) (fillG p L r (k + 1)) D 10
def readG (p : List (List ByteArray)) : List (List Int) := if rowsB (fun _ => none) p (placesP p) then (fillG p (placesP p) (placesP p).length 0 fun _ => none).2 else []
theorem toG_ok {p : List (List ByteArray)} {L : List Pl} {a : Pl} {g : Dg → Dg × List (List Int)} (hg : ∀ D, DOk D → DOk (g D).1) {D : Dg} (hD : DOk D) : ∀ d, d ≤ 10 → DOk (toG p L a g D d).1
 | 0, _ => hD
 | d + 1, h => by
  have ih := toG_ok (p := p) (L := L) (a := a) hg hD d (by omega)
  unfold toG stepR
  have hu : DOk (updD (toG p L a g D d).1 a d) := ih.upd a (by omega) (by omega)
  split
  ·exact ih
  ·split
   ·exact hu
   ·exact hg _ hu
theorem fillG_ok (p : List (List ByteArray)) (L : List Pl) : ∀ (r k : Nat) (D : Dg), DOk D → DOk (fillG p L r k D).1
 | 0, _, _, h => h
 | r + 1, k, D, h => toG_ok (fun D hD => fillG_ok p L r (k + 1) D hD) h 10 (Nat.le_refl _)
end Go.Ow

namespace Go.Proofs
open Go.Shelf Go.RowKit
def Tryd.lays146_ren : Go.Shelf.Ren := ⟨fun | 146 => 66 | 221 => 93 | 268 => 123 | 138 => 89 | 143 => 119 | 195 => 117 | 197 => 136 | 218 => 118 | 219 => 134 | 260 => 141 | 217 => 137 | 225 => 138 | 224 => 139 | 267 => 140 | 266 => 142 | 314 => 143 | n => n, fun | 9 => 9 | 31 => 41 | 3 => 3 | 4 => 4 | 0 => 0 | 105 => 188 | 21 => 21 | 5 => 5 | 46 => 190 | 119 => 194 | 139 => 197 | 138 => 196 | 146 => 192 | 51 => 191 | n => n, fun | 1 => 1 | 3 => 2 | 4 => 3 | n => n⟩
theorem Tryd.lays146 : Go.Proofs.Lays.n146 Tryd.prog Tryd.lays146_ren := {
 mixed := by kernel_rfl
 f138 := Tryd.func89.trans (congrArg some (by kernel_rfl))
 f143 := Tryd.func119.trans (congrArg some (by kernel_rfl))
 f146 := Tryd.func66.trans (congrArg some (by kernel_rfl))
 f195 := Tryd.func117.trans (congrArg some (by kernel_rfl))
 f197 := Tryd.func136.trans (congrArg some (by kernel_rfl))
 f217 := Tryd.func137.trans (congrArg some (by kernel_rfl))
 f218 := Tryd.func118.trans (congrArg some (by kernel_rfl))
 f219 := Tryd.func134.trans (congrArg some (by kernel_rfl))
 f221 := Tryd.func93.trans (congrArg some (by kernel_rfl))
 f224 := Tryd.func139.trans (congrArg some (by kernel_rfl))
 f225 := Tryd.func138.trans (congrArg some (by kernel_rfl))
 f260 := Tryd.func141.trans (congrArg some (by kernel_rfl))
 f266 := Tryd.func142.trans (congrArg some (by kernel_rfl))
 f267 := Tryd.func140.trans (congrArg some (by kernel_rfl))
 f268 := Tryd.func123.trans (congrArg some (by kernel_rfl))
 f314 := Tryd.func143.trans (congrArg some (by kernel_rfl))
 t0 := Tryd.underlying0
 a0 := Tryd.isAgg0
 z0 := Tryd.sizeOf0
 v0 := Tryd.zeroValue0
 t3 := Tryd.underlying3
 a3 := Tryd.isAgg3
 z3 := Tryd.sizeOf3
 v3 := Tryd.zeroValue3
 t4 := Tryd.underlying4
 a4 := Tryd.isAgg4
 z4 := Tryd.sizeOf4
 v4 := Tryd.zeroValue4
 t5 := Tryd.underlying5
 a5 := Tryd.isAgg5
 z5 := Tryd.sizeOf5
 v5 := Tryd.zeroValue5
 t9 := Tryd.underlying9
 a9 := Tryd.isAgg9
 z9 := Tryd.sizeOf9
 v9 := Tryd.zeroValue9
 t21 := Tryd.underlying21
 a21 := Tryd.isAgg21
 z21 := Tryd.sizeOf21
 v21 := Tryd.zeroValue21
 t31 := Tryd.underlying41
 a31 := Tryd.isAgg41
 z31 := Tryd.sizeOf41
 v31 := Tryd.zeroValue41
 t46 := Tryd.underlying190
 a46 := Tryd.isAgg190
 z46 := Tryd.sizeOf190
 v46 := Tryd.zeroValue190
 t51 := Tryd.underlying191
 a51 := Tryd.isAgg191
 z51 := Tryd.sizeOf191
 v51 := Tryd.zeroValue191
 t105 := Tryd.underlying188
 a105 := Tryd.isAgg188
 z105 := Tryd.sizeOf188
 v105 := Tryd.zeroValue188
 t119 := Tryd.underlying194
 a119 := Tryd.isAgg194
 z119 := Tryd.sizeOf194
 t138 := Tryd.underlying196
 a138 := Tryd.isAgg196
 z138 := Tryd.sizeOf196
 v138 := Tryd.zeroValue196
 t139 := Tryd.underlying197
 a139 := Tryd.isAgg197
 z139 := Tryd.sizeOf197
 v139 := Tryd.zeroValue197
 t146 := Tryd.underlying192
 a146 := Tryd.isAgg192
 z146 := Tryd.sizeOf192
 v146 := Tryd.zeroValue192
 g1 := by kernel_rfl
 g3 := by kernel_rfl
 g4 := by kernel_rfl }
end Go.Proofs

namespace Go.Pm
open Go Go.RowKit
variable {P : Program}
theorem pcalls_of {f : FuncId} {args : List TV} {r : TV} (hf : FnOk P f) (h : ∀ (w : World) (F : Fz) (us : List Value), (∀ a u, F a = some u → look w a = some u) → RepL F args us →
  Calls P f us.toArray w fun e w' => ∃ u F', e = .returned u ∧ Below w.heap.size w w' ∧ F.le F' ∧ (∀ a u, F' a = some u → look w' a = some u) ∧ (∀ a u, F' a = some u → F a = none → w.heap.size ≤ a.block) ∧ RepT F' r u) : PCalls P f args r := by
 refine ⟨hf, fun w F φ us H hr => ?_⟩
 have hr' : RepL F args us := ⟨by simpa using hr.1, fun i c u hc hu => hr.2 i (.t c) u (by rw [List.getElem?_map, hc]; rfl) hu⟩
 refine (h w F us H.agree hr').mono ?_
 rintro e w' ⟨u, F', he, hb, hF, hag, hnew, hu⟩
 exact ⟨u, F', φ, he, H.grow hF hag hnew hb, hu⟩
theorem pcalls_below {f : FuncId} {args : List TV} {r : TV} (hf : FnOk P f) (h : ∀ (w : World) (F : Fz) (us : List Value), (∀ a u, F a = some u → look w a = some u) → RepL F args us →
  ∃ u, RepT F r u ∧ Calls P f us.toArray w fun e w' => e = .returned u ∧ Below w.heap.size w w') : PCalls P f args r := by
 refine pcalls_of hf fun w F us hag hr => ?_
 obtain ⟨u, hu, hc⟩ := h w F us hag hr
 refine hc.mono ?_
 rintro e w' ⟨he, hb⟩
 refine ⟨u, F, he, hb, Fz.le_refl _, fun a v hv => ?_, (fun a v h1 h2 => by rw [h1] at h2; cases h2), hu⟩
 have := hag a v hv
 rw [look_same (hb.block _ (cell_lt this))]; exact this
theorem str_inv {F : Fz} {s : ByteArray} {u : Value} (h : RepT F (.str s) u) : u = .string s := by cases h; rfl
theorem repl2 {F : Fz} {a b : TV} {us : List Value} (h : RepL F [a, b] us) : ∃ u v, us = [u, v] ∧ RepT F a u ∧ RepT F b v := by
 match us, h with
 | [u, v], h => exact ⟨u, v, rfl, h.2 0 a u rfl rfl, h.2 1 b v rfl rfl⟩
 | [], h => have := h.1; simp at this
 | [_], h => have := h.1; simp at this
 | _ :: _ :: _ :: _, h => have := h.1; simp at this
end Go.Pm
namespace Go.Proofs.YtdkboibnokipaaaDoor
open Go.RowKit Go.Pm Go.Shelf
theorem sCount_c (s : ByteArray) (c : UInt8) : PCalls Tryd.prog 89 [.str s, .str ⟨#[c]⟩] (.int .i64 ((s.data.toList.count c : Nat) : Int)) := by
 refine pcalls_below ⟨_, Tryd.func89, rfl, by kernel_rfl⟩ fun w F us _ hr => ?_
 obtain ⟨u, v, rfl, h1, h2⟩ := repl2 hr
 rw [str_inv h1, str_inv h2]
 refine ⟨_, .int .i64 _, (Any.strings_Count_one (P := Tryd.prog) (ρ := Tryd.lays146_ren) { Tryd.lays146 with } s c w).mono ?_⟩
 rintro e w' ⟨he, rfl⟩
 exact ⟨he, Below.refl _ _⟩
end Go.Proofs.YtdkboibnokipaaaDoor

namespace Go.Proofs.YtdkboibnokipaaaDoor
open Go.RowKit Go.Pm Go.Ow
noncomputable def wkIsEntry : List TV → Option TV
 | [.str s] => some (.bool (entB s))
 | _ => none
theorem wkIsEntry_ok : ∀ xs r, wkIsEntry xs = some r → PCalls Tryd.prog 88 xs r := by
 intro xs r h
 unfold wkIsEntry at h
 split at h
 ·cases h; exact wIsEntry_c _
 ·cases h
noncomputable def stCount : List TV → Option TV
 | [.str s, .str b] => if b.data = #[63] then some (.int .i64 (lostC s)) else none
 | _ => none
theorem stCount_ok : ∀ xs r, stCount xs = some r → PCalls Tryd.prog 89 xs r := by
 intro xs r h
 unfold stCount at h
 split at h
 ·rename_i s b
  split at h
  ·rename_i hb
   cases h
   have : b = ⟨#[63]⟩ := by cases b; simp at hb; rw [hb]
   rw [this]
   exact sCount_c s 63
  ·cases h
 ·cases h
@[go_sem] theorem stCount_eq (s : ByteArray) : stCount [.str s, .str (ByteArray.mk #[63])] = some (.int .i64 (lostC s)) := rfl
attribute [go_sem] wkIsEntry
noncomputable def spWq : Pm.Spec := ((spWa.one 88 wkIsEntry).one 89 stCount).gdt
theorem spWq_ok : SpecOk Tryd.prog spWq := Spec.gdt_ok (Spec.one_ok stCount_ok (Spec.one_ok wkIsEntry_ok spWa_ok))
theorem wValid_c {s : TV} {p : List (List ByteArray)} (hs : pgR s p) : PCalls Tryd.prog 57 [s] (.bool (validB p)) := by
 refine pcalls_by Tryd.mixes spWq_ok (fn := Tryd.f57) Tryd.func57 rfl (by kernel_rfl) (by show 1 ≤ _; decide) ?_
 rcases hs with ⟨rfl, rfl⟩ | ⟨rs, f, rfl, hrl, hrs⟩
 ·have h1 : inW 0 2 5 = false := rfl
  have e : validB [] = false := rfl
  simp +decide -implicitDefEqProofs (maxSteps := 4000000) only [go_sem, Tryd.f57, spWq, h1, e]
 ·rcases Bool.eq_false_or_eq_true (inW p.length 2 5) with h1 | h1
  rotate_left
  ·have e : validB p = false := by unfold validB; rw [h1]; rfl
   simp +decide -implicitDefEqProofs (maxSteps := 4000000) only [go_sem, Tryd.f57, spWq, h1, e]
  ·have hb := inW_if.1 h1
   obtain ⟨r0, hr0⟩ : ∃ r, p[0]? = some r := ⟨_, List.getElem?_eq_getElem (by omega)⟩
   obtain ⟨t0, ht0⟩ : ∃ t, rs[0]? = some t := ⟨_, List.getElem?_eq_getElem (by omega)⟩
   have hx0 := hrs 0 r0 t0 hr0 ht0
   have hw0 : wideP p = r0.length := by unfold wideP; rw [List.getD_eq_getElem?_getD, hr0]; rfl
   have d0 := tv_at ht0
   have h0 : (0 : Int) < p.length := by omega
   simp +decide -implicitDefEqProofs (maxSteps := 4000000) only [go_sem, Tryd.f57, spWq, h1]
   refine pwpC_loopU (A := { k : Nat // k ≤ p.length ∧ (∀ (j : Nat) (r : List ByteArray), j < k → p[j]? = some r → rowOk (wideP p) r = true) ∧ lostP (p.take k) ≤ k * 25 }) [0, 12, 13] (fun k => [(14, .t (.int .i64 k.1)), (3, .t (.int .i64 ((lostP (p.take k.1) : Nat) : Int)))]) (fun _ => []) (fun k => p.length - k.1) ⟨0, by omega, fun j r h => absurd h (by omega), by simp [lostP]⟩ (by decide) (fun _ => by rfl) ?_ fun Q1 hQ1 ⟨k, hk, hok, hlo⟩ I1 hI1 => ?_
   ·simp +decide -implicitDefEqProofs (maxSteps := 4000000) only [go_sem, List.take_zero, show lostP [] = 0 from rfl]
    first | done | rfl
   ·by_cases hlt : (k : Int) < p.length
    ·obtain ⟨r, hr⟩ : ∃ r, p[k]? = some r := ⟨_, List.getElem?_eq_getElem (by omega)⟩
     obtain ⟨t, ht⟩ : ∃ t, rs[k]? = some t := ⟨_, List.getElem?_eq_getElem (by omega)⟩
     have hx := hrs k r t hr ht
     have d1 := tv_at ht
     have hk1 := Go.Pm.wS (k := k) (by omega)
     rcases Bool.eq_false_or_eq_true (inW r.length 2 5) with h2 | h2
     rotate_left
     ·have e := not_valid hr (by unfold rowOk; rw [h2]; rfl)
      rcases hx with ⟨rfl, rfl⟩ | ⟨g, rfl⟩
      ·have h2' : inW 0 2 5 = false := rfl
       simp +decide -implicitDefEqProofs (maxSteps := 4000000) only [go_sem, hlt, d1, h2', Nat.mul_one]
       refine hQ1 _ _ ?_
       simp +decide -implicitDefEqProofs (maxSteps := 4000000) only [go_sem, e]
      ·simp +decide -implicitDefEqProofs (maxSteps := 4000000) only [go_sem, hlt, d1, h2, Nat.mul_one]
       refine hQ1 _ _ ?_
       simp +decide -implicitDefEqProofs (maxSteps := 4000000) only [go_sem, e]
     ·have hb2 := inW_if.1 h2
      obtain ⟨g, rfl⟩ : ∃ g, t = .sl (r.map .str) r.length g := by
       rcases hx with ⟨_, rfl⟩ | ⟨g, e⟩
       ·simp at hb2
       ·exact ⟨g, e⟩
      by_cases h3 : r.length = r0.length
      rotate_left
      ·have e := not_valid hr (by unfold rowOk; rw [hw0, show (r.length == r0.length) = false by simpa using h3]; simp)
       have h3' : ((r.length : Int) != (r0.length : Int)) = true := bne_int_t (by omega)
       rcases hx0 with ⟨rfl, rfl⟩ | ⟨g0, rfl⟩
       ·have h3'' : ((r.length : Int) != 0) = true := bne_int_t (by omega)
        simp +decide -implicitDefEqProofs (maxSteps := 4000000) only [go_sem, hlt, d1, h2, h0, d0, h3'', Nat.mul_one]
        refine hQ1 _ _ ?_
        simp +decide -implicitDefEqProofs (maxSteps := 4000000) only [go_sem, e]
       ·simp +decide -implicitDefEqProofs (maxSteps := 4000000) only [go_sem, hlt, d1, h2, h0, d0, h3', Nat.mul_one]
        refine hQ1 _ _ ?_
        simp +decide -implicitDefEqProofs (maxSteps := 4000000) only [go_sem, e]
      ·obtain ⟨g0, rfl⟩ : ∃ g, t0 = .sl (r0.map .str) r0.length g := by
        rcases hx0 with ⟨_, rfl⟩ | ⟨g, e⟩
        ·rw [List.length_nil] at h3; omega
        ·exact ⟨g, e⟩
       have h3' : ((r.length : Int) != (r0.length : Int)) = false := bne_int_f (by omega)
       simp +decide -implicitDefEqProofs (maxSteps := 4000000) only [go_sem, hlt, d1, h2, h0, d0, h3', Nat.mul_one]
       refine pwpC_loopU (A := { j : Nat // j ≤ r.length ∧ (∀ (i : Nat) (x : ByteArray), i < j → r[i]? = some x → entB x = true) ∧ lostR (r.take j) ≤ j * 5 }) [0, 12, 13, 14, 31, 32] (fun j => [(33, .t (.int .i64 j.1)), (3, .t (.int .i64 ((lostP (p.take k) + lostR (r.take j.1) : Nat) : Int)))]) (fun _ => []) (fun j => r.length - j.1) ⟨0, by omega, fun i x h => absurd h (by omega), by simp [lostR]⟩ (by decide) (fun _ => by rfl) ?_ fun Q2 hQ2 ⟨j, hj, hent, hlr⟩ I2 hI2 => ?_
       ·simp +decide -implicitDefEqProofs (maxSteps := 4000000) only [go_sem, List.take_zero, show lostR [] = 0 from rfl, Nat.add_zero]
       ·by_cases hlt2 : (j : Int) < r.length
        ·obtain ⟨x, hx⟩ : ∃ x, r[j]? = some x := ⟨_, List.getElem?_eq_getElem (by omega)⟩
         have dx := txs_at hx
         have hj1 := Go.Pm.wS (k := j) (by omega)
         rcases Bool.eq_false_or_eq_true (entB x) with h4 | h4
         ·have hsn := lostR_snoc hx
          have hc1 := lostC_le x
          have hc2 := entB_size h4
          have hadd : IntKind.i64.wrap (((lostP (p.take k) + lostR (r.take j) : Nat) : Int) + (lostC x : Int)) = ((lostP (p.take k) + lostR (r.take (j + 1)) : Nat) : Int) := by rw [wrap_in (by omega) (by omega)]; omega
          simp +decide -implicitDefEqProofs (maxSteps := 4000000) only [go_sem, hlt2, dx, h4, Nat.mul_one]
          refine hI2 _ ⟨j + 1, by omega, fun i y hi hy => ?_, by omega⟩ (by simp only; omega) ?_
          ·by_cases e : i = j
           ·subst e; rw [hx] at hy; cases hy; exact h4
           ·exact hent i y (by omega) hy
          ·simp +decide -implicitDefEqProofs (maxSteps := 4000000) only [go_sem, hj1, hadd]
         ·have e := not_valid hr (row_bad hx h4)
          simp +decide -implicitDefEqProofs (maxSteps := 4000000) only [go_sem, hlt2, dx, h4, Nat.mul_one]
          refine hQ2 _ _ ?_
          simp +decide -implicitDefEqProofs (maxSteps := 4000000) only [go_sem]
          refine hQ1 _ _ ?_
          simp +decide -implicitDefEqProofs (maxSteps := 4000000) only [go_sem, e]
        ·have hke : j = r.length := by omega
         subst hke
         have hsn := lostP_snoc hr
         have hrok : rowOk (wideP p) r = true := by
          unfold rowOk
          rw [h2, hw0, h3]
          simp only [Bool.true_and, beq_self_eq_true]
          rw [List.all_eq_true]
          intro y hy
          obtain ⟨i, hi⟩ := List.mem_iff_getElem?.1 hy
          exact hent i y (List.getElem?_eq_some_iff.1 hi).1 hi
         simp +decide -implicitDefEqProofs (maxSteps := 4000000) only [go_sem, hlt2]
         refine hQ2 _ _ ?_
         rw [List.take_length] at hlr
         simp +decide -implicitDefEqProofs (maxSteps := 4000000) only [go_sem]
         refine hI1 _ ⟨k + 1, by omega, fun i y hi hy => ?_, by omega⟩ (by simp only; omega) ?_
         ·by_cases e : i = k
          ·subst e; rw [hr] at hy; cases hy; exact hrok
          ·exact hok i y (by omega) hy
         ·simp +decide -implicitDefEqProofs (maxSteps := 4000000) only [go_sem, hk1, hsn, List.take_length]
    ·have hke : k = p.length := by omega
     subst hke
     have e : validB p = decide (((lostP p : Nat) : Int) ≤ 5) := by
      unfold validB
      have : p.all (rowOk (wideP p)) = true := by
       rw [List.all_eq_true]
       intro y hy
       obtain ⟨i, hi⟩ := List.mem_iff_getElem?.1 hy
       exact hok i y (List.getElem?_eq_some_iff.1 hi).1 hi
      rw [h1, this, Bool.true_and, Bool.true_and]
      exact decide_eq_decide.2 (by omega)
     simp +decide -implicitDefEqProofs (maxSteps := 4000000) only [go_sem, hlt, List.take_length]
     refine hQ1 _ _ ?_
     simp +decide -implicitDefEqProofs (maxSteps := 4000000) only [go_sem, e, List.take_length]
theorem wCheckPage_c {s : TV} {p : List (List ByteArray)} (hs : pgR s p) : PCalls Tryd.prog 17 [s] (.int .i64 (if validB p then 0 else 90)) := by
 refine pcalls_by Tryd.mixes (Spec.one_ok (oneP_ok (wValid_c hs)) noSpec_ok) (fn := Tryd.f17) Tryd.func17 rfl (by kernel_rfl) (by show 1 ≤ _; decide) ?_
 cases h : validB p with
 | false => simp +decide -implicitDefEqProofs (maxSteps := 4000000) only [go_sem, Tryd.f17, h]
 | true => simp +decide -implicitDefEqProofs (maxSteps := 4000000) only [go_sem, Tryd.f17, h]
end Go.Proofs.YtdkboibnokipaaaDoor

namespace Go.Proofs.YtdkboibnokipaaaDoor
open Go.RowKit Go.Pm
end Go.Proofs.YtdkboibnokipaaaDoor

namespace Go.Ow
open Go Go.RowKit Go.Pm
theorem txR_inj {t : TV} {l m : List ByteArray} (h1 : txR t l) (h2 : txR t m) : l = m := by
 have key : ∀ {a b : List ByteArray}, a.map TV.str = b.map TV.str → a = b := by
  intro a
  induction a with
  | nil => intro b h; cases b with | nil => rfl | cons => simp at h
  | cons x a ih =>
   intro b h
   cases b with
   | nil => simp at h
   | cons y b =>
    simp only [List.map_cons, List.cons.injEq, TV.str.injEq] at h
    rw [h.1, ih h.2]
 rcases h1 with ⟨rfl, rfl⟩ | ⟨f, rfl⟩
 ·rcases h2 with ⟨_, rfl⟩ | ⟨g, h⟩
  ·rfl
  ·cases h
 ·rcases h2 with ⟨h, _⟩ | ⟨g, h⟩
  ·cases h
  ·simp only [TV.sl.injEq] at h; exact key h.1
theorem pgR_inj {s : TV} {p q : List (List ByteArray)} (h1 : pgR s p) (h2 : pgR s q) : p = q := by
 rcases h1 with ⟨rfl, rfl⟩ | ⟨rs, f, rfl, hl, hr⟩
 ·rcases h2 with ⟨_, rfl⟩ | ⟨_, g, h, _⟩
  ·rfl
  ·cases h
 ·rcases h2 with ⟨h, _⟩ | ⟨rs', g, h, hl', hr'⟩
  ·cases h
  ·simp only [TV.sl.injEq] at h
   obtain ⟨rfl, hlen, _⟩ := h
   apply List.ext_getElem hlen
   intro i h1 h2
   exact txR_inj (hr i _ _ (List.getElem?_eq_getElem h1) (List.getElem?_eq_getElem (by omega))) (hr' i _ _ (List.getElem?_eq_getElem h2) (List.getElem?_eq_getElem (by omega)))
open Classical in
noncomputable def onPage (g : List (List ByteArray) → TV) : List TV → Option TV
 | [s] => if h : ∃ p, pgR s p then some (g (Classical.choose h)) else none
 | _ => none
open Classical in
theorem onPage_of {g : List (List ByteArray) → TV} {s : TV} {p : List (List ByteArray)} (h : pgR s p) : onPage g [s] = some (g p) := by
 have hx : ∃ p, pgR s p := ⟨p, h⟩
 show (if h : ∃ p, pgR s p then some (g (Classical.choose h)) else none) = _
 rw [dif_pos hx, pgR_inj (Classical.choose_spec hx) h]
theorem onPage_ok {P : Program} {f : FuncId} {g : List (List ByteArray) → TV} (h : ∀ s p, pgR s p → PCalls P f [s] (g p)) : ∀ a r, onPage g a = some r → PCalls P f a r := by
 intro a r e
 unfold onPage at e
 split at e
 ·split at e
  ·rename_i hx
   cases e
   exact h _ _ (Classical.choose_spec hx)
  ·cases e
 ·cases e
end Go.Ow
namespace Go.Proofs.YtdkboibnokipaaaDoor
open Go.RowKit Go.Pm Go.Ow
def rowV (r : List ByteArray) : TV := .sl (r.map .str) r.length true
def pgV (p : List (List ByteArray)) : TV := .sl (p.map rowV) p.length false
end Go.Proofs.YtdkboibnokipaaaDoor

namespace Go.Ow
open Go Go.RowKit Go.Pm
def lostT (L : List Pl) : TV := if L.length = 0 then .nilSl else .sl (L.flatMap plC) L.length false
theorem plC_len (L : List Pl) : (L.flatMap plC).length = L.length * 3 := by
 induction L with
 | nil => rfl
 | cons x l ih => rw [List.flatMap_cons, List.length_append, ih, List.length_cons]; show 3 + _ = _; omega
theorem lostR_mono (r : List ByteArray) (k : Nat) : lostR (r.take k) ≤ lostR r := by
 have : lostR r = lostR (r.take k) + lostR (r.drop k) := by
  unfold lostR
  rw [← List.sum_append, ← List.map_append, List.take_append_drop]
 omega
theorem lostP_mono (p : List (List ByteArray)) (k : Nat) : lostP (p.take k) ≤ lostP p := by
 have : lostP p = lostP (p.take k) + lostP (p.drop k) := by
  unfold lostP
  rw [← List.sum_append, ← List.map_append, List.take_append_drop]
 omega
end Go.Ow
namespace Go.Proofs.YtdkboibnokipaaaDoor
open Go.RowKit Go.Pm Go.Ow
theorem key_pl (a b c : Int) : keyOk Tryd.prog 84 (.agg [.int .i64 a, .int .i64 b, .int .i64 c]) = true := by kernel_rfl
noncomputable def wkCheck : List TV → Option TV := onPage fun p => .int .i64 (if validB p then 0 else 90)
theorem wkCheck_ok : ∀ a r, wkCheck a = some r → PCalls Tryd.prog 17 a r := onPage_ok fun s p h => wCheckPage_c h
theorem wkCheck_of {s : TV} {p : List (List ByteArray)} (h : pgR s p) : wkCheck [s] = some (.int .i64 (if validB p then 0 else 90)) := onPage_of h
noncomputable def spWu : Pm.Spec := noSpec.one 17 wkCheck
theorem spWu_ok : SpecOk Tryd.prog spWu := Spec.one_ok wkCheck_ok noSpec_ok
def pageW (s lt : TV) (id : Nat) : PV := .cons false (.t s) (.cons false (.t lt) (.cons false (.mapr id) (.nil false)))
def pageV (s : TV) (L : List Pl) (id : Nat) : PV := pageW s (lostT L) id
theorem wOpened_c {s : TV} {p : List (List ByteArray)} (hs : pgR s p) (hv : validB p = true) : HCalls Tryd.prog 51 [.t s] (getL []) (.cons true (pageV s (placesP p) 1) (.cons true (.t (.int .i64 0)) (.nil true))) (getL [.box [.junk, .junk, .junk], .mp 84 (mapD fun _ => none)]) := by
 have hk := wkCheck_of hs
 rw [hv] at hk
 refine hcalls_by Tryd.mixes spWu_ok (fn := Tryd.f51) Tryd.func51 rfl (by kernel_rfl) (by show 1 ≤ _; decide) ?_
 have hlp := places_len p
 have hll := (valid_len hv).2
 have hvl := (valid_len hv).1
 obtain ⟨rs, f, rfl, hrl, hrs⟩ : ∃ rs f, s = .sl rs p.length f ∧ rs.length = p.length ∧ ∀ (k : Nat) (r : List ByteArray) (t : TV), p[k]? = some r → rs[k]? = some t → txR t r := by
  rcases hs with ⟨_, rfl⟩ | ⟨rs, f, h1, h2, h3⟩
  ·simp at hvl
  ·exact ⟨rs, f, h1, h2, h3⟩
 simp +decide -implicitDefEqProofs (maxSteps := 4000000) only [go_sem, Tryd.f51, spWu, hk]
 refine pwpC_loopU (A := { i : Nat // i ≤ p.length }) [0, 2, 3, 5, 21, 22] (fun i => [(23, .t (.int .i64 i.1))]) (fun i => [(2, .box [.t (.sl rs p.length f), .own ((upP p i.1).flatMap plC) (upP p i.1).length 3, .mapr 1]), (3, .tok (upP p i.1).length 29)]) (fun i => p.length - i.1) ⟨0, by omega⟩ (by decide) (fun _ => by rfl) ?_ fun Q1 hQ1 ⟨i, hi⟩ I1 hI1 => ?_
 ·simp +decide -implicitDefEqProofs (maxSteps := 4000000) only [go_sem, show upP p 0 = [] from rfl, List.flatMap_nil, List.length_nil]
 ·by_cases hlt : (i : Int) < p.length
  ·obtain ⟨r, hr⟩ : ∃ r, p[i]? = some r := ⟨_, List.getElem?_eq_getElem (by omega)⟩
   obtain ⟨t, ht⟩ : ∃ t, rs[i]? = some t := ⟨_, List.getElem?_eq_getElem (by omega)⟩
   obtain ⟨hrl1, hrl2, hre⟩ := valid_row hv hr
   obtain ⟨g, rfl⟩ : ∃ g, t = .sl (r.map .str) r.length g := by
    rcases hrs i r t hr ht with ⟨_, rfl⟩ | ⟨g, e⟩
    ·simp at hrl1
    ·exact ⟨g, e⟩
   have d1 := tv_at ht
   have er : rowA p i = r := by unfold rowA; rw [List.getD_eq_getElem?_getD, hr]; rfl
   have hk1 := Go.Pm.wS (k := i) (by omega)
   have hus := upP_succ p i
   rw [er] at hus
   obtain ⟨U, hU⟩ : ∃ U, upP p i = U := ⟨_, rfl⟩
   rw [hU] at hus
   have hUl : U.length + (upR i r r.length).length ≤ 5 := by
    have h1 := upP_len p (i + 1) (by omega)
    rw [hus, List.length_append] at h1
    have h2 := lostP_mono p (i + 1)
    omega
   have hmono : ∀ k, k ≤ r.length → (upR i r k).length ≤ (upR i r r.length).length := fun k hk => by
    rw [upR_len i r k hk, upR_len i r _ (Nat.le_refl _), List.take_length]; exact lostR_mono r k
   simp +decide -implicitDefEqProofs (maxSteps := 4000000) only [go_sem, hlt, d1, hU, Nat.mul_one]
   refine pwpC_loopU (A := { k : Nat // k ≤ r.length }) [0, 2, 3, 5, 21, 22, 23, 6, 28, 29] (fun k => [(30, .t (.int .i64 k.1))]) (fun k => [(2, .box [.t (.sl rs p.length f), .own ((U ++ upR i r k.1).flatMap plC) (U ++ upR i r k.1).length 3, .mapr 1]), (3, .tok (U ++ upR i r k.1).length 29)]) (fun k => r.length - k.1) ⟨0, by omega⟩ (by decide) (fun _ => by rfl) ?_ fun Q2 hQ2 ⟨k, hk⟩ I2 hI2 => ?_
   ·simp +decide -implicitDefEqProofs (maxSteps := 4000000) only [go_sem, show upR i r 0 = [] from rfl, List.append_nil]
   ·by_cases hlt2 : (k : Int) < r.length
    ·obtain ⟨x, hx⟩ : ∃ x, r[k]? = some x := ⟨_, List.getElem?_eq_getElem (by omega)⟩
     have dx := txs_at hx
     have hk2 := Go.Pm.wS (k := k) (by omega)
     have hxe := hre x (List.mem_of_getElem? hx)
     have hxs := entB_size hxe
     have hxb : x.size ≤ 140737488355328 := by omega
     have ex : entA r k = x := by unfold entA; rw [List.getD_eq_getElem?_getD, hx]; rfl
     have hus2 := upR_succ i r k
     rw [ex] at hus2
     have hm1 := hmono (k + 1) (by omega)
     rw [hus2, List.length_append] at hm1
     obtain ⟨V, hV⟩ : ∃ V, U ++ upR i r k = V := ⟨_, rfl⟩
     have hVs : U ++ upR i r (k + 1) = V ++ upS i k x x.size := by rw [hus2, ← List.append_assoc, hV]
     have hVl : V.length + (upS i k x x.size).length ≤ 5 := by rw [← hV, List.length_append]; omega
     have hlen := bytes_len x
     simp +decide -implicitDefEqProofs (maxSteps := 4000000) only [go_sem, hlt2, dx, hV, hxb, Nat.mul_one]
     refine pwpC_loopU (A := { j : Nat // j ≤ x.size ∧ (upS i k x j).length ≤ (upS i k x x.size).length }) [0, 2, 3, 5, 21, 22, 23, 6, 28, 29, 30, 8, 36, 37] (fun j => [(38, .t (.int .i64 j.1))]) (fun j => [(2, .box [.t (.sl rs p.length f), .own ((V ++ upS i k x j.1).flatMap plC) (V ++ upS i k x j.1).length 3, .mapr 1]), (3, .tok (V ++ upS i k x j.1).length 29)]) (fun j => x.size - j.1) ⟨0, by omega, by simp [upS]⟩ (by decide) (fun _ => by rfl) ?_ fun Q3 hQ3 ⟨j, hj, hjl⟩ I3 hI3 => ?_
     ·simp +decide -implicitDefEqProofs (maxSteps := 4000000) only [go_sem, show upS i k x 0 = [] from rfl, List.append_nil]
     ·by_cases hlt3 : (j : Int) < x.size
      ·obtain ⟨b, hb⟩ : ∃ b, x.data.toList[j]? = some b := ⟨_, List.getElem?_eq_getElem (by omega)⟩
       have db := bytesT_at hb
       rw [Nat.mul_one] at db
       have eb : x.data.toList.getD j 0 = b := by rw [List.getD_eq_getElem?_getD, hb]; rfl
       have hus3 := upS_succ i k x j
       rw [eb] at hus3
       have hk3 := Go.Pm.wS (k := j) (by omega)
       have hjm : (upS i k x (j + 1)).length ≤ (upS i k x x.size).length := by
        rw [upS_len i k x (j + 1) (by omega), upS_len i k x x.size (Nat.le_refl _)]
        rw [show List.take x.size x.data.toList = x.data.toList from List.take_of_length_le (by omega)]
        exact List.Sublist.count_le _ (List.take_sublist _ _)
       by_cases hq : b = 63
       ·rw [if_pos hq] at hus3
        have c1 : ((b.toNat : Int) == 63) = true := by rw [hq]; rfl
        obtain ⟨W, hW⟩ : ∃ W, V ++ upS i k x j = W := ⟨_, rfl⟩
        have hWs : V ++ upS i k x (j + 1) = W ++ [(i, k, j)] := by rw [hus3, ← List.append_assoc, hW]
        have hWl : W.length ≤ 5 := by rw [← hW, List.length_append]; omega
        have hwr : (W.length + 1) * 24 ≤ 140737488355328 := by omega
        have hwf := plC_len W
        simp +decide -implicitDefEqProofs (maxSteps := 4000000) only [go_sem, hlt3, db, c1, hW, hwr, hwf, Nat.mul_one]
        refine hI3 _ ⟨j + 1, by omega, hjm⟩ (by simp only; omega) ?_
        simp +decide -implicitDefEqProofs (maxSteps := 4000000) only [go_sem, hk3, hWs, List.flatMap_append, List.flatMap_cons, List.flatMap_nil, plC, List.length_append, List.append_nil, List.length_cons, List.length_nil]
       ·rw [if_neg hq, List.append_nil] at hus3
        have c1 : ((b.toNat : Int) == 63) = false := by
         have : ¬ (b.toNat : Int) = 63 := fun e => hq (UInt8.toNat_inj.1 (show b.toNat = 63 by omega))
         simpa using this
        simp +decide -implicitDefEqProofs (maxSteps := 4000000) only [go_sem, hlt3, db, c1, Nat.mul_one]
        refine hI3 _ ⟨j + 1, by omega, hjm⟩ (by simp only; omega) ?_
        simp +decide -implicitDefEqProofs (maxSteps := 4000000) only [go_sem, hk3, hus3]
      ·have hje : j = x.size := by omega
       subst hje
       simp +decide -implicitDefEqProofs (maxSteps := 4000000) only [go_sem, hlt3]
       refine hQ3 _ _ ?_
       simp +decide -implicitDefEqProofs (maxSteps := 4000000) only [go_sem]
       refine hI2 _ ⟨k + 1, by omega⟩ (by simp only; omega) ?_
       simp +decide -implicitDefEqProofs (maxSteps := 4000000) only [go_sem, hk2, hVs]
    ·have hke : k = r.length := by omega
     subst hke
     simp +decide -implicitDefEqProofs (maxSteps := 4000000) only [go_sem, hlt2]
     refine hQ2 _ _ ?_
     simp +decide -implicitDefEqProofs (maxSteps := 4000000) only [go_sem]
     refine hI1 _ ⟨i + 1, by omega⟩ (by simp only; omega) ?_
     simp +decide -implicitDefEqProofs (maxSteps := 4000000) only [go_sem, hk1, hus]
  ·have hie : i = p.length := by omega
   subst hie
   simp +decide -implicitDefEqProofs (maxSteps := 4000000) only [go_sem, hlt]
   refine hQ1 _ _ ?_
   simp +decide -implicitDefEqProofs (maxSteps := 4000000) only [go_sem, pageV, pageW, lostT, show upP p p.length = placesP p from rfl, consP]
   refine ⟨_, rfl, ?_⟩
   simp +decide -implicitDefEqProofs (maxSteps := 4000000) only [go_sem, pageV, pageW, lostT, consP, mapD_none, thawP, thawA, thawC, aggP, allO, PV.under]
end Go.Proofs.YtdkboibnokipaaaDoor

namespace Go.Proofs.YtdkboibnokipaaaDoor
open Go.RowKit Go.Pm Go.Ow
theorem page_rows {s : TV} {p : List (List ByteArray)} (hs : pgR s p) (hv : validB p = true) : ∃ rs f, s = .sl rs p.length f ∧ rs.length = p.length ∧ ∀ (k : Nat) (r : List ByteArray) (t : TV), p[k]? = some r → rs[k]? = some t → ∃ g, t = .sl (r.map .str) r.length g := by
 have hvl := (valid_len hv).1
 rcases hs with ⟨_, rfl⟩ | ⟨rs, f, h1, h2, h3⟩
 ·simp at hvl
 ·refine ⟨rs, f, h1, h2, fun k r t hr ht => ?_⟩
  have := (valid_row hv hr).1
  rcases h3 k r t hr ht with ⟨_, rfl⟩ | ⟨g, e⟩
  ·simp at this
  ·exact ⟨g, e⟩
theorem wEntry_c {s : TV} {p : List (List ByteArray)} (hs : pgR s p) (hv : validB p = true) (lt : TV) {D : Dg} (hD : DOk D) {i k : Nat} (hi : i < p.length) (hk : k < wideP p) : HCalls Tryd.prog 114 [pageW s lt 0, .t (.int .i64 i), .t (.int .i64 k)] (getL [.mp 84 (mapD D)]) (.t (.int .i64 (valN D p i k))) (getL [.mp 84 (mapD D)]) := by
 obtain ⟨rs, f, rfl, hrl, hrs⟩ := page_rows hs hv
 obtain ⟨r, hr⟩ : ∃ r, p[i]? = some r := ⟨_, List.getElem?_eq_getElem hi⟩
 obtain ⟨t, ht⟩ : ∃ t, rs[i]? = some t := ⟨_, List.getElem?_eq_getElem (by omega)⟩
 obtain ⟨g, rfl⟩ := hrs i r t hr ht
 obtain ⟨hr1, hr2, hr3⟩ := valid_row hv hr
 obtain ⟨x, hx⟩ : ∃ x, r[k]? = some x := ⟨_, List.getElem?_eq_getElem (by omega)⟩
 have hvl := (valid_len hv).1
 have er : rowA p i = r := by unfold rowA; rw [List.getD_eq_getElem?_getD, hr]; rfl
 have ex : entA r k = x := by unfold entA; rw [List.getD_eq_getElem?_getD, hx]; rfl
 have hxe := hr3 x (List.mem_of_getElem? hx)
 have hxs := entB_size hxe
 have hxb : x.size ≤ 140737488355328 := by omega
 have d1 := tv_at ht
 have dx := txs_at hx
 have hip : (i : Int) < p.length := by omega
 have hkr : (k : Int) < r.length := by omega
 have hlen := bytes_len x
 have hval : valN D p i k = entN D i k x x.size := by unfold valN; rw [er, ex]
 rw [hval]
 refine hcalls_by Tryd.mixes noSpec_ok (fn := Tryd.f114) Tryd.func114 rfl (by kernel_rfl) (by show 3 ≤ _; decide) ?_
 simp +decide -implicitDefEqProofs (maxSteps := 4000000) only [go_sem, Tryd.f114, pageW, d1, dx, hip, hkr, hxb, Nat.mul_one]
 refine pwpC_loopU (A := { j : Nat // j ≤ x.size }) [1, 2, 3, 19, 20] (fun j => [(21, .t (.int .i64 j.1)), (7, .t (.int .i64 (entN D i k x j.1)))]) (fun _ => []) (fun j => x.size - j.1) ⟨0, by omega⟩ (by decide) (fun _ => by rfl) ?_ fun Q1 hQ1 ⟨j, hj⟩ I1 hI1 => ?_
 ·simp +decide -implicitDefEqProofs (maxSteps := 4000000) only [go_sem, entN]
 ·by_cases hlt : (j : Int) < x.size
  ·obtain ⟨b, hb⟩ : ∃ b, x.data.toList[j]? = some b := ⟨_, List.getElem?_eq_getElem (by omega)⟩
   have db := bytesT_at hb
   rw [Nat.mul_one] at db
   have eb : x.data.toList.getD j 0 = b := by rw [List.getD_eq_getElem?_getD, hb]; rfl
   have hc := entB_C hxe (n := j) (by omega)
   rw [eb] at hc
   have hd := digB_le hD (a := (i, k, j)) hc
   have hn := entN_5 hD (i := i) (k := k) hxe (n := j) (by omega)
   have hs1 : entN D i k x (j + 1) = 10 * entN D i k x j + digB D (i, k, j) b := by
    show 10 * entN D i k x j + digB D (i, k, j) (x.data.toList.getD j 0) = _
    rw [eb]
   have hb256 := b.toNat_lt
   have hw : IntKind.i64.wrap (b.toNat : Int) = b.toNat := wrap_in (by omega) (by omega)
   have hw2 : IntKind.i64.wrap ((b.toNat : Int) - 48) = (b.toNat : Int) - 48 := wrap_in (by omega) (by omega)
   have hw3 : IntKind.i64.wrap (10 * entN D i k x j) = 10 * entN D i k x j := wrap_in (by omega) (by omega)
   have hw4 : IntKind.i64.wrap (10 * entN D i k x j + digB D (i, k, j) b) = entN D i k x (j + 1) := by rw [hs1]; exact wrap_in (by omega) (by omega)
   have hj1 := Go.Pm.wS (k := j) (by omega)
   have hmd : (mapD D (.agg [.int .i64 i, .int .i64 k, .int .i64 j])).getD (.int .i64 0) = .int .i64 ((D (i, k, j)).getD 0) := by
    have := mapD_at D (i, k, j)
    unfold plT plC at this
    rw [this]
    cases D (i, k, j) <;> rfl
   unfold digB at hw4
   by_cases hq : b = 63
   ·have c1 : ((b.toNat : Int) == 63) = true := by rw [hq]; rfl
    rw [if_pos hq] at hw4
    simp +decide -implicitDefEqProofs (maxSteps := 4000000) only [go_sem, hlt, db, hw, hw2, c1, key_pl, hmd, hw3]
    refine hI1 _ ⟨j + 1, by omega⟩ (by simp only; omega) ?_
    simp +decide -implicitDefEqProofs (maxSteps := 4000000) only [go_sem, hj1, hw4]
   ·have c1 : ((b.toNat : Int) == 63) = false := by
     have : ¬ (b.toNat : Int) = 63 := fun e => hq (UInt8.toNat_inj.1 (show b.toNat = 63 by omega))
     simpa using this
    rw [if_neg hq] at hw4
    simp +decide -implicitDefEqProofs (maxSteps := 4000000) only [go_sem, hlt, db, hw, hw2, c1, hw3]
    refine hI1 _ ⟨j + 1, by omega⟩ (by simp only; omega) ?_
    simp +decide -implicitDefEqProofs (maxSteps := 4000000) only [go_sem, hj1, hw4]
  ·have hje : j = x.size := by omega
   subst hje
   simp +decide -implicitDefEqProofs (maxSteps := 4000000) only [go_sem, hlt]
   refine hQ1 _ _ ?_
   simp +decide -implicitDefEqProofs (maxSteps := 4000000) only [go_sem]
   first | done | exact ⟨_, rfl, rfl⟩ | trace_state
theorem lostT_ne {L : List Pl} (h : ¬ L.length = 0) : lostT L = .sl (L.flatMap plC) L.length false := by unfold lostT; rw [if_neg h]
theorem plC_at {L : List Pl} {k : Nat} {x : Pl} (h : L[k]? = some x) : (L.flatMap plC).drop (k * 3) = plC x ++ (L.drop (k + 1)).flatMap plC := by
 rw [show (L.flatMap plC).drop (k * 3) = (L.drop k).flatMap plC from ?_]
 ·have hk := (List.getElem?_eq_some_iff.1 h).1
  rw [List.drop_eq_getElem_cons hk, List.flatMap_cons]
  rw [List.getElem?_eq_getElem hk] at h
  rw [Option.some.inj h]
 ·clear h x
  induction L generalizing k with
  | nil => simp
  | cons a L ih =>
   cases k with
   | zero => rfl
   | succ k => rw [List.flatMap_cons, show (k + 1) * 3 = k * 3 + 3 by omega, show (plC a ++ L.flatMap plC).drop (k * 3 + 3) = (L.flatMap plC).drop (k * 3) from rfl, ih]; rfl
theorem wEnd_c (s : TV) {L : List Pl} (hL : L.length ≤ 5) (D : Dg) (i : Nat) : HCalls Tryd.prog 85 [pageV s L 0, .t (.int .i64 i)] (getL [.mp 84 (mapD D)]) (.t (plT (endP L i))) (getL [.mp 84 (mapD D)]) := by
 refine hcalls_by Tryd.mixes noSpec_ok (fn := Tryd.f85) Tryd.func85 rfl (by kernel_rfl) (by show 2 ≤ _; decide) ?_
 by_cases h0 : L.length = 0
 ·have : L = [] := List.eq_nil_of_length_eq_zero h0
  subst this
  simp +decide -implicitDefEqProofs (maxSteps := 4000000) only [go_sem, Tryd.f85, pageV, pageW, lostT]
  refine pwpC_loopU (A := Unit) [1, 2, 4, 5, 9, 10] (fun j => [(11, .t (.int .i64 0))]) (fun _ => []) (fun _ => 0) () (by decide) (fun _ => by rfl) ?_ fun Q1 hQ1 ⟨⟩ I1 hI1 => ?_
  ·simp +decide -implicitDefEqProofs (maxSteps := 4000000) only [go_sem]
  ·simp +decide -implicitDefEqProofs (maxSteps := 4000000) only [go_sem]
   refine hQ1 _ _ ?_
   simp +decide -implicitDefEqProofs (maxSteps := 4000000) only [go_sem, endP, plT, plC]
   first | done | exact ⟨_, rfl, rfl⟩ | trace_state
 ·have hT := lostT_ne h0
  simp +decide -implicitDefEqProofs (maxSteps := 4000000) only [go_sem, Tryd.f85, pageV, pageW, hT]
  refine pwpC_loopU (A := { j : Nat // j ≤ L.length }) [1, 2, 4, 5, 9, 10] (fun j => [(11, .t (.int .i64 j.1))]) (fun j => [(3, .box ((plC (endP (L.take j.1) i)).map .t))]) (fun j => L.length - j.1) ⟨0, by omega⟩ (by decide) (fun _ => by rfl) ?_ fun Q1 hQ1 ⟨j, hj⟩ I1 hI1 => ?_
  ·simp +decide -implicitDefEqProofs (maxSteps := 4000000) only [go_sem, List.take_zero, endP, plC, List.foldl_nil]
  ·by_cases hlt : (j : Int) < L.length
   ·obtain ⟨a, ha⟩ : ∃ a, L[j]? = some a := ⟨_, List.getElem?_eq_getElem (by omega)⟩
    have da := plC_at ha
    have hpl := plC_len L
    have hle : j * 3 + 3 ≤ (L.flatMap plC).length := by rw [hpl]; omega
    have hj1 := Go.Pm.wS (k := j) (by omega)
    have hs1 : endP (L.take (j + 1)) i = if a.1 = i then a else endP (L.take j) i := by
     rw [List.take_add_one, ha]; exact endP_snoc _ _ _
    by_cases hq : a.1 = i
    ·rw [if_pos hq] at hs1
     have c1 : ((a.1 : Int) == (i : Int)) = true := by rw [hq]; simp
     simp +decide -implicitDefEqProofs (maxSteps := 4000000) only [go_sem, hlt, da, hle, plC, c1]
     refine hI1 _ ⟨j + 1, by omega⟩ (by simp only; omega) ?_
     simp +decide -implicitDefEqProofs (maxSteps := 4000000) only [go_sem, hj1, hs1, plC]
    ·rw [if_neg hq] at hs1
     have c1 : ((a.1 : Int) == (i : Int)) = false := by
      have : ¬ (a.1 : Int) = i := by omega
      simpa using this
     simp +decide -implicitDefEqProofs (maxSteps := 4000000) only [go_sem, hlt, da, hle, plC, c1]
     refine hI1 _ ⟨j + 1, by omega⟩ (by simp only; omega) ?_
     simp +decide -implicitDefEqProofs (maxSteps := 4000000) only [go_sem, hj1, hs1, plC]
   ·have hje : j = L.length := by omega
    subst hje
    simp +decide -implicitDefEqProofs (maxSteps := 4000000) only [go_sem, hlt]
    refine hQ1 _ _ ?_
    simp +decide -implicitDefEqProofs (maxSteps := 4000000) only [go_sem, List.take_length, plT, plC]
    first | done | exact ⟨_, rfl, rfl⟩ | trace_state
open Classical in
noncomputable def wkEn (s lt : TV) (p : List (List ByteArray)) (D : Dg) : List PV → List PO → Option (PV × List PO)
 | [pg, .t (.int .i64 i), .t (.int .i64 k)], hl => if pg = pageW s lt 0 ∧ hl = [.mp 84 (mapD D)] ∧ (i = i.toNat ∧ i.toNat < p.length) ∧ (k = k.toNat ∧ k.toNat < wideP p) then some (.t (.int .i64 (valN D p i.toNat k.toNat)), hl) else none
 | _, _ => none
theorem wkEn_ok {s : TV} {p : List (List ByteArray)} (hs : pgR s p) (hv : validB p = true) (lt : TV) {D : Dg} (hD : DOk D) : ∀ xs hl v hl', wkEn s lt p D xs hl = some (v, hl') → HCalls Tryd.prog 114 xs (getL hl) v (getL hl') := by
 intro xs hl v hl' h
 unfold wkEn at h
 split at h
 ·rename_i i k
  split at h
  ·rename_i hc
   obtain ⟨rfl, rfl, ⟨hi1, hi2⟩, hk1, hk2⟩ := hc
   cases h
   have := wEntry_c hs hv lt hD hi2 hk2
   rw [← hi1, ← hk1] at this
   exact this
  ·cases h
 ·cases h
@[go_sem] theorem wkEn_eq (s lt : TV) (p : List (List ByteArray)) (D : Dg) (i k : Nat) : wkEn s lt p D [.cons false (.t s) (.cons false (.t lt) (.cons false (.mapr 0) (.nil false))), .t (.int .i64 i), .t (.int .i64 k)] [.mp 84 (mapD D)] = if i < p.length ∧ k < wideP p then some (.t (.int .i64 (valN D p i k)), [.mp 84 (mapD D)]) else none := by
 unfold wkEn
 simp only [Int.toNat_natCast, pageW, true_and]
theorem wide_c {s : TV} {p : List (List ByteArray)} (hs : pgR s p) (hv : validB p = true) : PCalls Tryd.prog 112 [s] (.int .i64 (wideP p)) := by
 obtain ⟨rs, f, rfl, hrl, hrs⟩ := page_rows hs hv
 have hvl := (valid_len hv).1
 obtain ⟨r, hr⟩ : ∃ r, p[0]? = some r := ⟨_, List.getElem?_eq_getElem (by omega)⟩
 obtain ⟨t, ht⟩ : ∃ t, rs[0]? = some t := ⟨_, List.getElem?_eq_getElem (by omega)⟩
 obtain ⟨g, rfl⟩ := hrs 0 r t hr ht
 have e : wideP p = r.length := by unfold wideP; rw [List.getD_eq_getElem?_getD, hr]; rfl
 have d := tv_at ht
 rw [List.drop_zero] at d
 rw [e, d]
 exact wWide_c _ _ _ _ _ _ (by omega)
theorem valN_le {p : List (List ByteArray)} (hv : validB p = true) {D : Dg} (hD : DOk D) {i k : Nat} (hi : i < p.length) (hk : k < wideP p) : 0 ≤ valN D p i k ∧ valN D p i k < 100000 := by
 obtain ⟨r, hr⟩ : ∃ r, p[i]? = some r := ⟨_, List.getElem?_eq_getElem hi⟩
 obtain ⟨hr1, hr2, hr3⟩ := valid_row hv hr
 obtain ⟨x, hx⟩ : ∃ x, r[k]? = some x := ⟨_, List.getElem?_eq_getElem (by omega)⟩
 have er : rowA p i = r := by unfold rowA; rw [List.getD_eq_getElem?_getD, hr]; rfl
 have ex : entA r k = x := by unfold entA; rw [List.getD_eq_getElem?_getD, hx]; rfl
 unfold valN
 rw [er, ex]
 exact entN_5 hD (hr3 x (List.mem_of_getElem? hx)) (Nat.le_refl _)
theorem wRowA_c {s : TV} {p : List (List ByteArray)} (hs : pgR s p) (hv : validB p = true) (lt : TV) {D : Dg} (hD : DOk D) {i : Nat} (hi : i < p.length) : HCalls Tryd.prog 86 [pageW s lt 0, .t (.int .i64 i)] (getL [.mp 84 (mapD D)]) (.t (.bool (rowB D p i))) (getL [.mp 84 (mapD D)]) := by
 have hvl := (valid_len hv).1
 have hwd := wide_c hs hv
 have hw25 : 2 ≤ wideP p ∧ wideP p ≤ 5 := by
  obtain ⟨r, hr⟩ : ∃ r, p[0]? = some r := ⟨_, List.getElem?_eq_getElem (by omega)⟩
  obtain ⟨h1, h2, _⟩ := valid_row hv hr
  omega
 have hw1 : IntKind.i64.wrap ((wideP p : Int) - 1) = ((wideP p - 1 : Nat) : Int) := by rw [wrap_in (by omega) (by omega)]; omega
 refine hcalls_by Tryd.mixes (Spec.oneH_ok (wkEn_ok hs hv lt hD) (Spec.one_ok (oneP_ok hwd) noSpec_ok)) (fn := Tryd.f86) Tryd.func86 rfl (by kernel_rfl) (by show 2 ≤ _; decide) ?_
 simp +decide -implicitDefEqProofs (maxSteps := 4000000) only [go_sem, Tryd.f86, pageW, hw1]
 refine pwpC_loopU (A := { j : Nat // j ≤ wideP p - 1 }) [1, 2, 6, 12] (fun j => [(13, .t (.int .i64 j.1)), (5, .t (.int .i64 (sumN (fun k => valN D p i k) j.1)))]) (fun _ => []) (fun j => wideP p - 1 - j.1) ⟨0, by omega⟩ (by decide) (fun _ => by rfl) ?_ fun Q1 hQ1 ⟨j, hj⟩ I1 hI1 => ?_
 ·simp +decide -implicitDefEqProofs (maxSteps := 4000000) only [go_sem, sumN]
 ·by_cases hlt : (j : Int) < ((wideP p - 1 : Nat) : Int)
  ·have hj1 := Go.Pm.wS (k := j) (by omega)
   have h1 := valN_le hv hD hi (k := j) (by omega)
   have h2 := sumN_le (f := fun k => valN D p i k) j fun k hk => valN_le hv hD hi (by omega)
   have hw2 : IntKind.i64.wrap (sumN (fun k => valN D p i k) j + valN D p i j) = sumN (fun k => valN D p i k) (j + 1) := by
    rw [show sumN (fun k => valN D p i k) (j + 1) = sumN (fun k => valN D p i k) j + valN D p i j from rfl]
    exact wrap_in (by omega) (by omega)
   have hjw : j < wideP p := by omega
   simp +decide -implicitDefEqProofs (maxSteps := 4000000) only [go_sem, hlt, hi, hjw, hw2]
   refine hI1 _ ⟨j + 1, by omega⟩ (by simp only; omega) ?_
   simp +decide -implicitDefEqProofs (maxSteps := 4000000) only [go_sem, hj1]
  ·have hje : j = wideP p - 1 := by omega
   subst hje
   have hjw : wideP p - 1 < wideP p := by omega
   simp +decide -implicitDefEqProofs (maxSteps := 4000000) only [go_sem, hlt]
   refine hQ1 _ _ ?_
   simp +decide -implicitDefEqProofs (maxSteps := 4000000) only [go_sem, hi, hjw]
   first | done | exact ⟨_, rfl, rfl⟩ | trace_state
theorem wColA_c {s : TV} {p : List (List ByteArray)} (hs : pgR s p) (hv : validB p = true) (lt : TV) {D : Dg} (hD : DOk D) {k : Nat} (hk : k < wideP p) : HCalls Tryd.prog 113 [pageW s lt 0, .t (.int .i64 k)] (getL [.mp 84 (mapD D)]) (.t (.bool (colB D p k))) (getL [.mp 84 (mapD D)]) := by
 have hvl := (valid_len hv).1
 have hw1 : IntKind.i64.wrap ((p.length : Int) - 1) = ((p.length - 1 : Nat) : Int) := by rw [wrap_in (by omega) (by omega)]; omega
 have hen := wkEn_ok hs hv lt hD
 have hsp := Spec.oneH_ok hen noSpec_ok
 obtain ⟨rs, f, rfl, hrl, hrs⟩ := page_rows hs hv
 refine hcalls_by Tryd.mixes hsp (fn := Tryd.f113) Tryd.func113 rfl (by kernel_rfl) (by show 2 ≤ _; decide) ?_
 simp +decide -implicitDefEqProofs (maxSteps := 4000000) only [go_sem, Tryd.f113, pageW, hw1]
 refine pwpC_loopU (A := { j : Nat // j ≤ p.length - 1 }) [1, 2, 6, 12] (fun j => [(13, .t (.int .i64 j.1)), (5, .t (.int .i64 (sumN (fun i => valN D p i k) j.1)))]) (fun _ => []) (fun j => p.length - 1 - j.1) ⟨0, by omega⟩ (by decide) (fun _ => by rfl) ?_ fun Q1 hQ1 ⟨j, hj⟩ I1 hI1 => ?_
 ·simp +decide -implicitDefEqProofs (maxSteps := 4000000) only [go_sem, sumN]
 ·by_cases hlt : (j : Int) < ((p.length - 1 : Nat) : Int)
  ·have hj1 := Go.Pm.wS (k := j) (by omega)
   have h1 := valN_le hv hD (i := j) (by omega) hk
   have h2 := sumN_le (f := fun i => valN D p i k) j fun i hi => valN_le hv hD (by omega) hk
   have hw2 : IntKind.i64.wrap (sumN (fun i => valN D p i k) j + valN D p j k) = sumN (fun i => valN D p i k) (j + 1) := by
    rw [show sumN (fun i => valN D p i k) (j + 1) = sumN (fun i => valN D p i k) j + valN D p j k from rfl]
    exact wrap_in (by omega) (by omega)
   have hjw : j < p.length := by omega
   simp +decide -implicitDefEqProofs (maxSteps := 4000000) only [go_sem, hlt, hk, hjw, hw2]
   refine hI1 _ ⟨j + 1, by omega⟩ (by simp only; omega) ?_
   simp +decide -implicitDefEqProofs (maxSteps := 4000000) only [go_sem, hj1]
  ·have hje : j = p.length - 1 := by omega
   subst hje
   have hjw : p.length - 1 < p.length := by omega
   simp +decide -implicitDefEqProofs (maxSteps := 4000000) only [go_sem, hlt]
   refine hQ1 _ _ ?_
   simp +decide -implicitDefEqProofs (maxSteps := 4000000) only [go_sem, hk, hjw]
   first | done | exact ⟨_, rfl, rfl⟩ | trace_state
end Go.Proofs.YtdkboibnokipaaaDoor

namespace Go.Proofs.YtdkboibnokipaaaDoor
open Go.RowKit Go.Pm Go.Ow
open Classical in
noncomputable def wkIx (g : Nat → TV) (n : Nat) (s lt : TV) (D : Dg) : List PV → List PO → Option (PV × List PO)
 | [pg, .t (.int .i64 i)], hl => if pg = pageW s lt 0 ∧ hl = [.mp 84 (mapD D)] ∧ (i = i.toNat ∧ i.toNat < n) then some (.t (g i.toNat), hl) else none
 | _, _ => none
theorem wkIx_ok {f : FuncId} {g : Nat → TV} {n : Nat} {s lt : TV} {D : Dg} (h : ∀ i, i < n → HCalls Tryd.prog f [pageW s lt 0, .t (.int .i64 i)] (getL [.mp 84 (mapD D)]) (.t (g i)) (getL [.mp 84 (mapD D)])) : ∀ xs hl v hl', wkIx g n s lt D xs hl = some (v, hl') → HCalls Tryd.prog f xs (getL hl) v (getL hl') := by
 intro xs hl v hl' e
 unfold wkIx at e
 split at e
 ·split at e
  ·rename_i hc
   obtain ⟨rfl, rfl, hi1, hi2⟩ := hc
   cases e
   have := h _ hi2
   rw [← hi1] at this
   exact this
  ·cases e
 ·cases e
@[go_sem] theorem wkIx_eq (g : Nat → TV) (n : Nat) (s lt : TV) (D : Dg) (i : Nat) : wkIx g n s lt D [.cons false (.t s) (.cons false (.t lt) (.cons false (.mapr 0) (.nil false))), .t (.int .i64 i)] [.mp 84 (mapD D)] = if i < n then some (.t (g i), [.mp 84 (mapD D)]) else none := by
 unfold wkIx
 simp only [Int.toNat_natCast, pageW, true_and]
noncomputable def spWx (s lt : TV) (p : List (List ByteArray)) (D : Dg) : Pm.Spec := (((noSpec.one 112 (oneP [s] (.int .i64 (wideP p)))).oneH 113 (wkIx (fun k => .bool (colB D p k)) (wideP p) s lt D)).oneH 86 (wkIx (fun i => .bool (rowB D p i)) p.length s lt D)).gdt
theorem spWx_ok {s : TV} {p : List (List ByteArray)} (hs : pgR s p) (hv : validB p = true) (lt : TV) {D : Dg} (hD : DOk D) : SpecOk Tryd.prog (spWx s lt p D) :=
 Spec.gdt_ok (Spec.oneH_ok (wkIx_ok fun i hi => wRowA_c hs hv lt hD hi) (Spec.oneH_ok (wkIx_ok fun i hi => wColA_c hs hv lt hD hi) (Spec.one_ok (oneP_ok (wide_c hs hv)) noSpec_ok)))
theorem colsB_no {p : List (List ByteArray)} {D : Dg} {k : Nat} (hk : k < wideP p) (h : colB D p k = false) : colsB D p = false := by
 unfold colsB; rw [List.all_eq_false]; exact ⟨k, List.mem_range.2 hk, by rw [h]; decide⟩
theorem rowsB_no {p : List (List ByteArray)} {D : Dg} {L : List Pl} {k : Nat} (hk : k < p.length) (ho : openB L k = false) (h : rowB D p k = false) : rowsB D p L = false := by
 unfold rowsB; rw [List.all_eq_false]; exact ⟨k, List.mem_range.2 hk, by rw [h, ho]; decide⟩
theorem wAgreesC_c {s : TV} {p : List (List ByteArray)} (hs : pgR s p) (hv : validB p = true) (lt : TV) {D : Dg} (hD : DOk D) : HCalls Tryd.prog 84 [pageW s lt 0, .t (.bool true)] (getL [.mp 84 (mapD D)]) (.t (.bool (colsB D p))) (getL [.mp 84 (mapD D)]) := by
 have hvl := (valid_len hv).1
 have hw25 : 2 ≤ wideP p ∧ wideP p ≤ 5 := by
  obtain ⟨r, hr⟩ : ∃ r, p[0]? = some r := ⟨_, List.getElem?_eq_getElem (by omega)⟩
  obtain ⟨h1, h2, _⟩ := valid_row hv hr
  omega
 refine hcalls_by Tryd.mixes (spWx_ok hs hv lt hD) (fn := Tryd.f84) Tryd.func84 rfl (by kernel_rfl) (by show 2 ≤ _; decide) ?_
 simp +decide -implicitDefEqProofs (maxSteps := 4000000) only [go_sem, Tryd.f84, spWx, pageW]
 refine pwpC_loopU (A := { j : Nat // j ≤ wideP p ∧ ∀ k, k < j → colB D p k = true }) [1, 2, 13] (fun j => [(14, .t (.int .i64 j.1))]) (fun _ => []) (fun j => wideP p - j.1) ⟨0, by omega, fun k h => absurd h (by omega)⟩ (by decide) (fun _ => by rfl) ?_ fun Q1 hQ1 ⟨j, hj, hall⟩ I1 hI1 => ?_
 ·simp +decide -implicitDefEqProofs (maxSteps := 4000000) only [go_sem]
 ·by_cases hlt : (j : Int) < (wideP p : Int)
  ·have hj1 := Go.Pm.wS (k := j) (by omega)
   have hjw : j < wideP p := by omega
   rcases Bool.eq_false_or_eq_true (colB D p j) with hc | hc
   ·simp +decide -implicitDefEqProofs (maxSteps := 4000000) only [go_sem, hlt, hjw, hc]
    refine hI1 _ ⟨j + 1, by omega, fun k hk => ?_⟩ (by simp only; omega) ?_
    ·by_cases e : k = j
     ·subst e; exact hc
     ·exact hall k (by omega)
    ·simp +decide -implicitDefEqProofs (maxSteps := 4000000) only [go_sem, hj1]
   ·have e := colsB_no hjw hc
    simp +decide -implicitDefEqProofs (maxSteps := 4000000) only [go_sem, hlt, hjw, hc]
    refine hQ1 _ _ ?_
    simp +decide -implicitDefEqProofs (maxSteps := 4000000) only [go_sem, e]
    first | done | exact ⟨_, rfl, rfl⟩ | trace_state
  ·have e : colsB D p = true := by
    unfold colsB; rw [List.all_eq_true]; intro k hk; rw [List.mem_range] at hk; exact hall k (by omega)
   simp +decide -implicitDefEqProofs (maxSteps := 4000000) only [go_sem, hlt]
   refine hQ1 _ _ ?_
   simp +decide -implicitDefEqProofs (maxSteps := 4000000) only [go_sem, e]
   first | done | exact ⟨_, rfl, rfl⟩ | trace_state
theorem key_in (a : Int) : keyOk Tryd.prog 171 (.int .i64 a) = true := by kernel_rfl
theorem wAgreesR_c {s : TV} {p : List (List ByteArray)} (hs : pgR s p) (hv : validB p = true) {L : List Pl} (hL : L.length ≤ 5) {D : Dg} (hD : DOk D) : HCalls Tryd.prog 84 [pageV s L 0, .t (.bool false)] (getL [.mp 84 (mapD D)]) (.t (.bool (rowsB D p L))) (getL [.mp 84 (mapD D)]) := by
 have hvl := (valid_len hv).1
 have hsp := spWx_ok hs hv (lostT L) hD
 obtain ⟨rs, f, rfl, hrl, hrs⟩ := page_rows hs hv
 have hopen : ∀ i : Nat, (opM L (.int .i64 i)).getD (.bool false) = .bool (openB L i) := fun i => by
  rw [opM_at]; cases openB L i <;> rfl
 by_cases h0 : L.length = 0
 ·have : L = [] := List.eq_nil_of_length_eq_zero h0
  subst this
  refine hcalls_by Tryd.mixes hsp (fn := Tryd.f84) Tryd.func84 rfl (by kernel_rfl) (by show 2 ≤ _; decide) ?_
  simp +decide -implicitDefEqProofs (maxSteps := 4000000) only [go_sem, Tryd.f84, spWx, pageV, pageW, lostT]
  refine pwpC_loopU (A := Unit) [1, 2, 6, 24, 25] (fun j => [(26, .t (.int .i64 0))]) (fun _ => []) (fun _ => 0) () (by decide) (fun _ => by rfl) ?_ fun Q1 hQ1 ⟨⟩ I1 hI1 => ?_
  ·simp +decide -implicitDefEqProofs (maxSteps := 4000000) only [go_sem]
  ·simp +decide -implicitDefEqProofs (maxSteps := 4000000) only [go_sem]
   refine hQ1 _ _ ?_
   simp +decide -implicitDefEqProofs (maxSteps := 4000000) only [go_sem]
   have hz : (fun _ => none : TV → Option TV) = opM [] := rfl
   rw [hz]
   refine pwpC_loopU (A := { j : Nat // j ≤ p.length ∧ ∀ k, k < j → (openB [] k || rowB D p k) = true }) [1, 2, 6, 36] (fun j => [(37, .t (.int .i64 j.1))]) (fun _ => []) (fun j => p.length - j.1) ⟨0, by omega, fun k h => absurd h (by omega)⟩ (by decide) (fun _ => by rfl) ?_ fun Q2 hQ2 ⟨j, hj, hall⟩ I2 hI2 => ?_
   ·simp +decide -implicitDefEqProofs (maxSteps := 4000000) only [go_sem]
   ·by_cases hlt : (j : Int) < (p.length : Int)
    ·have hj1 := Go.Pm.wS (k := j) (by omega)
     have hjw : j < p.length := by omega
     have hop := hopen j
     have hnext : (openB [] j || rowB D p j) = true → ∀ k, k < j + 1 → (openB [] k || rowB D p k) = true := fun h k hk => by
      by_cases e : k = j
      ·subst e; exact h
      ·exact hall k (by omega)
     rcases Bool.eq_false_or_eq_true (openB [] j) with ho | ho
     ·rw [ho] at hop
      simp +decide -implicitDefEqProofs (maxSteps := 4000000) only [go_sem, hlt, key_in, hop]
      refine hI2 _ ⟨j + 1, by omega, hnext (by rw [ho]; rfl)⟩ (by simp only; omega) ?_
      simp +decide -implicitDefEqProofs (maxSteps := 4000000) only [go_sem, hj1]
     ·rw [ho] at hop
      rcases Bool.eq_false_or_eq_true (rowB D p j) with hc | hc
      ·simp +decide -implicitDefEqProofs (maxSteps := 4000000) only [go_sem, hlt, key_in, hop, hjw, hc]
       refine hI2 _ ⟨j + 1, by omega, hnext (by rw [hc, Bool.or_true])⟩ (by simp only; omega) ?_
       simp +decide -implicitDefEqProofs (maxSteps := 4000000) only [go_sem, hj1]
      ·have e := rowsB_no (L := []) hjw ho hc
       simp +decide -implicitDefEqProofs (maxSteps := 4000000) only [go_sem, hlt, key_in, hop, hjw, hc]
       refine hQ2 _ _ ?_
       simp +decide -implicitDefEqProofs (maxSteps := 4000000) only [go_sem, e]
       first | done | exact ⟨_, rfl, rfl⟩ | trace_state
    ·have e : rowsB D p [] = true := by
      unfold rowsB; rw [List.all_eq_true]; intro k hk; rw [List.mem_range] at hk; exact hall k (by omega)
     simp +decide -implicitDefEqProofs (maxSteps := 4000000) only [go_sem, hlt]
     refine hQ2 _ _ ?_
     simp +decide -implicitDefEqProofs (maxSteps := 4000000) only [go_sem, e]
     first | done | exact ⟨_, rfl, rfl⟩ | trace_state
 ·have hT := lostT_ne h0
  refine hcalls_by Tryd.mixes hsp (fn := Tryd.f84) Tryd.func84 rfl (by kernel_rfl) (by show 2 ≤ _; decide) ?_
  simp +decide -implicitDefEqProofs (maxSteps := 4000000) only [go_sem, Tryd.f84, spWx, pageV, pageW, hT]
  refine pwpC_loopU (A := { j : Nat // j ≤ L.length }) [1, 2, 6, 24, 25] (fun j => [(26, .t (.int .i64 j.1))]) (fun j => [(2, .mp 171 (opM (L.take j.1)))]) (fun j => L.length - j.1) ⟨0, by omega⟩ (by decide) (fun _ => by rfl) ?_ fun Q1 hQ1 ⟨j, hj⟩ I1 hI1 => ?_
  ·simp +decide -implicitDefEqProofs (maxSteps := 4000000) only [go_sem, List.take_zero, show opM [] = fun _ => none from rfl]
  ·by_cases hlt : (j : Int) < L.length
   ·obtain ⟨a, ha⟩ : ∃ a, L[j]? = some a := ⟨_, List.getElem?_eq_getElem (by omega)⟩
    have da := plC_at ha
    have hpl := plC_len L
    have hle : j * 3 + 3 ≤ (L.flatMap plC).length := by rw [hpl]; omega
    have hj1 := Go.Pm.wS (k := j) (by omega)
    have hs1 : opM (L.take (j + 1)) = updT (opM (L.take j)) (.int .i64 a.1) (.bool true) := by
     rw [List.take_add_one, ha]; exact opM_snoc _ _
    simp +decide -implicitDefEqProofs (maxSteps := 4000000) only [go_sem, hlt, da, hle, plC, key_in]
    refine hI1 _ ⟨j + 1, by omega⟩ (by simp only; omega) ?_
    simp +decide -implicitDefEqProofs (maxSteps := 4000000) only [go_sem, hj1, hs1]
   ·have hje : j = L.length := by omega
    subst hje
    simp +decide -implicitDefEqProofs (maxSteps := 4000000) only [go_sem, hlt]
    refine hQ1 _ _ ?_
    simp +decide -implicitDefEqProofs (maxSteps := 4000000) only [go_sem, List.take_length]
    refine pwpC_loopU (A := { j : Nat // j ≤ p.length ∧ ∀ k, k < j → (openB L k || rowB D p k) = true }) [1, 2, 6, 36] (fun j => [(37, .t (.int .i64 j.1))]) (fun _ => []) (fun j => p.length - j.1) ⟨0, by omega, fun k h => absurd h (by omega)⟩ (by decide) (fun _ => by rfl) ?_ fun Q2 hQ2 ⟨j, hj, hall⟩ I2 hI2 => ?_
    ·simp +decide -implicitDefEqProofs (maxSteps := 4000000) only [go_sem]
    ·by_cases hlt : (j : Int) < (p.length : Int)
     ·have hj1 := Go.Pm.wS (k := j) (by omega)
      have hjw : j < p.length := by omega
      have hop := hopen j
      have hnext : (openB L j || rowB D p j) = true → ∀ k, k < j + 1 → (openB L k || rowB D p k) = true := fun h k hk => by
       by_cases e : k = j
       ·subst e; exact h
       ·exact hall k (by omega)
      rcases Bool.eq_false_or_eq_true (openB L j) with ho | ho
      ·rw [ho] at hop
       simp +decide -implicitDefEqProofs (maxSteps := 4000000) only [go_sem, hlt, key_in, hop]
       refine hI2 _ ⟨j + 1, by omega, hnext (by rw [ho]; rfl)⟩ (by simp only; omega) ?_
       simp +decide -implicitDefEqProofs (maxSteps := 4000000) only [go_sem, hj1]
      ·rw [ho] at hop
       rcases Bool.eq_false_or_eq_true (rowB D p j) with hc | hc
       ·simp +decide -implicitDefEqProofs (maxSteps := 4000000) only [go_sem, hlt, key_in, hop, hjw, hc]
        refine hI2 _ ⟨j + 1, by omega, hnext (by rw [hc, Bool.or_true])⟩ (by simp only; omega) ?_
        simp +decide -implicitDefEqProofs (maxSteps := 4000000) only [go_sem, hj1]
       ·have e := rowsB_no hjw ho hc
        simp +decide -implicitDefEqProofs (maxSteps := 4000000) only [go_sem, hlt, key_in, hop, hjw, hc]
        refine hQ2 _ _ ?_
        simp +decide -implicitDefEqProofs (maxSteps := 4000000) only [go_sem, e]
        first | done | exact ⟨_, rfl, rfl⟩ | trace_state
     ·have e : rowsB D p L = true := by
       unfold rowsB; rw [List.all_eq_true]; intro k hk; rw [List.mem_range] at hk; exact hall k (by omega)
      simp +decide -implicitDefEqProofs (maxSteps := 4000000) only [go_sem, hlt]
      refine hQ2 _ _ ?_
      simp +decide -implicitDefEqProofs (maxSteps := 4000000) only [go_sem, e]
      first | done | exact ⟨_, rfl, rfl⟩ | trace_state
end Go.Proofs.YtdkboibnokipaaaDoor

namespace Go.Ow
open Go Go.RowKit Go.Pm
def dgT (g : List Int) : TV := if g.length = 0 then .nilSl else .sl (g.map (.int .i64)) g.length true
def preF (Y : YS) (c : Nat) (ys : List (List Int)) : Prop := (∀ (i : Nat) (g : List Int), ys[i]? = some g → Y.xs[c + i]? = some [dgT g]) ∧ c + ys.length ≤ Y.m
def unD (m : TV → Option TV) : Dg := fun a => match m (plT a) with
 | some (.int .i64 d) => some d
 | _ => none
theorem unD_mapD (D : Dg) : unD (mapD D) = D := by
 funext a
 unfold unD
 rw [mapD_at]
 cases D a <;> rfl
theorem toG_pre (p : List (List ByteArray)) (L : List Pl) (a : Pl) (g : Dg → Dg × List (List Int)) (D : Dg) : ∀ (e d : Nat), d ≤ e → ∃ R, (toG p L a g D e).2 = (toG p L a g D d).2 ++ R
 | 0, d, h => ⟨[], by rw [show d = 0 by omega]; simp⟩
 | e + 1, d, h => by
  by_cases hd : d = e + 1
  ·exact ⟨[], by rw [hd]; simp⟩
  ·obtain ⟨R, hR⟩ := toG_pre p L a g D e d (by omega)
   have hs : toG p L a g D (e + 1) = stepR p L a g (toG p L a g D e) e := rfl
   rw [hs]
   unfold stepR
   split
   ·exact ⟨R, hR⟩
   ·split
    ·exact ⟨R, hR⟩
    ·exact ⟨R ++ (g (updD (toG p L a g D e).1 a e)).2, by rw [hR]; simp only [List.append_assoc]⟩
theorem preF_part {Y : YS} {c : Nat} {ys A B R : List (List Int)} (h : preF Y c ys) (e : ys = A ++ (B ++ R)) : preF Y (c + A.length) B := by
 subst e
 refine ⟨fun i g hg => ?_, ?_⟩
 ·have := h.1 (A.length + i) g (by
   rw [List.getElem?_append_right (by omega), show A.length + i - A.length = i by omega, List.getElem?_append_left (List.getElem?_eq_some_iff.1 hg).1]; exact hg)
  rwa [← Nat.add_assoc] at this
 ·have := h.2
  simp only [List.length_append] at this
  omega
end Go.Ow
namespace Go.Proofs.YtdkboibnokipaaaDoor
open Go.RowKit Go.Pm Go.Ow
open Classical in
noncomputable def wkAg (b : Bool) (g : Dg → Bool) (s lt : TV) : List PV → List PO → Option (PV × List PO)
 | [pg, .t (.bool c)], [.mp t m] => if pg = pageW s lt 0 ∧ c = b ∧ t = 84 ∧ m = mapD (unD m) ∧ DOk (unD m) then some (.t (.bool (g (unD m))), [.mp t m]) else none
 | _, _ => none
theorem wkAg_ok {f : FuncId} {b : Bool} {g : Dg → Bool} {s lt : TV} (h : ∀ D, DOk D → HCalls Tryd.prog f [pageW s lt 0, .t (.bool b)] (getL [.mp 84 (mapD D)]) (.t (.bool (g D))) (getL [.mp 84 (mapD D)])) : ∀ xs hl v hl', wkAg b g s lt xs hl = some (v, hl') → HCalls Tryd.prog f xs (getL hl) v (getL hl') := by
 intro xs hl v hl' e
 unfold wkAg at e
 split at e
 ·split at e
  ·rename_i hc
   obtain ⟨rfl, rfl, rfl, hm, hd⟩ := hc
   cases e
   have := h _ hd
   rw [← hm] at this
   exact this
  ·cases e
 ·cases e
open Classical in
@[go_sem] theorem wkAg_eq (b : Bool) (g : Dg → Bool) (s lt : TV) (D : Dg) : wkAg b g s lt [.cons false (.t s) (.cons false (.t lt) (.cons false (.mapr 0) (.nil false))), .t (.bool b)] [.mp 84 (mapD D)] = if DOk D then some (.t (.bool (g D)), [.mp 84 (mapD D)]) else none := by
 unfold wkAg
 simp only [unD_mapD, pageW, true_and]
open Classical in
noncomputable def wkRo (g : Dg → Nat → TV) (n : Nat) (s lt : TV) : List PV → List PO → Option (PV × List PO)
 | [pg, .t (.int .i64 i)], [.mp t m] => if pg = pageW s lt 0 ∧ t = 84 ∧ m = mapD (unD m) ∧ DOk (unD m) ∧ i = i.toNat ∧ i.toNat < n then some (.t (g (unD m) i.toNat), [.mp t m]) else none
 | _, _ => none
theorem wkRo_ok {f : FuncId} {g : Dg → Nat → TV} {n : Nat} {s lt : TV} (h : ∀ D i, DOk D → i < n → HCalls Tryd.prog f [pageW s lt 0, .t (.int .i64 i)] (getL [.mp 84 (mapD D)]) (.t (g D i)) (getL [.mp 84 (mapD D)])) : ∀ xs hl v hl', wkRo g n s lt xs hl = some (v, hl') → HCalls Tryd.prog f xs (getL hl) v (getL hl') := by
 intro xs hl v hl' e
 unfold wkRo at e
 split at e
 ·split at e
  ·rename_i hc
   obtain ⟨rfl, rfl, hm, hd, hi1, hi2⟩ := hc
   cases e
   have := h _ _ hd hi2
   rw [← hm, ← hi1] at this
   exact this
  ·cases e
 ·cases e
open Classical in
@[go_sem] theorem wkRo_eq (g : Dg → Nat → TV) (n : Nat) (s lt : TV) (D : Dg) (i : Nat) : wkRo g n s lt [.cons false (.t s) (.cons false (.t lt) (.cons false (.mapr 0) (.nil false))), .t (.int .i64 i)] [.mp 84 (mapD D)] = if DOk D ∧ i < n then some (.t (g D i), [.mp 84 (mapD D)]) else none := by
 unfold wkRo
 simp only [unD_mapD, Int.toNat_natCast, pageW, true_and]
def filT (y : Nat) (s lt : TV) (m : TV → Option TV) : List PO := [.box [.t s, .t lt, .mapr 4], .box [.yld y], .box [.fnc 83 [1, 2, 3]], .mp 84 m]
def FilC (p : List (List ByteArray)) (s : TV) (L : List Pl) (r : Nat) : Prop := ∀ (Y : YS) (k c : Nat) (D : Dg), Y.stop = false → DOk D → k + r = L.length → preF Y c (fillG p L r k D).2 →
 YCalls Tryd.prog Y 83 [.t (.int .i64 k), .ptr 1 0, .ptr 2 0, .ptr 3 0] (getL (.cnt c :: filT Y.l s (lostT L) (mapD D))) (.t (.bool true)) (getL (.cnt (c + (fillG p L r k D).2.length) :: filT Y.l s (lostT L) (mapD (fillG p L r k D).1)))
open Classical in
noncomputable def gFil (p : List (List ByteArray)) (s : TV) (L : List Pl) (r : Nat) : YS → List PV → List PO → Option (PV × List PO)
 | Y, [.t (.int .i64 k), .ptr 1 0, .ptr 2 0, .ptr 3 0], [.cnt c, a1, a2, a3, .mp t m] => if [a1, a2, a3, .mp t m] = filT Y.l s (lostT L) (mapD (unD m)) ∧ Y.stop = false ∧ DOk (unD m) ∧ k = k.toNat ∧ k.toNat + r = L.length ∧ preF Y c (fillG p L r k.toNat (unD m)).2 then
   some (.t (.bool true), .cnt (c + (fillG p L r k.toNat (unD m)).2.length) :: filT Y.l s (lostT L) (mapD (fillG p L r k.toNat (unD m)).1)) else none
 | _, _, _ => none
theorem gFil_ok {p : List (List ByteArray)} {s : TV} {L : List Pl} {r : Nat} (h : FilC p s L r) : ∀ Y xs hl v hl', gFil p s L r Y xs hl = some (v, hl') → YCalls Tryd.prog Y 83 xs (getL hl) v (getL hl') := by
 intro Y xs hl v hl' e
 unfold gFil at e
 split at e
 ·split at e
  ·rename_i hc
   obtain ⟨h1, h2, h3, h4, h5, h6⟩ := hc
   cases e
   have := h Y _ _ _ h2 h3 h5 h6
   rw [← h1, ← h4] at this
   exact this
  ·cases e
 ·cases e
open Classical in
@[go_sem] theorem gFil_eq (p : List (List ByteArray)) (s : TV) (L : List Pl) (r : Nat) (Y : YS) (k c : Nat) (D : Dg) : gFil p s L r Y [.t (.int .i64 k), .ptr 1 0, .ptr 2 0, .ptr 3 0] [.cnt c, .box [.t s, .t (lostT L), .mapr 4], .box [.yld Y.l], .box [.fnc 83 [1, 2, 3]], .mp 84 (mapD D)] = if Y.stop = false ∧ DOk D ∧ k + r = L.length ∧ preF Y c (fillG p L r k D).2 then
   some (.t (.bool true), [.cnt (c + (fillG p L r k D).2.length), .box [.t s, .t (lostT L), .mapr 4], .box [.yld Y.l], .box [.fnc 83 [1, 2, 3]], .mp 84 (mapD (fillG p L r k D).1)]) else none := by
 unfold gFil
 simp only [unD_mapD, Int.toNat_natCast, filT, true_and]
noncomputable def spWy0 (p : List (List ByteArray)) (s lt : TV) : Pm.Spec := (noSpec.oneH 84 (wkAg true (fun D => colsB D p) s lt)).gdt
theorem spWy0_ok {p : List (List ByteArray)} {s : TV} (hs : pgR s p) (hv : validB p = true) (lt : TV) : SpecOk Tryd.prog (spWy0 p s lt) := Spec.gdt_ok (Spec.oneH_ok (wkAg_ok fun D hD => wAgreesC_c hs hv _ hD) noSpec_ok)
theorem fil_zero {p : List (List ByteArray)} {s : TV} (hs : pgR s p) (hv : validB p = true) {L : List Pl} (hll : L.length ≤ 5) : FilC p s L 0 := by
 intro Y k c D hst hD hk hpre
 have hf : fillG p L 0 k D = (D, if colsB D p then [digsL L D] else []) := rfl
 rw [hf] at hpre ⊢
 refine ycalls_by Tryd.mixes (spWy0_ok hs hv (lostT L)) (fn := Tryd.f83) Tryd.func83 rfl (by kernel_rfl) (by show 4 ≤ _; decide) ?_
 rcases Bool.eq_false_or_eq_true (colsB D p) with hc | hc
 rotate_left
 ·by_cases h0 : L.length = 0
  ·have hT : lostT L = .nilSl := by unfold lostT; rw [if_pos h0]
   have hk0 : ((k : Int) == 0) = true := by simp; omega
   simp +decide -implicitDefEqProofs (maxSteps := 4000000) only [go_sem, Tryd.f83, spWy0, filT, hT, hk0, hc, hD]
   first | done | exact ⟨_, rfl, rfl⟩ | trace_state
  ·have hT := lostT_ne h0
   have hkk : ((k : Int) == (L.length : Int)) = true := by simp; omega
   simp +decide -implicitDefEqProofs (maxSteps := 4000000) only [go_sem, Tryd.f83, spWy0, filT, hT, hkk, hc, hD]
   first | done | exact ⟨_, rfl, rfl⟩ | trace_state
 ·rw [hc] at hpre
  have hx := hpre.1 0 _ rfl
  have hm : c + 1 ≤ Y.m := hpre.2
  rw [Nat.add_zero] at hx
  have hcm : c < Y.m := by omega
  by_cases h0 : L.length = 0
  ·have hT : lostT L = .nilSl := by unfold lostT; rw [if_pos h0]
   have hk0 : ((k : Int) == 0) = true := by simp; omega
   simp +decide -implicitDefEqProofs (maxSteps := 4000000) only [go_sem, Tryd.f83, spWy0, filT, hT, hk0, hc, hD]
   refine pwpC_loopU (A := Unit) [0, 1, 2, 3, 6, 22, 23] (fun j => [(24, .t (.int .i64 0))]) (fun _ => []) (fun _ => 0) () (by decide) (fun _ => by rfl) ?_ fun Q1 hQ1 ⟨⟩ I1 hI1 => ?_
   ·simp +decide -implicitDefEqProofs (maxSteps := 4000000) only [go_sem]
   ·have hd : dgT (digsL L D) = .nilSl := by unfold dgT digsL; rw [List.length_map, if_pos h0]
    rw [hd] at hx
    simp +decide -implicitDefEqProofs (maxSteps := 4000000) only [go_sem]
    refine hQ1 _ _ ?_
    simp +decide -implicitDefEqProofs (maxSteps := 4000000) only [go_sem, hcm, hx, hst]
    first | done | exact ⟨_, rfl, rfl⟩ | trace_state
  ·have hT := lostT_ne h0
   have hkk : ((k : Int) == (L.length : Int)) = true := by simp; omega
   simp +decide -implicitDefEqProofs (maxSteps := 4000000) only [go_sem, Tryd.f83, spWy0, filT, hT, hkk, hc, hD]
   have hdl : (digsL L D).length = L.length := List.length_map _
   refine pwpC_loopU (A := { j : Nat // j ≤ L.length }) [0, 1, 2, 3, 22, 23] (fun j => [(24, .t (.int .i64 j.1)), (6, .own (((digsL L D).take j.1).map (.int .i64)) j.1 5)]) (fun j => [(5, .tok j.1 3)]) (fun j => L.length - j.1) ⟨0, by omega⟩ (by decide) (fun _ => by rfl) ?_ fun Q1 hQ1 ⟨j, hj⟩ I1 hI1 => ?_
   ·simp +decide -implicitDefEqProofs (maxSteps := 4000000) only [go_sem, List.take_zero, List.map_nil]
   ·by_cases hlt : (j : Int) < L.length
    ·obtain ⟨a, ha⟩ : ∃ a, L[j]? = some a := ⟨_, List.getElem?_eq_getElem (by omega)⟩
     have da := plC_at ha
     have hpl := plC_len L
     have hle : j * 3 + 3 ≤ (L.flatMap plC).length := by rw [hpl]; omega
     have hj1 := Go.Pm.wS (k := j) (by omega)
     have hmd : (mapD D (.agg [.int .i64 a.1, .int .i64 a.2.1, .int .i64 a.2.2])).getD (.int .i64 0) = .int .i64 ((D a).getD 0) := by
      have := mapD_at D a
      unfold plT plC at this
      rw [this]
      cases D a <;> rfl
     have hs1 : ((digsL L D).take (j + 1)).map (TV.int .i64) = ((digsL L D).take j).map (.int .i64) ++ [.int .i64 ((D a).getD 0)] := by
      rw [List.take_add_one]
      unfold digsL
      rw [List.getElem?_map, ha]
      simp
     have hwr : (j + 1) * 8 ≤ 140737488355328 := by omega
     have hll2 : (((digsL L D).take j).map (TV.int .i64)).length = j := by rw [List.length_map, List.length_take]; omega
     simp +decide -implicitDefEqProofs (maxSteps := 4000000) only [go_sem, hlt, da, hle, plC, key_pl, hmd, hwr, hll2, Nat.mul_one]
     refine hI1 _ ⟨j + 1, by omega⟩ (by simp only; omega) ?_
     simp +decide -implicitDefEqProofs (maxSteps := 4000000) only [go_sem, hj1, hs1]
    ·have hje : j = L.length := by omega
     subst hje
     have hd : dgT (digsL L D) = .sl ((digsL L D).map (.int .i64)) L.length true := by unfold dgT; rw [hdl, if_neg h0]
     rw [hd] at hx
     have htk : (digsL L D).take L.length = digsL L D := List.take_of_length_le (by omega)
     simp +decide -implicitDefEqProofs (maxSteps := 4000000) only [go_sem, hlt]
     refine hQ1 _ _ ?_
     have hln : ((digsL L D).map (TV.int .i64)).length = L.length := by rw [List.length_map, hdl]
     have htm : ((digsL L D).map (TV.int .i64)).take L.length = (digsL L D).map (.int .i64) := List.take_of_length_le (by omega)
     simp +decide -implicitDefEqProofs (maxSteps := 4000000) only [go_sem, h0, hcm, hx, hst, htk, hln, htm, Nat.mul_one]
     first | done | exact ⟨_, rfl, rfl⟩ | trace_state
noncomputable def spWy1 (p : List (List ByteArray)) (s : TV) (L : List Pl) (lt : TV) (r : Nat) : Pm.Spec := (((noSpec.oneH 85 (wkRo (fun _ i => plT (endP L i)) p.length s lt)).oneH 86 (wkRo (fun D i => .bool (rowB D p i)) p.length s lt)).oneY 83 (gFil p s L r)).gdt
theorem spWy1_ok {p : List (List ByteArray)} {s : TV} (hs : pgR s p) (hv : validB p = true) {L : List Pl} (hL : L.length ≤ 5) {r : Nat} (ih : FilC p s L r) : SpecOk Tryd.prog (spWy1 p s L (lostT L) r) := Spec.gdt_ok (Spec.oneY_ok (gFil_ok ih) (Spec.oneH_ok (wkRo_ok fun D i hD hi => wRowA_c hs hv _ hD hi) (Spec.oneH_ok (wkRo_ok fun D i hD hi => wEnd_c s hL D i) noSpec_ok)))
theorem fil_succ {p : List (List ByteArray)} {s : TV} (hs : pgR s p) (hv : validB p = true) {L : List Pl} (hll : L.length ≤ 5) (hin : ∀ a ∈ L, a.1 < p.length ∧ a.2.1 < (rowA p a.1).length) {r : Nat} (ih : FilC p s L r) : FilC p s L (r + 1) := by
 have hsp := spWy1_ok hs hv hll ih
 obtain ⟨rs, f, rfl, hrl, hrs⟩ := page_rows hs hv
 intro Y k c D hst hD hk hpre
 obtain ⟨a, ha⟩ : ∃ a, L[k]? = some a := ⟨_, List.getElem?_eq_getElem (by omega)⟩
 have hf : fillG p L (r + 1) k D = toG p L a (fillG p L r (k + 1)) D 10 := by
  show toG p L (L.getD k (0, 0, 0)) _ D 10 = _
  rw [List.getD_eq_getElem?_getD, ha]; rfl
 rw [hf] at hpre ⊢
 obtain ⟨G, hG⟩ : ∃ G, toG p L a (fillG p L r (k + 1)) D = G := ⟨_, rfl⟩
 have hG0 : G 0 = (D, []) := by rw [← hG]; rfl
 have hGs : ∀ d, G (d + 1) = stepR p L a (fillG p L r (k + 1)) (G d) d := fun d => by rw [← hG]; rfl
 have hGok : ∀ d, d ≤ 10 → DOk (G d).1 := fun d hd => by rw [← hG]; exact toG_ok (fun D hD => fillG_ok p L r (k + 1) D hD) hD d hd
 have hGp : ∀ d, d < 10 → ∃ R, (G 10).2 = (G (d + 1)).2 ++ R := fun d hd => by rw [← hG]; exact toG_pre p L a _ D 10 (d + 1) (by omega)
 rw [hG] at hpre ⊢
 obtain ⟨hi1, hi2⟩ := hin a (List.mem_of_getElem? ha)
 obtain ⟨r1, hr1⟩ : ∃ r1, p[a.1]? = some r1 := ⟨_, List.getElem?_eq_getElem hi1⟩
 obtain ⟨t1, ht1⟩ : ∃ t1, rs[a.1]? = some t1 := ⟨_, List.getElem?_eq_getElem (by omega)⟩
 obtain ⟨g1, rfl⟩ := hrs a.1 r1 t1 hr1 ht1
 have er : rowA p a.1 = r1 := by unfold rowA; rw [List.getD_eq_getElem?_getD, hr1]; rfl
 rw [er] at hi2
 obtain ⟨x, hx⟩ : ∃ x, r1[a.2.1]? = some x := ⟨_, List.getElem?_eq_getElem hi2⟩
 have ex : entA r1 a.2.1 = x := by unfold entA; rw [List.getD_eq_getElem?_getD, hx]; rfl
 have d1 := tv_at ht1
 have dx := txs_at hx
 have da := plC_at ha
 have hpl := plC_len L
 have hle : k * 3 + 3 ≤ (L.flatMap plC).length := by rw [hpl]; omega
 have hkl : (k : Int) < L.length := by omega
 have hkk : ((k : Int) == (L.length : Int)) = false := by simp; omega
 have hi1' : (a.1 : Int) < p.length := by omega
 have hi2' : (a.2.1 : Int) < r1.length := by omega
 have hk1 := Go.Pm.wS (k := k) (by omega)
 obtain ⟨fb, hfb⟩ : ∃ fb, firstB p a = fb := ⟨_, rfl⟩
 obtain ⟨lb, hlb⟩ : ∃ lb, lastB L a = lb := ⟨_, rfl⟩
 have hT := lostT_ne (L := L) (by omega)
 have hfc : (((a.2.2 : Int) == 0) = false ∧ false = fb) ∨ (((a.2.2 : Int) == 0) = true ∧ decide ((x.size : Int) > 1) = fb) := by
  unfold firstB at hfb
  rw [er, ex] at hfb
  by_cases h : a.2.2 = 0
  ·right
   rw [h] at hfb ⊢
   refine ⟨rfl, ?_⟩
   rw [← hfb]
   simp only [beq_self_eq_true, Bool.true_and]
   exact decide_eq_decide.2 (by omega)
  ·left
   refine ⟨by simp; omega, ?_⟩
   rw [← hfb]
   have : (a.2.2 == 0) = false := by simpa using h
   rw [this]; rfl
 have hlc : ((a.1 : Int) == ((endP L a.1).1 : Int) && ((a.2.1 : Int) == ((endP L a.1).2.1 : Int) && (a.2.2 : Int) == ((endP L a.1).2.2 : Int))) = lb := by
  rw [← hlb]
  unfold lastB
  obtain ⟨e1, e2, e3⟩ := endP L a.1
  obtain ⟨a1, a2, a3⟩ := a
  rw [Bool.eq_iff_iff]
  simp only [Bool.and_eq_true, beq_iff_eq, Prod.mk.injEq]
  omega
 have hgf : ∀ (k c : Nat) (D : Dg), (Y.stop = false ∧ DOk D ∧ k + r = L.length ∧ preF Y c (fillG p L r k D).2) → gFil p (.sl rs p.length f) L r Y [.t (.int .i64 k), .ptr 1 0, .ptr 2 0, .ptr 3 0] [.cnt c, .box [.t (.sl rs p.length f), .t (.sl (L.flatMap plC) L.length false), .mapr 4], .box [.yld Y.l], .box [.fnc 83 [1, 2, 3]], .mp 84 (mapD D)] =
   some (.t (.bool true), [.cnt (c + (fillG p L r k D).2.length), .box [.t (.sl rs p.length f), .t (.sl (L.flatMap plC) L.length false), .mapr 4], .box [.yld Y.l], .box [.fnc 83 [1, 2, 3]], .mp 84 (mapD (fillG p L r k D).1)]) := fun k c D h => by
  have := gFil_eq p (.sl rs p.length f) L r Y k c D
  rw [hT, if_pos h] at this
  exact this
 refine ycalls_by Tryd.mixes hsp (fn := Tryd.f83) Tryd.func83 rfl (by kernel_rfl) (by show 4 ≤ _; decide) ?_
 rcases hfc with ⟨hf1, hf2⟩ | ⟨hf1, hf2⟩
 ·simp +decide -implicitDefEqProofs (maxSteps := 4000000) only [go_sem, Tryd.f83, spWy1, filT, hT, hkk, hD, da, hle, hkl, plC, hf1, hi1, plT, hlc]
  have hf3 : fb = false := hf2.symm
  refine pwpC_loopU (A := { d : Nat // d ≤ 10 }) [0, 1, 2, 3, 9, 11] (fun d => [(72, .t (.int .i64 d.1)), (10, .t (.bool fb))]) (fun d => [(0, .cnt (c + (G d.1).2.length)), (4, .mp 84 (mapD (G d.1).1))]) (fun d => 10 - d.1) ⟨0, by omega⟩ (by decide) (fun _ => by rfl) ?_ fun Q1 hQ1 ⟨d, hd⟩ I1 hI1 => ?_
  ·simp +decide -implicitDefEqProofs (maxSteps := 4000000) only [go_sem, hG0, List.length_nil, Nat.add_zero, hf3]
  ·by_cases hlt : (d : Int) < 10
   ·have hGsd := hGs d
    unfold stepR at hGsd
    have hd1 := Go.Pm.wS (k := d) (by omega)
    have hDd := hGok d (by omega)
    obtain ⟨D1, hD1⟩ : ∃ D1, updD (G d).1 a d = D1 := ⟨_, rfl⟩
    have hok1 : DOk D1 := by rw [← hD1]; exact hDd.upd a (by omega) (by omega)
    have hup : updT (mapD (G d).1) (.agg [.int .i64 a.1, .int .i64 a.2.1, .int .i64 a.2.2]) (.int .i64 d) = mapD D1 := by
     rw [← hD1, ← mapD_upd]; rfl
    rw [hD1, hfb, hlb] at hGsd
    have hkr : k + 1 + r = L.length := by omega
    obtain ⟨R, hR⟩ := hGp d (by omega)
    by_cases hsk : d = 0 ∧ fb = true
    ·rw [if_pos hsk] at hGsd
     obtain ⟨rfl, rfl⟩ := hsk
     simp +decide -implicitDefEqProofs (maxSteps := 4000000) only [go_sem]
     refine hI1 _ ⟨0 + 1, by omega⟩ (by simp only; omega) ?_
     simp +decide -implicitDefEqProofs (maxSteps := 4000000) only [go_sem, hGsd]
    ·rw [if_neg hsk] at hGsd
     by_cases hlr : (lb && !rowB D1 p a.1) = true
     ·rw [if_pos hlr] at hGsd
      rw [Bool.and_eq_true, Bool.not_eq_true'] at hlr
      obtain ⟨rfl, hrb⟩ := hlr
      by_cases h0 : d = 0
      ·have hfb0 : fb = false := by
        rcases Bool.eq_false_or_eq_true fb with hq | hq
        ·exact absurd ⟨h0, hq⟩ hsk
        ·exact hq
       subst h0
       subst hfb0
       have hup' : updT (mapD (G 0).1) (.agg [.int .i64 a.1, .int .i64 a.2.1, .int .i64 a.2.2]) (.int .i64 0) = mapD D1 := hup
       simp +decide -implicitDefEqProofs (maxSteps := 4000000) only [go_sem, key_pl, hup', hok1, hi1, hrb]
       refine hI1 _ ⟨0 + 1, by omega⟩ (by simp only; omega) ?_
       simp +decide -implicitDefEqProofs (maxSteps := 4000000) only [go_sem, hGsd]
      ·have c0 : ((d : Int) == 0) = false := by simp; omega
       simp +decide -implicitDefEqProofs (maxSteps := 4000000) only [go_sem, hlt, c0, key_pl, hup, hok1, hi1, hrb]
       refine hI1 _ ⟨d + 1, by omega⟩ (by simp only; omega) ?_
       simp +decide -implicitDefEqProofs (maxSteps := 4000000) only [go_sem, hd1, hGsd]
     ·rw [if_neg hlr] at hGsd
      have hpp : preF Y (c + (G d).2.length) (fillG p L r (k + 1) D1).2 := preF_part hpre (R := R) (by rw [hR, hGsd]; simp only [List.append_assoc])
      have hlen : c + (G (d + 1)).2.length = c + (G d).2.length + (fillG p L r (k + 1) D1).2.length := by rw [hGsd]; simp only [List.length_append]; omega
      have hfst : (G (d + 1)).1 = (fillG p L r (k + 1) D1).1 := by rw [hGsd]
      have hcase : lb = false ∨ (lb = true ∧ rowB D1 p a.1 = true) := by
       rcases Bool.eq_false_or_eq_true lb with hq | hq
       ·rcases Bool.eq_false_or_eq_true (rowB D1 p a.1) with hq2 | hq2
        ·exact .inr ⟨hq, hq2⟩
        ·exact absurd (by rw [hq, hq2]; rfl) hlr
       ·exact .inl hq
      clear hGsd
      by_cases h0 : d = 0
      ·have hfb0 : fb = false := by
        rcases Bool.eq_false_or_eq_true fb with hq | hq
        ·exact absurd ⟨h0, hq⟩ hsk
        ·exact hq
       subst h0
       subst hfb0
       have hup' : updT (mapD (G 0).1) (.agg [.int .i64 a.1, .int .i64 a.2.1, .int .i64 a.2.2]) (.int .i64 0) = mapD D1 := hup
       rcases hcase with rfl | ⟨rfl, hrb⟩
       ·simp +decide -implicitDefEqProofs (maxSteps := 4000000) only [go_sem, key_pl, hup', hok1, hi1, hk1, hst, hkr, hpp, hgf]
        refine hI1 _ ⟨0 + 1, by omega⟩ (by simp only; omega) ?_
        simp +decide -implicitDefEqProofs (maxSteps := 4000000) only [go_sem, hlen, hfst]
       ·simp +decide -implicitDefEqProofs (maxSteps := 4000000) only [go_sem, key_pl, hup', hok1, hi1, hrb, hk1, hst, hkr, hpp, hgf]
        refine hI1 _ ⟨0 + 1, by omega⟩ (by simp only; omega) ?_
        simp +decide -implicitDefEqProofs (maxSteps := 4000000) only [go_sem, hlen, hfst]
      ·have c0 : ((d : Int) == 0) = false := by simp; omega
       rcases hcase with rfl | ⟨rfl, hrb⟩
       ·simp +decide -implicitDefEqProofs (maxSteps := 4000000) only [go_sem, hlt, c0, key_pl, hup, hok1, hi1, hk1, hst, hkr, hpp, hgf]
        refine hI1 _ ⟨d + 1, by omega⟩ (by simp only; omega) ?_
        simp +decide -implicitDefEqProofs (maxSteps := 4000000) only [go_sem, hd1, hlen, hfst]
       ·simp +decide -implicitDefEqProofs (maxSteps := 4000000) only [go_sem, hlt, c0, key_pl, hup, hok1, hi1, hrb, hk1, hst, hkr, hpp, hgf]
        refine hI1 _ ⟨d + 1, by omega⟩ (by simp only; omega) ?_
        simp +decide -implicitDefEqProofs (maxSteps := 4000000) only [go_sem, hd1, hlen, hfst]
   ·have hde : d = 10 := by omega
    subst hde
    simp +decide -implicitDefEqProofs (maxSteps := 4000000) only [go_sem]
    refine hQ1 _ _ ?_
    simp +decide -implicitDefEqProofs (maxSteps := 4000000) only [go_sem]
    first | done | exact ⟨_, rfl, rfl⟩ | trace_state
 ·simp +decide -implicitDefEqProofs (maxSteps := 4000000) only [go_sem, Tryd.f83, spWy1, filT, hT, hkk, hD, da, hle, hkl, plC, hf1, hf2, hi1, hi1', hi2', d1, dx, plT, hlc, Nat.mul_one]
  refine pwpC_loopU (A := { d : Nat // d ≤ 10 }) [0, 1, 2, 3, 9, 11] (fun d => [(72, .t (.int .i64 d.1)), (10, .t (.bool fb))]) (fun d => [(0, .cnt (c + (G d.1).2.length)), (4, .mp 84 (mapD (G d.1).1))]) (fun d => 10 - d.1) ⟨0, by omega⟩ (by decide) (fun _ => by rfl) ?_ fun Q1 hQ1 ⟨d, hd⟩ I1 hI1 => ?_
  ·simp +decide -implicitDefEqProofs (maxSteps := 4000000) only [go_sem, hG0, List.length_nil, Nat.add_zero]
  ·by_cases hlt : (d : Int) < 10
   ·have hGsd := hGs d
    unfold stepR at hGsd
    have hd1 := Go.Pm.wS (k := d) (by omega)
    have hDd := hGok d (by omega)
    obtain ⟨D1, hD1⟩ : ∃ D1, updD (G d).1 a d = D1 := ⟨_, rfl⟩
    have hok1 : DOk D1 := by rw [← hD1]; exact hDd.upd a (by omega) (by omega)
    have hup : updT (mapD (G d).1) (.agg [.int .i64 a.1, .int .i64 a.2.1, .int .i64 a.2.2]) (.int .i64 d) = mapD D1 := by
     rw [← hD1, ← mapD_upd]; rfl
    rw [hD1, hfb, hlb] at hGsd
    have hkr : k + 1 + r = L.length := by omega
    obtain ⟨R, hR⟩ := hGp d (by omega)
    by_cases hsk : d = 0 ∧ fb = true
    ·rw [if_pos hsk] at hGsd
     obtain ⟨rfl, rfl⟩ := hsk
     simp +decide -implicitDefEqProofs (maxSteps := 4000000) only [go_sem]
     refine hI1 _ ⟨0 + 1, by omega⟩ (by simp only; omega) ?_
     simp +decide -implicitDefEqProofs (maxSteps := 4000000) only [go_sem, hGsd]
    ·rw [if_neg hsk] at hGsd
     by_cases hlr : (lb && !rowB D1 p a.1) = true
     ·rw [if_pos hlr] at hGsd
      rw [Bool.and_eq_true, Bool.not_eq_true'] at hlr
      obtain ⟨rfl, hrb⟩ := hlr
      by_cases h0 : d = 0
      ·have hfb0 : fb = false := by
        rcases Bool.eq_false_or_eq_true fb with hq | hq
        ·exact absurd ⟨h0, hq⟩ hsk
        ·exact hq
       subst h0
       subst hfb0
       have hup' : updT (mapD (G 0).1) (.agg [.int .i64 a.1, .int .i64 a.2.1, .int .i64 a.2.2]) (.int .i64 0) = mapD D1 := hup
       simp +decide -implicitDefEqProofs (maxSteps := 4000000) only [go_sem, key_pl, hup', hok1, hi1, hrb]
       refine hI1 _ ⟨0 + 1, by omega⟩ (by simp only; omega) ?_
       simp +decide -implicitDefEqProofs (maxSteps := 4000000) only [go_sem, hGsd]
      ·have c0 : ((d : Int) == 0) = false := by simp; omega
       simp +decide -implicitDefEqProofs (maxSteps := 4000000) only [go_sem, hlt, c0, key_pl, hup, hok1, hi1, hrb]
       refine hI1 _ ⟨d + 1, by omega⟩ (by simp only; omega) ?_
       simp +decide -implicitDefEqProofs (maxSteps := 4000000) only [go_sem, hd1, hGsd]
     ·rw [if_neg hlr] at hGsd
      have hpp : preF Y (c + (G d).2.length) (fillG p L r (k + 1) D1).2 := preF_part hpre (R := R) (by rw [hR, hGsd]; simp only [List.append_assoc])
      have hlen : c + (G (d + 1)).2.length = c + (G d).2.length + (fillG p L r (k + 1) D1).2.length := by rw [hGsd]; simp only [List.length_append]; omega
      have hfst : (G (d + 1)).1 = (fillG p L r (k + 1) D1).1 := by rw [hGsd]
      have hcase : lb = false ∨ (lb = true ∧ rowB D1 p a.1 = true) := by
       rcases Bool.eq_false_or_eq_true lb with hq | hq
       ·rcases Bool.eq_false_or_eq_true (rowB D1 p a.1) with hq2 | hq2
        ·exact .inr ⟨hq, hq2⟩
        ·exact absurd (by rw [hq, hq2]; rfl) hlr
       ·exact .inl hq
      clear hGsd
      by_cases h0 : d = 0
      ·have hfb0 : fb = false := by
        rcases Bool.eq_false_or_eq_true fb with hq | hq
        ·exact absurd ⟨h0, hq⟩ hsk
        ·exact hq
       subst h0
       subst hfb0
       have hup' : updT (mapD (G 0).1) (.agg [.int .i64 a.1, .int .i64 a.2.1, .int .i64 a.2.2]) (.int .i64 0) = mapD D1 := hup
       rcases hcase with rfl | ⟨rfl, hrb⟩
       ·simp +decide -implicitDefEqProofs (maxSteps := 4000000) only [go_sem, key_pl, hup', hok1, hi1, hk1, hst, hkr, hpp, hgf]
        refine hI1 _ ⟨0 + 1, by omega⟩ (by simp only; omega) ?_
        simp +decide -implicitDefEqProofs (maxSteps := 4000000) only [go_sem, hlen, hfst]
       ·simp +decide -implicitDefEqProofs (maxSteps := 4000000) only [go_sem, key_pl, hup', hok1, hi1, hrb, hk1, hst, hkr, hpp, hgf]
        refine hI1 _ ⟨0 + 1, by omega⟩ (by simp only; omega) ?_
        simp +decide -implicitDefEqProofs (maxSteps := 4000000) only [go_sem, hlen, hfst]
      ·have c0 : ((d : Int) == 0) = false := by simp; omega
       rcases hcase with rfl | ⟨rfl, hrb⟩
       ·simp +decide -implicitDefEqProofs (maxSteps := 4000000) only [go_sem, hlt, c0, key_pl, hup, hok1, hi1, hk1, hst, hkr, hpp, hgf]
        refine hI1 _ ⟨d + 1, by omega⟩ (by simp only; omega) ?_
        simp +decide -implicitDefEqProofs (maxSteps := 4000000) only [go_sem, hd1, hlen, hfst]
       ·simp +decide -implicitDefEqProofs (maxSteps := 4000000) only [go_sem, hlt, c0, key_pl, hup, hok1, hi1, hrb, hk1, hst, hkr, hpp, hgf]
        refine hI1 _ ⟨d + 1, by omega⟩ (by simp only; omega) ?_
        simp +decide -implicitDefEqProofs (maxSteps := 4000000) only [go_sem, hd1, hlen, hfst]
   ·have hde : d = 10 := by omega
    subst hde
    simp +decide -implicitDefEqProofs (maxSteps := 4000000) only [go_sem]
    refine hQ1 _ _ ?_
    simp +decide -implicitDefEqProofs (maxSteps := 4000000) only [go_sem]
    first | done | exact ⟨_, rfl, rfl⟩ | trace_state
end Go.Proofs.YtdkboibnokipaaaDoor

namespace Go.Proofs.YtdkboibnokipaaaDoor
open Go.RowKit Go.Pm Go.Ow
theorem fil_all {p : List (List ByteArray)} {s : TV} (hs : pgR s p) (hv : validB p = true) {L : List Pl} (hll : L.length ≤ 5) (hin : ∀ a ∈ L, a.1 < p.length ∧ a.2.1 < (rowA p a.1).length) : ∀ r, FilC p s L r
 | 0 => fil_zero hs hv hll
 | r + 1 => fil_succ hs hv hll hin (fil_all hs hv hll hin r)
noncomputable def spWz (p : List (List ByteArray)) (s : TV) (L : List Pl) : Pm.Spec := (noSpec.oneH 84 (wkAg false (fun D => rowsB D p L) s (lostT L))).oneY 83 (gFil p s L L.length)
theorem spWz_ok {p : List (List ByteArray)} {s : TV} (hs : pgR s p) (hv : validB p = true) {L : List Pl} (hll : L.length ≤ 5) (hin : ∀ a ∈ L, a.1 < p.length ∧ a.2.1 < (rowA p a.1).length) : SpecOk Tryd.prog (spWz p s L) := Spec.oneY_ok (gFil_ok (fil_all hs hv hll hin _)) (Spec.oneH_ok (wkAg_ok fun D hD => wAgreesR_c hs hv hll hD) noSpec_ok)
theorem wReadY_c {p : List (List ByteArray)} {s : TV} (hs : pgR s p) (hv : validB p = true) (Y : YS) (hst : Y.stop = false) (hpre : preF Y 0 (readG p)) : ∃ D' : Dg, YCalls Tryd.prog Y 82 [.yld Y.l, .ptr 1 0] (getL [.cnt 0, .box [.t s, .t (lostT (placesP p)), .mapr 2], .mp 84 (mapD fun _ => none)]) (.t (.tup [])) (getL [.cnt (readG p).length, .box [.t s, .t (lostT (placesP p)), .mapr 2], .mp 84 (mapD D')]) := by
 have hll : (placesP p).length ≤ 5 := by rw [places_len]; exact (valid_len hv).2
 have hin : ∀ a ∈ placesP p, a.1 < p.length ∧ a.2.1 < (rowA p a.1).length := fun a ha => ⟨(mem_places ha).1, (mem_places ha).2.1⟩
 have hno := DOk_none
 rcases Bool.eq_false_or_eq_true (rowsB (fun _ => none) p (placesP p)) with hr | hr
 ·have hrd : readG p = (fillG p (placesP p) (placesP p).length 0 fun _ => none).2 := by unfold readG; rw [if_pos hr]
  rw [hrd] at hpre ⊢
  have hgf := gFil_eq p s (placesP p) (placesP p).length Y 0 0 (fun _ => none)
  rw [if_pos ⟨hst, hno, by omega, hpre⟩] at hgf
  rw [show ((0 : Nat) : Int) = 0 from rfl] at hgf
  refine ⟨(fillG p (placesP p) (placesP p).length 0 fun _ => none).1, ?_⟩
  refine ycalls_by Tryd.mixes (spWz_ok hs hv hll hin) (fn := Tryd.f82) Tryd.func82 rfl (by kernel_rfl) (by show 2 ≤ _; decide) ?_
  simp +decide -implicitDefEqProofs (maxSteps := 4000000) only [go_sem, Tryd.f82, spWz, hno, hr, hgf, Nat.zero_add]
  first | done | exact ⟨_, rfl, rfl⟩ | trace_state
 ·have hrd : readG p = [] := by unfold readG; rw [if_neg (by rw [hr]; decide)]
  rw [hrd]
  refine ⟨fun _ => none, ?_⟩
  refine ycalls_by Tryd.mixes (spWz_ok hs hv hll hin) (fn := Tryd.f82) Tryd.func82 rfl (by kernel_rfl) (by show 2 ≤ _; decide) ?_
  simp +decide -implicitDefEqProofs (maxSteps := 4000000) only [go_sem, Tryd.f82, spWz, hno, hr]
  first | done | exact ⟨_, rfl, rfl⟩ | trace_state
theorem wReadings_c (s lt : TV) (m : TV → Option TV) : HCalls Tryd.prog 52 [pageW s lt 0] (getL [.mp 84 m]) (.fnc 82 [1]) (getL [.mp 84 m, .box [.t s, .t lt, .mapr 0]]) := by
 refine hcalls_by Tryd.mixes noSpec_ok (fn := Tryd.f52) Tryd.func52 rfl (by kernel_rfl) (by show 1 ≤ _; decide) ?_
 simp +decide -implicitDefEqProofs (maxSteps := 4000000) only [go_sem, Tryd.f52, pageW]
 first | done | exact ⟨_, rfl, rfl⟩ | trace_state
end Go.Proofs.YtdkboibnokipaaaDoor

namespace Go.Ow
open Go Go.RowKit Go.Pm
def hasD (ys : List (List Int)) (k : Nat) (d : Int) : Bool := ys.any fun g => g.getD k 0 == d
def canK (ys : List (List Int)) (k : Nat) : List TV := [.bool (hasD ys k 0), .bool (hasD ys k 1), .bool (hasD ys k 2), .bool (hasD ys k 3), .bool (hasD ys k 4), .bool (hasD ys k 5), .bool (hasD ys k 6), .bool (hasD ys k 7), .bool (hasD ys k 8), .bool (hasD ys k 9)]
def canX (ys : List (List Int)) (g : List Int) (j n : Nat) : List TV := (List.range n).flatMap fun k => if k < j then canK (ys ++ [g]) k else canK ys k
def canC (ys : List (List Int)) (n : Nat) : List TV := (List.range n).flatMap (canK ys)
theorem flatMap_cong {α β : Type} {f g : α → List β} : ∀ {l : List α}, (∀ x ∈ l, f x = g x) → l.flatMap f = l.flatMap g
 | [], _ => rfl
 | a :: l, h => by rw [List.flatMap_cons, List.flatMap_cons, h a List.mem_cons_self, flatMap_cong fun x hx => h x (List.mem_cons_of_mem _ hx)]
theorem flat10_len {f : Nat → List TV} (hf : ∀ k, (f k).length = 10) : ∀ n, ((List.range n).flatMap f).length = n * 10
 | 0 => rfl
 | n + 1 => by rw [List.range_succ, List.flatMap_append, List.length_append, flat10_len hf n]; simp [hf]; omega
theorem flat10_at {f : Nat → List TV} (hf : ∀ k, (f k).length = 10) (n k : Nat) (hk : k < n) : ∃ R, ((List.range n).flatMap f).drop (k * 10) = f k ++ R := by
 induction n with
 | zero => omega
 | succ n ih =>
  rw [List.range_succ, List.flatMap_append]
  by_cases h : k < n
  ·obtain ⟨R, hR⟩ := ih h
   exact ⟨R ++ List.flatMap f [n], by rw [List.drop_append_of_le_length (by rw [flat10_len hf]; omega), hR, List.append_assoc]⟩
  ·have : k = n := by omega
   subst this
   refine ⟨[], ?_⟩
   have hl := flat10_len hf k
   rw [show k * 10 = ((List.range k).flatMap f).length by rw [hl], List.drop_left]
   simp
theorem canX_0 (ys : List (List Int)) (g : List Int) (n : Nat) : canX ys g 0 n = canC ys n := by
 unfold canX canC
 congr 1
theorem canX_n (ys : List (List Int)) (g : List Int) (n : Nat) : canX ys g n n = canC (ys ++ [g]) n := by
 unfold canX canC
 apply flatMap_cong
 intro k hk
 rw [if_pos (List.mem_range.1 hk)]
theorem canC_len (ys : List (List Int)) (n : Nat) : (canC ys n).length = n * 10 := flat10_len (fun _ => rfl) n
theorem canX_len (ys : List (List Int)) (g : List Int) (j n : Nat) : (canX ys g j n).length = n * 10 := flat10_len (fun k => by split <;> rfl) n
theorem canC_at (ys : List (List Int)) (n k : Nat) (hk : k < n) : ∃ R, (canC ys n).drop (k * 10) = canK ys k ++ R := flat10_at (fun _ => rfl) n k hk
theorem hasD_snoc (ys : List (List Int)) (g : List Int) (k : Nat) (d : Int) : hasD (ys ++ [g]) k d = (hasD ys k d || g.getD k 0 == d) := by
 unfold hasD; rw [List.any_append]; simp
theorem canK_set (ys : List (List Int)) (g : List Int) (k d : Nat) (hd : d < 10) (hg : g.getD k 0 = (d : Int)) : (canK ys k).set d (.bool true) = canK (ys ++ [g]) k := by
 unfold canK
 simp only [hasD_snoc, hg]
 rcases (by omega : d = 0 ∨ d = 1 ∨ d = 2 ∨ d = 3 ∨ d = 4 ∨ d = 5 ∨ d = 6 ∨ d = 7 ∨ d = 8 ∨ d = 9) with rfl | rfl | rfl | rfl | rfl | rfl | rfl | rfl | rfl | rfl <;> simp
theorem canX_set (ys : List (List Int)) (g : List Int) (k d : Nat) (hd : d < 10) (hg : g.getD k 0 = (d : Int)) : ∀ n, k < n → (canX ys g k n).set (k * 10 + d) (.bool true) = canX ys g (k + 1) n
 | 0, h => by omega
 | n + 1, h => by
  have hs : ∀ j, canX ys g j (n + 1) = canX ys g j n ++ if n < j then canK (ys ++ [g]) n else canK ys n := fun j => by
   unfold canX; rw [List.range_succ, List.flatMap_append]; simp
  rw [hs, hs]
  have hl := canX_len ys g k n
  by_cases hk : k < n
  ·rw [List.set_append_left _ _ (by rw [hl]; omega), canX_set ys g k d hd hg n hk, if_neg (by omega), if_neg (by omega)]
  ·have e : k = n := by omega
   subst e
   rw [List.set_append_right _ _ (by rw [hl]; omega), hl, show k * 10 + d - k * 10 = d by omega, if_neg (by omega), if_pos (by omega), canK_set ys g k d hd hg]
   congr 1
   unfold canX
   apply flatMap_cong
   intro j hj
   have := List.mem_range.1 hj
   rw [if_pos this, if_pos (by omega)]
theorem canC_nil (n : Nat) : (canC [] n).map PV.t = (List.replicate n [.t (.bool false), .t (.bool false), .t (.bool false), .t (.bool false), .t (.bool false), .t (.bool false), .t (.bool false), .t (.bool false), .t (.bool false), .t (.bool false)]).flatten := by
 induction n with
 | zero => rfl
 | succ n ih =>
  unfold canC at ih ⊢
  rw [List.range_succ, List.flatMap_append, List.map_append, ih, List.replicate_succ']
  simp [canK, hasD]
def lastY (ys : List (List Int)) : List Int := ys.getLastD []
def sureB (ys : List (List Int)) (k : Nat) : Bool := ys.all fun g => g.getD k 0 == (lastY ys).getD k 0
theorem sure_chk {ys : List (List Int)} {k : Nat} {d : Int} (hys : ∀ g ∈ ys, 0 ≤ g.getD k 0 ∧ g.getD k 0 ≤ 9) (hd : (lastY ys).getD k 0 = d) (hne : ys ≠ []) :
  (hasD ys k 0 == ((0 : Int) == d) && (hasD ys k 1 == ((1 : Int) == d) && (hasD ys k 2 == ((2 : Int) == d) && (hasD ys k 3 == ((3 : Int) == d) && (hasD ys k 4 == ((4 : Int) == d) && (hasD ys k 5 == ((5 : Int) == d) && (hasD ys k 6 == ((6 : Int) == d) && (hasD ys k 7 == ((7 : Int) == d) && (hasD ys k 8 == ((8 : Int) == d) && hasD ys k 9 == ((9 : Int) == d)))))))))) = sureB ys k := by
 have hm : lastY ys ∈ ys := by
  unfold lastY
  rw [List.getLastD_eq_getLast?, List.getLast?_eq_some_getLast hne]
  exact List.getLast_mem hne
 have hdr := hys _ hm
 rw [hd] at hdr
 rw [Bool.eq_iff_iff]
 simp only [Bool.and_eq_true, beq_iff_eq]
 constructor
 ·rintro ⟨h0, h1, h2, h3, h4, h5, h6, h7, h8, h9⟩
  unfold sureB
  rw [List.all_eq_true]
  intro g hg
  rw [beq_iff_eq, hd]
  have hr := hys g hg
  have key : ∀ e : Int, g.getD k 0 = e → hasD ys k e = (e == d) → g.getD k 0 = d := fun e he h => by
   have : hasD ys k e = true := by unfold hasD; rw [List.any_eq_true]; exact ⟨g, hg, by rw [he]; simp⟩
   rw [this] at h
   have := h.symm
   rw [beq_iff_eq] at this
   rw [he, this]
  rcases (by omega : g.getD k 0 = 0 ∨ g.getD k 0 = 1 ∨ g.getD k 0 = 2 ∨ g.getD k 0 = 3 ∨ g.getD k 0 = 4 ∨ g.getD k 0 = 5 ∨ g.getD k 0 = 6 ∨ g.getD k 0 = 7 ∨ g.getD k 0 = 8 ∨ g.getD k 0 = 9) with h | h | h | h | h | h | h | h | h | h
  ·exact key _ h h0
  ·exact key _ h h1
  ·exact key _ h h2
  ·exact key _ h h3
  ·exact key _ h h4
  ·exact key _ h h5
  ·exact key _ h h6
  ·exact key _ h h7
  ·exact key _ h h8
  ·exact key _ h h9
 ·intro h
  unfold sureB at h
  rw [List.all_eq_true] at h
  have key : ∀ e : Int, hasD ys k e = (e == d) := fun e => by
   unfold hasD
   rw [Bool.eq_iff_iff, List.any_eq_true, beq_iff_eq]
   constructor
   ·rintro ⟨g, hg, he⟩
    have := h g hg
    rw [beq_iff_eq] at this he
    rw [← he, this, hd]
   ·intro he
    exact ⟨_, hm, by rw [beq_iff_eq, hd, he]⟩
  exact ⟨key 0, key 1, key 2, key 3, key 4, key 5, key 6, key 7, key 8, key 9⟩
def sureD (ys : List (List Int)) (L : List Pl) : Nat → Dg
 | 0 => fun _ => none
 | k + 1 => if sureB ys k then updD (sureD ys L k) (L.getD k (0, 0, 0)) ((lastY ys).getD k 0) else sureD ys L k
open Classical in
noncomputable def mapB (D : Dg) : TV → Option TV := fun t => if h : ∃ a, t = plT a then (D (Classical.choose h)).map (fun d => .int .u8 (48 + d)) else none
theorem mapB_at (D : Dg) (a : Pl) : mapB D (plT a) = (D a).map (fun d => .int .u8 (48 + d)) := by
 have hx : ∃ b, plT a = plT b := ⟨a, rfl⟩
 unfold mapB
 rw [dif_pos hx, ← plT_inj (Classical.choose_spec hx)]
theorem mapB_upd (D : Dg) (a : Pl) (d : Int) : updT (mapB D) (plT a) (.int .u8 (48 + d)) = mapB (updD D a d) := by
 funext t
 unfold updT
 by_cases h : ∃ b, t = plT b
 ·obtain ⟨b, rfl⟩ := h
  rw [mapB_at, mapB_at]
  unfold updD
  by_cases e : b = a
  ·subst e; rw [if_pos rfl, if_pos rfl]; rfl
  ·rw [if_neg fun x => e (plT_inj x), if_neg e]
 ·rw [if_neg fun e => h ⟨a, e⟩]
  unfold mapB
  rw [dif_neg h, dif_neg h]
theorem mapB_none : mapB (fun _ => none) = fun _ => none := by
 funext t
 unfold mapB
 split <;> rfl
def fixB (S : Dg) (a : Pl) (b : UInt8) : UInt8 := match S a with
 | some d => UInt8.ofNat (48 + d.toNat)
 | none => b
def fixL (S : Dg) (i k : Nat) (s : ByteArray) : List UInt8 := (List.range s.size).map fun x => fixB S (i, k, x) (s.data.toList.getD x 0)
def fixS (S : Dg) (i k : Nat) (s : ByteArray) : ByteArray := ⟨(fixL S i k s).toArray⟩
def fixR (S : Dg) (i : Nat) (r : List ByteArray) : List ByteArray := (List.range r.length).map fun k => fixS S i k (entA r k)
def fixP (S : Dg) (p : List (List ByteArray)) : List (List ByteArray) := (List.range p.length).map fun i => fixR S i (rowA p i)
def restP (p : List (List ByteArray)) : List (List ByteArray) := fixP (sureD (readG p) (placesP p) (placesP p).length) p
def digOk (n : Nat) (g : List Int) : Prop := g.length = n ∧ ∀ k, 0 ≤ g.getD k 0 ∧ g.getD k 0 ≤ 9
theorem digs_ok (L : List Pl) {D : Dg} (hD : DOk D) : digOk L.length (digsL L D) := by
 refine ⟨List.length_map _, fun k => ?_⟩
 unfold digsL
 rw [List.getD_eq_getElem?_getD, List.getElem?_map]
 cases L[k]? with
 | none => simp
 | some a =>
  simp only [Option.map_some, Option.getD_some]
  cases h : D a with
  | none => simp
  | some d => exact hD a d h
theorem toG_dig {p : List (List ByteArray)} {L : List Pl} {a : Pl} {g : Dg → Dg × List (List Int)} (hg : ∀ D, DOk D → DOk (g D).1 ∧ ∀ y ∈ (g D).2, digOk L.length y) {D : Dg} (hD : DOk D) : ∀ d, d ≤ 10 → DOk (toG p L a g D d).1 ∧ ∀ y ∈ (toG p L a g D d).2, digOk L.length y
 | 0, _ => ⟨hD, fun y hy => by cases hy⟩
 | d + 1, h => by
  have ih := toG_dig (p := p) (L := L) (a := a) hg hD d (by omega)
  have hu : DOk (updD (toG p L a g D d).1 a d) := ih.1.upd a (by omega) (by omega)
  have hs : toG p L a g D (d + 1) = stepR p L a g (toG p L a g D d) d := rfl
  rw [hs]
  unfold stepR
  split
  ·exact ih
  ·split
   ·exact ⟨hu, ih.2⟩
   ·refine ⟨(hg _ hu).1, fun y hy => ?_⟩
    rcases List.mem_append.1 hy with hy | hy
    ·exact ih.2 y hy
    ·exact (hg _ hu).2 y hy
theorem fillG_dig (p : List (List ByteArray)) (L : List Pl) : ∀ (r k : Nat) (D : Dg), DOk D → DOk (fillG p L r k D).1 ∧ ∀ y ∈ (fillG p L r k D).2, digOk L.length y
 | 0, _, D, h => ⟨h, fun y hy => by
  have e : (fillG p L 0 0 D).2 = if colsB D p then [digsL L D] else [] := rfl
  change y ∈ (if colsB D p then [digsL L D] else []) at hy
  split at hy
  ·rw [List.mem_singleton] at hy; rw [hy]; exact digs_ok L h
  ·cases hy⟩
 | r + 1, k, D, h => toG_dig (fun D hD => fillG_dig p L r (k + 1) D hD) h 10 (Nat.le_refl _)
theorem readG_dig {p : List (List ByteArray)} {y : List Int} (h : y ∈ readG p) : digOk (placesP p).length y := by
 unfold readG at h
 split at h
 ·exact (fillG_dig p _ _ _ _ DOk_none).2 y h
 ·cases h
theorem toG_size {p : List (List ByteArray)} {L : List Pl} {a : Pl} {g : Dg → Dg × List (List Int)} {m : Nat} (hg : ∀ D, (g D).2.length ≤ m) (D : Dg) : ∀ d, (toG p L a g D d).2.length ≤ d * m
 | 0 => by simp [toG]
 | d + 1 => by
  have ih := toG_size (p := p) (L := L) (a := a) hg D d
  have hs : toG p L a g D (d + 1) = stepR p L a g (toG p L a g D d) d := rfl
  rw [hs]
  unfold stepR
  have := hg (updD (toG p L a g D d).1 a d)
  split
  ·rw [Nat.add_mul]; omega
  ·split
   ·rw [Nat.add_mul]; simp only; omega
   ·rw [Nat.add_mul]; simp only [List.length_append]; omega
theorem fillG_size (p : List (List ByteArray)) (L : List Pl) : ∀ (r k : Nat) (D : Dg), (fillG p L r k D).2.length ≤ 10 ^ r
 | 0, k, D => by
  change (if colsB D p then [digsL L D] else []).length ≤ 1
  split <;> simp
 | r + 1, k, D => by
  have := toG_size (p := p) (L := L) (a := L.getD k (0, 0, 0)) (g := fillG p L r (k + 1)) (m := 10 ^ r) (fun D => fillG_size p L r (k + 1) D) D 10
  rw [Nat.pow_succ, Nat.mul_comm]
  exact this
theorem readG_size {p : List (List ByteArray)} (h : (placesP p).length ≤ 5) : (readG p).length ≤ 100000 := by
 unfold readG
 split
 ·have h1 := fillG_size p (placesP p) (placesP p).length 0 fun _ => none
  have h2 : 10 ^ (placesP p).length ≤ 10 ^ 5 := Nat.pow_le_pow_right (by decide) h
  omega
 ·simp
theorem sureD_ok {ys : List (List Int)} (L : List Pl) (h : ∀ k, 0 ≤ (lastY ys).getD k 0 ∧ (lastY ys).getD k 0 ≤ 9) : ∀ j, DOk (sureD ys L j)
 | 0 => DOk_none
 | j + 1 => by
  unfold sureD
  split
  ·exact (sureD_ok L h j).upd _ (h j).1 (h j).2
  ·exact sureD_ok L h j
def fixN (S : Dg) (i k : Nat) (s : ByteArray) (j : Nat) : List TV := (List.range s.size).map fun y => .int .u8 ((if y < j then fixB S (i, k, y) (s.data.toList.getD y 0) else s.data.toList.getD y 0).toNat : Int)
theorem fixN_len (S : Dg) (i k : Nat) (s : ByteArray) (j : Nat) : (fixN S i k s j).length = s.size := by unfold fixN; rw [List.length_map, List.length_range]
theorem fixN_0 (S : Dg) (i k : Nat) (s : ByteArray) : fixN S i k s 0 = Go.Pm.bytesT s := by
 have hl := bytes_len s
 unfold fixN Go.Pm.bytesT
 apply List.ext_getElem
 ·simp [hl]
 ·intro y h1 h2
  simp only [List.getElem_map, List.getElem_range, Nat.not_lt_zero, if_false]
  rw [List.getD_eq_getElem?_getD, List.getElem?_eq_getElem (by rw [List.length_map, List.length_range] at h1; omega)]
  rfl
theorem fixN_none (S : Dg) (i k : Nat) (s : ByteArray) (j : Nat) (h : S (i, k, j) = none) : fixN S i k s (j + 1) = fixN S i k s j := by
 unfold fixN
 refine List.map_congr_left fun y _ => ?_
 by_cases e : y = j
 ·subst e
  unfold fixB
  rw [h]; simp
 ·by_cases h1 : y < j
  ·rw [if_pos h1, if_pos (by omega)]
  ·rw [if_neg h1, if_neg (by omega)]
theorem fixN_get (S : Dg) (i k : Nat) (s : ByteArray) (j y : Nat) : (fixN S i k s j)[y]? = if y < s.size then some (.int .u8 ((if y < j then fixB S (i, k, y) (s.data.toList.getD y 0) else s.data.toList.getD y 0).toNat : Int)) else none := by
 unfold fixN
 rw [List.getElem?_map]
 by_cases h : y < s.size
 ·rw [if_pos h, List.getElem?_range h]; rfl
 ·rw [if_neg h, List.getElem?_eq_none (by rw [List.length_range]; omega)]; rfl
theorem fixN_some (S : Dg) (i k : Nat) (s : ByteArray) (j : Nat) {d : Int} (h : S (i, k, j) = some d) (h0 : 0 ≤ d) (h9 : d ≤ 9) (hj : j < s.size) : (fixN S i k s j).set j (.int .u8 (48 + d)) = fixN S i k s (j + 1) := by
 apply List.ext_getElem?
 intro y
 rw [List.getElem?_set, fixN_get, fixN_get, fixN_len]
 by_cases e : j = y
 ·subst e
  rw [if_pos rfl, if_pos hj, if_pos hj, if_pos (Nat.lt_succ_self j)]
  unfold fixB
  rw [h]
  simp only [Option.some.injEq, TV.int.injEq, true_and]
  have : (UInt8.ofNat (48 + d.toNat)).toNat = (48 + d.toNat) % 256 := by simp
  rw [this]
  omega
 ·rw [if_neg e]
  by_cases h3 : y < j
  ·rw [if_pos h3, if_pos (show y < j + 1 by omega)]
  ·rw [if_neg h3, if_neg (show ¬ y < j + 1 by omega)]
theorem fixN_all (S : Dg) (i k : Nat) (s : ByteArray) : allO (((fixN S i k s s.size).map PV.t).map numP) = some ((fixL S i k s).map fun b => (b.toNat : Int)) := by
 have key : ∀ l : List UInt8, allO (((l.map fun b => TV.int .u8 (b.toNat : Int)).map PV.t).map numP) = some (l.map fun b => (b.toNat : Int)) := by
  intro l
  induction l with
  | nil => rfl
  | cons b l ih =>
   simp only [List.map_cons] at ih ⊢
   unfold allO
   simp only [numP, ih, Option.map_some]
 have : fixN S i k s s.size = (fixL S i k s).map fun b => TV.int .u8 (b.toNat : Int) := by
  unfold fixN fixL
  rw [List.map_map]
  refine List.map_congr_left fun y hy => ?_
  rw [List.mem_range] at hy
  simp only [Function.comp, if_pos hy]
 rw [this, key]
theorem fixL_str (S : Dg) (i k : Nat) (s : ByteArray) : strOfNums ((fixL S i k s).map fun b => (b.toNat : Int)) = fixS S i k s := by
 unfold strOfNums fixS
 rw [List.map_map]
 congr 2
 have : ((fun n : Int => UInt8.ofNat n.toNat) ∘ fun b : UInt8 => (b.toNat : Int)) = id := by
  funext b
  simp
 rw [this, List.map_id]
theorem fixR_at (S : Dg) (i : Nat) (r : List ByteArray) (k : Nat) (hk : k < r.length) : (fixR S i r).take (k + 1) = (fixR S i r).take k ++ [fixS S i k (entA r k)] := by
 rw [List.take_add_one]
 unfold fixR
 rw [List.getElem?_map, List.getElem?_range hk]; rfl
theorem fixP_at (S : Dg) (p : List (List ByteArray)) (i : Nat) (hi : i < p.length) : (fixP S p).take (i + 1) = (fixP S p).take i ++ [fixR S i (rowA p i)] := by
 rw [List.take_add_one]
 unfold fixP
 rw [List.getElem?_map, List.getElem?_range hi]; rfl
theorem fixR_len (S : Dg) (i : Nat) (r : List ByteArray) : (fixR S i r).length = r.length := by unfold fixR; rw [List.length_map, List.length_range]
theorem fixP_len (S : Dg) (p : List (List ByteArray)) : (fixP S p).length = p.length := by unfold fixP; rw [List.length_map, List.length_range]
end Go.Ow

namespace Go.Proofs.YtdkboibnokipaaaDoor
open Go.RowKit Go.Pm Go.Ow
open Classical in
noncomputable def wkOp (s : TV) (p : List (List ByteArray)) : List PV → List PO → Option (PV × List PO)
 | [.t t], [] => if t = s then some (.cons true (pageV s (placesP p) 1) (.cons true (.t (.int .i64 0)) (.nil true)), [.box [.junk, .junk, .junk], .mp 84 (mapD fun _ => none)]) else none
 | _, _ => none
theorem wkOp_ok {s : TV} {p : List (List ByteArray)} (hs : pgR s p) (hv : validB p = true) : ∀ xs hl v hl', wkOp s p xs hl = some (v, hl') → HCalls Tryd.prog 51 xs (getL hl) v (getL hl') := by
 intro xs hl v hl' e
 unfold wkOp at e
 split at e
 ·split at e
  ·rename_i hc
   subst hc
   cases e
   exact wOpened_c hs hv
  ·cases e
 ·cases e
open Classical in
@[go_sem] theorem wkOp_eq (s : TV) (p : List (List ByteArray)) : wkOp s p [.t s] [] = some (.cons true (.cons false (.t s) (.cons false (.t (lostT (placesP p))) (.cons false (.mapr 1) (.nil false)))) (.cons true (.t (.int .i64 0)) (.nil true)), [.box [.junk, .junk, .junk], .mp 84 (mapD fun _ => none)]) := by
 unfold wkOp pageV pageW
 simp only [if_true]
noncomputable def wkRd : List PV → List PO → Option (PV × List PO)
 | [.cons false (.t s) (.cons false (.t lt) (.cons false (.mapr 0) (.nil false)))], [.mp t m] => if t = 84 then some (.fnc 82 [1], [.mp t m, .box [.t s, .t lt, .mapr 0]]) else none
 | _, _ => none
theorem wkRd_ok : ∀ xs hl v hl', wkRd xs hl = some (v, hl') → HCalls Tryd.prog 52 xs (getL hl) v (getL hl') := by
 intro xs hl v hl' e
 unfold wkRd at e
 split at e
 ·split at e
  ·rename_i hc
   subst hc
   cases e
   exact wReadings_c _ _ _
  ·cases e
 ·cases e
@[go_sem] theorem wkRd_eq (s lt : TV) (m : TV → Option TV) : wkRd [.cons false (.t s) (.cons false (.t lt) (.cons false (.mapr 0) (.nil false)))] [.mp 84 m] = some (.fnc 82 [1], [.mp 84 m, .box [.t s, .t lt, .mapr 0]]) := by
 unfold wkRd
 simp only [if_true]
def onlyT (d : Int) : TV := .agg [.bool ((0 : Int) == d), .bool ((1 : Int) == d), .bool ((2 : Int) == d), .bool ((3 : Int) == d), .bool ((4 : Int) == d), .bool ((5 : Int) == d), .bool ((6 : Int) == d), .bool ((7 : Int) == d), .bool ((8 : Int) == d), .bool ((9 : Int) == d)]
theorem wOnly_c (d : Nat) (hd : d < 10) : PCalls Tryd.prog 53 [.int .i64 d] (onlyT d) := by
 rcases (by omega : d = 0 ∨ d = 1 ∨ d = 2 ∨ d = 3 ∨ d = 4 ∨ d = 5 ∨ d = 6 ∨ d = 7 ∨ d = 8 ∨ d = 9) with rfl | rfl | rfl | rfl | rfl | rfl | rfl | rfl | rfl | rfl
 all_goals
  refine pcalls_by Tryd.mixes noSpec_ok (fn := Tryd.f53) Tryd.func53 rfl (by kernel_rfl) (by show 1 ≤ _; decide) ?_
  simp +decide -implicitDefEqProofs (maxSteps := 4000000) only [go_sem, Tryd.f53, onlyT]
noncomputable def wkOnly : List TV → Option TV
 | [.int .i64 d] => if 0 ≤ d ∧ d ≤ 9 then some (onlyT d) else none
 | _ => none
theorem wkOnly_ok : ∀ xs r, wkOnly xs = some r → PCalls Tryd.prog 53 xs r := by
 intro xs r h
 unfold wkOnly at h
 split at h
 ·rename_i d
  split at h
  ·rename_i hc
   cases h
   have := wOnly_c d.toNat (by omega)
   rw [show ((d.toNat : Nat) : Int) = d by omega] at this
   exact this
  ·cases h
 ·cases h
attribute [go_sem] wkOnly
noncomputable def spW1 (s : TV) (p : List (List ByteArray)) : Pm.Spec := { ((noSpec.one 53 wkOnly).oneH 51 (wkOp s p)).oneH 52 wkRd with mu := fun t => t == 89 || t == 96 }
theorem spW1_ok {s : TV} {p : List (List ByteArray)} (hs : pgR s p) (hv : validB p = true) : SpecOk Tryd.prog (spW1 s p) := Spec.oneH_ok wkRd_ok (Spec.oneH_ok (wkOp_ok hs hv) (Spec.one_ok wkOnly_ok noSpec_ok))
section
variable (s : TV) (p : List (List ByteArray)) (g : FuncId) (xs : List TV) (ps : List PV) (hl : List PO) (Y : YS) (t : TypeId)
@[go_sem] theorem spW1_p : (spW1 s p).p g xs = if g = 53 then wkOnly xs else none := rfl
@[go_sem] theorem spW1_h : (spW1 s p).h g ps hl = if g = 52 then wkRd ps hl else if g = 51 then wkOp s p ps hl else none := rfl
@[go_sem] theorem spW1_y : (spW1 s p).y Y g ps hl = none := rfl
@[go_sem] theorem spW1_pn : (spW1 s p).pn g ps hl = none := rfl
@[go_sem] theorem spW1_fz : (spW1 s p).fz g = false := rfl
@[go_sem] theorem spW1_fr : (spW1 s p).fr g = false := rfl
@[go_sem] theorem spW1_yf : (spW1 s p).yf g = false := rfl
@[go_sem] theorem spW1_gd : (spW1 s p).gd = false := rfl
@[go_sem] theorem spW1_nf : (spW1 s p).nf t = false := rfl
@[go_sem] theorem spW1_mu : (spW1 s p).mu t = (t == 89 || t == 96) := rfl
end
theorem cellsW_ts (l : List PO) : ∀ cs : List TV, cellsW l (cs.map .t) (cs.map .t)
 | [] => trivial
 | c :: cs => ⟨by simp [cellW, PV.toT], cellsW_ts l cs⟩
theorem key_pb (a b c : Int) : keyOk Tryd.prog 94 (.agg [.int .i64 a, .int .i64 b, .int .i64 c]) = true := by kernel_rfl
theorem all_ts (k : Nat) (cs : List TV) : (cs.map PV.t).all (PV.under k) = true := by
 rw [List.all_eq_true]
 intro x hx
 obtain ⟨c, _, rfl⟩ := List.mem_map.1 hx
 rfl
theorem drop_ts (A : List Nat) (cs : List TV) : (cs.map PV.t).map (PV.dropV A) = cs.map .t := by
 rw [List.map_map]
 rfl
def resS0 (s : TV) (i : Nat) : List PO := [.box [.t (.int .i64 i)], .box [.junk, .junk, .junk], .res, .box [.t s, .t .nilSl, .junk], .grow 0 [] 93 10, .grow 0 [.gsl 4 0 10 0 0 false] 89 1, .box [.t .nilSl], .res]
theorem set_ts (cs : List TV) (i : Nat) (v : TV) (h : i < cs.length) : (cs.map PV.t).take i ++ [.t v] ++ (cs.map PV.t).drop (i + 1) = (cs.set i v).map .t := by
 rw [List.map_set, List.set_eq_take_append_cons_drop, if_pos (by rw [List.length_map]; exact h), List.append_assoc]; rfl
theorem take_snoc {α : Type} {l : List α} {i : Nat} {x : α} (h : l[i]? = some x) : l.take (i + 1) = l.take i ++ [x] := by rw [List.take_add_one, h]; rfl
theorem lastY_snoc (l : List (List Int)) (g : List Int) : lastY (l ++ [g]) = g := by unfold lastY; simp
def resS (s : TV) (L : List Pl) (ys : List (List Int)) : List PO := [.box [.t (.int .i64 ys.length)], .box [.junk, .junk, .junk], .res, .box [.t s, .t (lostT L), .junk], .grow 0 ((canC ys L.length).map .t) 93 10, .grow 0 [.gsl 4 0 10 0 L.length false] 89 1, .box [.t (dgT (lastY ys))], .res]
def restT (p : List (List ByteArray)) : TV := if readG p = [] then .tup [.nilSl, .int .i64 0, .int .i64 91] else .tup [pgV (restP p), .int .i64 (readG p).length, .int .i64 0]
theorem wRestore_c {s : TV} {p : List (List ByteArray)} (hs : pgR s p) (hv : validB p = true) : PCalls Tryd.prog 14 [s] (restT p) := by
 have hll : (placesP p).length ≤ 5 := by rw [places_len]; exact (valid_len hv).2
 obtain ⟨L, hL⟩ : ∃ L, placesP p = L := ⟨_, rfl⟩
 rw [hL] at hll
 have hsz : (readG p).length ≤ 100000 := readG_size (by rw [hL]; exact hll)
 have hsp := spW1_ok hs hv
 have hvl := (valid_len hv).1
 have hsp0 := hs
 obtain ⟨rs, f, hsq, hrl, hrs⟩ := page_rows hs hv
 obtain ⟨R, hR⟩ : ∃ R, restT p = R := ⟨_, rfl⟩
 rw [hR]
 refine pcalls_by Tryd.mixes hsp (fn := Tryd.f14) Tryd.func14 rfl (by kernel_rfl) (by show 1 ≤ _; decide) ?_
 by_cases h0 : L.length = 0
 ·have hLn : L = [] := List.eq_nil_of_length_eq_zero h0
  subst hLn
  have hT : lostT [] = .nilSl := rfl
  simp +decide -implicitDefEqProofs (maxSteps := 4000000) only [go_sem, Tryd.f14, hT, hL]
  refine pwpC_rangeY rfl 82 [7] [7, 2] [7, 2] ((readG p).map fun g => [dgT g]) [(0, .t s), (2, .t .nilSl), (3, .ptr 0 0), (4, .t (.int .i64 0)), (5, .ptr 3 0), (6, .gptr 5 0 0), (7, .ptr 6 0), (36, .fnc 82 [7])]
   [.box [.t (.int .i64 0)], .box [.junk, .junk, .junk], .mp 84 (mapD fun _ => none), .box [.t s, .t .nilSl, .mapr 2], .grow 0 [] 93 10, .grow 0 [.gsl 4 0 10 0 0 false] 89 1, .box [.t .nilSl], .box [.t s, .t .nilSl, .mapr 2]]
   (fun i => resS0 s i) 8 (readG p).length false .normal ?_ (by rfl) (by rfl) (by rfl) ?_ ?_ ?_ ?_ ?_ ?_ ?_ ?_ ?_ ?_
  ·simp +decide -implicitDefEqProofs (maxSteps := 4000000) only [go_sem, List.flatten_nil]
  ·rfl
  ·rfl
  ·exact ⟨_, Tryd.func82, rfl, rfl⟩
  ·intro l
   obtain ⟨D', h⟩ := wReadY_c hs hv ⟨l, (readG p).map fun g => [dgT g], (readG p).length, false⟩ rfl ⟨fun i g hg => by
    rw [Nat.zero_add]
    show ((readG p).map fun g => [dgT g])[i]? = _
    rw [List.getElem?_map, hg]; rfl, by show 0 + (readG p).length ≤ (readG p).length; omega⟩
   rw [hL] at h
   exact ⟨_, _, h, rfl⟩
  ·intro x hx
   obtain ⟨g, _, rfl⟩ := List.mem_map.1 hx
   rfl
  ·intro _
   exact ⟨(List.length_map _).symm, rfl⟩
  ·intro h; cases h
  ·intro i; exact Nat.le_refl _
  ·intro i x hi hx
   rw [List.getElem?_map, Option.map_eq_some_iff] at hx
   obtain ⟨g, hg, rfl⟩ := hx
   have hdg := readG_dig (List.mem_of_getElem? hg)
   rw [hL] at hdg
   have hg1 : dgT g = .nilSl := by unfold dgT; rw [if_pos (show g.length = 0 from hdg.1)]
   show pwpC _ _ _ _ _ _ ⟨_, resS0 s i⟩
   have hi1 := Go.Pm.wS (k := i) (by omega)
   simp +decide -implicitDefEqProofs (maxSteps := 4000000) only [go_sem, resS0, hg1, hi1]
   refine pwpC_loopU (A := Unit) [41, 42] (fun _ => [(43, .t (.int .i64 0))]) (fun _ => []) (fun _ => 0) () (by decide) (fun _ => by rfl) ?_ fun Q1 hQ1 ⟨⟩ I1 hI1 => ?_
   ·simp +decide -implicitDefEqProofs (maxSteps := 4000000) only [go_sem]
   ·simp +decide -implicitDefEqProofs (maxSteps := 4000000) only [go_sem]
    refine hQ1 _ _ ?_
    simp +decide -implicitDefEqProofs (maxSteps := 4000000) only [go_sem]
  ·show blockC _ _ _ ⟨_, resS0 s (readG p).length⟩
   by_cases hne : readG p = []
   ·have hR2 : R = .tup [.nilSl, .int .i64 0, .int .i64 91] := by rw [← hR]; unfold restT; rw [if_pos hne]
    rw [hne, hR2]
    simp +decide -implicitDefEqProofs (maxSteps := 4000000) only [go_sem, resS0, List.length_nil]
   ·have hpos : 0 < (readG p).length := List.length_pos_iff.2 hne
    have hz : (((readG p).length : Int) == 0) = false := by simp; exact hne
    simp +decide -implicitDefEqProofs (maxSteps := 4000000) only [go_sem, resS0, hz]
    obtain ⟨ys, hys⟩ : ∃ ys, readG p = ys := ⟨_, rfl⟩
    rw [hys] at hne hpos hsz ⊢
    refine pwpC_loopU (A := Unit) [2, 3, 4, 5, 6, 7, 11, 58, 59] (fun _ => [(60, .t (.int .i64 0))]) (fun _ => []) (fun _ => 0) () (by decide) (fun _ => by rfl) ?_ fun Q1 hQ1 ⟨⟩ I1 hI1 => ?_
    ·simp +decide -implicitDefEqProofs (maxSteps := 4000000) only [go_sem]
    ·simp +decide -implicitDefEqProofs (maxSteps := 4000000) only [go_sem]
     refine hQ1 _ _ ?_
     simp +decide -implicitDefEqProofs (maxSteps := 4000000) only [go_sem, hsq]
     obtain ⟨S, hS⟩ : ∃ S : Dg, S = fun _ => none := ⟨_, rfl⟩
     have hSok : DOk S := by rw [hS]; exact DOk_none
     have hSm : (fun _ => none : TV → Option TV) = mapB S := by rw [hS]; exact mapB_none.symm
     rw [hSm]
     refine pwpC_loopU (A := { i : Nat // i ≤ p.length }) [3, 4, 11, 85, 86] (fun i => [(87, .t (.int .i64 i.1)), (2, .own (((fixP S p).take i.1).map rowV) i.1 9)]) (fun i => [(9, .tok i.1 41)]) (fun i => p.length - i.1) ⟨0, by omega⟩ (by decide) (fun _ => by rfl) ?_ fun Q2 hQ2 ⟨i, hi⟩ I2 hI2 => ?_
     ·simp +decide -implicitDefEqProofs (maxSteps := 4000000) only [go_sem, List.take_zero, List.map_nil]
     ·by_cases hlt : (i : Int) < p.length
      ·obtain ⟨r, hr⟩ : ∃ r, p[i]? = some r := ⟨_, List.getElem?_eq_getElem (by omega)⟩
       obtain ⟨t, ht⟩ : ∃ t, rs[i]? = some t := ⟨_, List.getElem?_eq_getElem (by omega)⟩
       obtain ⟨hrl1, hrl2, hre⟩ := valid_row hv hr
       obtain ⟨g1, rfl⟩ := hrs i r t hr ht
       have d1 := tv_at ht
       have er : rowA p i = r := by unfold rowA; rw [List.getD_eq_getElem?_getD, hr]; rfl
       have hk1 := Go.Pm.wS (k := i) (by omega)
       simp +decide -implicitDefEqProofs (maxSteps := 4000000) only [go_sem, hlt, d1, Nat.mul_one]
       refine pwpC_loopU (A := { k : Nat // k ≤ r.length }) [2, 3, 4, 11, 85, 86, 87, 14, 92, 93] (fun k => [(94, .t (.int .i64 k.1)), (16, .own (((fixR S i r).take k.1).map .str) k.1 10)]) (fun k => [(10, .tok k.1 9)]) (fun k => r.length - k.1) ⟨0, by omega⟩ (by decide) (fun _ => by rfl) ?_ fun Q3 hQ3 ⟨k, hk⟩ I3 hI3 => ?_
       ·simp +decide -implicitDefEqProofs (maxSteps := 4000000) only [go_sem, List.take_zero, List.map_nil]
       ·by_cases hlt2 : (k : Int) < r.length
        ·obtain ⟨x, hx⟩ : ∃ x, r[k]? = some x := ⟨_, List.getElem?_eq_getElem (by omega)⟩
         have dx := txs_at hx
         have hk2 := Go.Pm.wS (k := k) (by omega)
         have hxs := entB_size (hre x (List.mem_of_getElem? hx))
         have hxb : x.size ≤ 140737488355328 := by omega
         have ex : entA r k = x := by unfold entA; rw [List.getD_eq_getElem?_getD, hx]; rfl
         simp +decide -implicitDefEqProofs (maxSteps := 4000000) only [go_sem, hlt2, dx, hxb, Nat.mul_one]
         have hfl := fun j => fixN_len S i k x j
         refine pwpC_loopU (A := { j : Nat // j ≤ x.size }) [2, 3, 4, 11, 85, 86, 87, 14, 92, 93, 94, 16, 17, 19, 102] (fun j => [(103, .t (.int .i64 j.1))]) (fun j => [(11, .grow 0 ((fixN S i k x j.1).map .t) 5 1)]) (fun j => x.size - j.1) ⟨0, by omega⟩ (by decide) (fun _ => by rfl) ?_ fun Q4 hQ4 ⟨j, hj⟩ I4 hI4 => ?_
         ·have hcw2 := fun l => cellsW_ts l (Go.Pm.bytesT x)
          have hau2 := fun k => all_ts k (Go.Pm.bytesT x)
          simp +decide -implicitDefEqProofs (maxSteps := 4000000) only [go_sem, fixN_0, hcw2, hau2]
         ·by_cases hlt3 : (j : Int) < x.size
          ·have hk3 := Go.Pm.wS (k := j) (by omega)
           have hcw2 := fun l => cellsW_ts l (fixN S i k x (j + 1))
           have hau2 := fun e => all_ts e (fixN S i k x (j + 1))
           have hmb := mapB_at S (i, k, j)
           unfold plT plC at hmb
           cases hSj : S (i, k, j) with
           | none =>
            have hfn := fixN_none S i k x j hSj
            rw [hSj] at hmb
            simp only [Option.map_none] at hmb
            simp +decide -implicitDefEqProofs (maxSteps := 4000000) only [go_sem, hlt3, key_pb, hmb]
            refine hI4 _ ⟨j + 1, by omega⟩ (by simp only; omega) ?_
            rw [hfn] at hcw2 hau2
            simp +decide -implicitDefEqProofs (maxSteps := 4000000) only [go_sem, hk3, hfn, hcw2, hau2]
           | some d =>
            have hd09 := hSok _ _ hSj
            have hfs := fixN_some S i k x j hSj hd09.1 hd09.2 (by omega)
            have hst2 := set_ts (fixN S i k x j) j (.int .u8 (48 + d)) (by rw [hfl]; omega)
            rw [hfs] at hst2
            have hle3 : j + 1 ≤ x.size := by omega
            have hfl2 : ((fixN S i k x j).map PV.t).length = x.size := by rw [List.length_map, hfl]
            rw [hSj] at hmb
            simp only [Option.map_some] at hmb
            simp +decide -implicitDefEqProofs (maxSteps := 4000000) only [go_sem, hlt3, key_pb, hmb, hst2, hle3, hfl2, Nat.mul_one]
            refine hI4 _ ⟨j + 1, by omega⟩ (by simp only; omega) ?_
            simp +decide -implicitDefEqProofs (maxSteps := 4000000) only [go_sem, hk3, hcw2, hau2]
          ·have hje : j = x.size := by omega
           subst hje
           simp +decide -implicitDefEqProofs (maxSteps := 4000000) only [go_sem, hlt3]
           refine hQ4 _ _ ?_
           have hna := fixN_all S i k x
           have hfl2 : ((fixN S i k x x.size).map PV.t).length = x.size := by rw [List.length_map, hfl]
           have htk : ((fixN S i k x x.size).map PV.t).take x.size = (fixN S i k x x.size).map PV.t := List.take_of_length_le (by omega)
           have hfx := fixR_at S i r k (by omega)
           rw [ex] at hfx
           have hrw : (k + 1) * 16 ≤ 140737488355328 := by omega
           have hll2 : (((fixR S i r).take k).map TV.str).length = k := by rw [List.length_map, List.length_take, fixR_len]; omega
           simp +decide -implicitDefEqProofs (maxSteps := 4000000) only [go_sem, hna, hfl2, htk, fixL_str, hrw, hll2, Nat.mul_one]
           refine hI3 _ ⟨k + 1, by omega⟩ (by simp only; omega) ?_
           simp +decide -implicitDefEqProofs (maxSteps := 4000000) only [go_sem, hk2, hfx, List.map_append, List.map_cons, List.map_nil]
        ·have hke : k = r.length := by omega
         subst hke
         have hfx := fixP_at S p i (by omega)
         rw [er] at hfx
         have htk : (fixR S i r).take r.length = fixR S i r := List.take_of_length_le (by rw [fixR_len]; exact Nat.le_refl _)
         have hln : ((fixR S i r).map TV.str).length = r.length := by rw [List.length_map, fixR_len]
         have htm : ((fixR S i r).map TV.str).take r.length = (fixR S i r).map TV.str := List.take_of_length_le (by omega)
         have hr0 : ¬ r.length = 0 := by omega
         have hrv : rowV (fixR S i r) = .sl ((fixR S i r).map .str) r.length true := by unfold rowV; rw [fixR_len]
         have hrw : (i + 1) * 24 ≤ 140737488355328 := by omega
         have hll2 : (((fixP S p).take i).map rowV).length = i := by rw [List.length_map, List.length_take, fixP_len]; omega
         simp +decide -implicitDefEqProofs (maxSteps := 4000000) only [go_sem, hlt2]
         refine hQ3 _ _ ?_
         simp +decide -implicitDefEqProofs (maxSteps := 4000000) only [go_sem, htk, hln, htm, hr0, hrw, hll2, Nat.mul_one]
         refine hI2 _ ⟨i + 1, by omega⟩ (by simp only; omega) ?_
         simp +decide -implicitDefEqProofs (maxSteps := 4000000) only [go_sem, hk1, hfx, List.map_append, List.map_cons, List.map_nil, hrv]
      ·have hie : i = p.length := by omega
       subst hie
       have htk : (fixP S p).take p.length = fixP S p := List.take_of_length_le (by rw [fixP_len]; exact Nat.le_refl _)
       have hp0 : ¬ p.length = 0 := by omega
       simp +decide -implicitDefEqProofs (maxSteps := 4000000) only [go_sem, hlt]
       refine hQ2 _ _ ?_
       have hR2 : R = .tup [.sl ((fixP S p).map rowV) p.length false, .int .i64 ys.length, .int .i64 0] := by
        rw [← hR]; unfold restT restP pgV
        rw [hys, if_neg hne, hL, hS, fixP_len]; rfl
       simp +decide -implicitDefEqProofs (maxSteps := 4000000) only [go_sem, htk, hp0, hR2]
 ·have hT := lostT_ne h0
  have hro : L.length * 10 ≤ 140737488355328 := by omega
  have hcn := canC_nil L.length
  simp +decide -implicitDefEqProofs (maxSteps := 4000000) only [go_sem, Tryd.f14, hT, hL, hro, ← hcn]
  refine pwpC_rangeY rfl 82 [7] [7, 2] [7, 2] ((readG p).map fun g => [dgT g]) [(0, .t s), (2, .t .nilSl), (3, .ptr 0 0), (4, .t (.int .i64 0)), (5, .ptr 3 0), (6, .gptr 5 0 0), (7, .ptr 6 0), (36, .fnc 82 [7])]
   [.box [.t (.int .i64 0)], .box [.junk, .junk, .junk], .mp 84 (mapD fun _ => none), .box [.t s, .t (lostT L), .mapr 2], .grow 0 ((canC [] L.length).map .t) 93 10, .grow 0 [.gsl 4 0 10 0 L.length false] 89 1, .box [.t .nilSl], .box [.t s, .t (lostT L), .mapr 2]]
   (fun i => resS s L ((readG p).take i)) 8 (readG p).length false .normal ?_ (by rfl) (by rfl) (by rfl) ?_ ?_ ?_ ?_ ?_ ?_ ?_ ?_ ?_ ?_
  ·have hcw := fun l => cellsW_ts l (canC [] L.length)
   have hau := fun k => all_ts k (canC [] L.length)
   simp +decide -implicitDefEqProofs (maxSteps := 4000000) only [go_sem, hT, hcw, hau]
  ·show _ = dropL _ _ _
   have hdr := fun A => drop_ts A (canC [] L.length)
   simp only [resS, dropL, List.take_zero, PO.dropO, hdr, List.map_cons, List.map_nil, PV.dropV]
   first | done | rfl | trace_state
  ·rfl
  ·exact ⟨_, Tryd.func82, rfl, rfl⟩
  ·intro l
   obtain ⟨D', h⟩ := wReadY_c hs hv ⟨l, (readG p).map fun g => [dgT g], (readG p).length, false⟩ rfl ⟨fun i g hg => by
    rw [Nat.zero_add]
    show ((readG p).map fun g => [dgT g])[i]? = _
    rw [List.getElem?_map, hg]; rfl, by show 0 + (readG p).length ≤ (readG p).length; omega⟩
   rw [hL] at h
   exact ⟨_, _, h, rfl⟩
  ·intro x hx
   obtain ⟨g, _, rfl⟩ := List.mem_map.1 hx
   rfl
  ·intro _
   exact ⟨(List.length_map _).symm, rfl⟩
  ·intro h; cases h
  ·intro i; exact Nat.le_refl _
  ·intro i x hi hx
   rw [List.getElem?_map, Option.map_eq_some_iff] at hx
   obtain ⟨g, hg, rfl⟩ := hx
   have hdg := readG_dig (List.mem_of_getElem? hg)
   rw [hL] at hdg
   have hts := take_snoc hg
   obtain ⟨ys, hys⟩ : ∃ ys, (readG p).take i = ys := ⟨_, rfl⟩
   have hyl : ys.length = i := by rw [← hys, List.length_take]; omega
   rw [hys] at hts
   have hg1 : dgT g = .sl (g.map (.int .i64)) L.length true := by unfold dgT; rw [if_neg (by rw [hdg.1]; exact h0), hdg.1]
   show pwpC _ _ _ _ _ _ ⟨_, resS s L ((readG p).take i)⟩
   rw [hys]
   have hi1 := Go.Pm.wS (k := i) (by omega)
   simp +decide -implicitDefEqProofs (maxSteps := 4000000) only [go_sem, resS, hyl, hg1, hi1]
   refine pwpC_loopU (A := { k : Nat // k ≤ L.length }) [6, 41, 42] (fun k => [(43, .t (.int .i64 k.1))]) (fun k => [(4, .grow 0 ((canX ys g k.1 L.length).map .t) 93 10)]) (fun k => L.length - k.1) ⟨0, by omega⟩ (by decide) (fun _ => by rfl) ?_ fun Q1 hQ1 ⟨k, hk⟩ I1 hI1 => ?_
   ·have hcw := fun l => cellsW_ts l (canC ys L.length)
    have hau := fun k => all_ts k (canC ys L.length)
    simp +decide -implicitDefEqProofs (maxSteps := 4000000) only [go_sem, canX_0, hcw, hau]
   ·by_cases hlt : (k : Int) < L.length
    ·have hgk : (g.map (TV.int .i64)).drop k = .int .i64 (g.getD k 0) :: (g.map (TV.int .i64)).drop (k + 1) := by
      have hk1 : k < g.length := by rw [hdg.1]; omega
      rw [List.drop_eq_getElem_cons (by rw [List.length_map]; exact hk1), List.getElem_map, List.getD_eq_getElem?_getD, List.getElem?_eq_getElem hk1]; rfl
     obtain ⟨dn, hdn⟩ : ∃ dn : Nat, g.getD k 0 = (dn : Int) := ⟨(g.getD k 0).toNat, by have := (hdg.2 k).1; omega⟩
     have hd10 : dn < 10 := by have := (hdg.2 k).2; omega
     have hst := canX_set ys g k dn hd10 hdn L.length (by omega)
     rw [hdn] at hgk
     have hk2 := Go.Pm.wS (k := k) (by omega)
     have hd10' : (dn : Int) < 10 := by omega
     have hcl := canX_len ys g k L.length
     have hcl2 : ((canX ys g k L.length).map PV.t).length = L.length * 10 := by rw [List.length_map, hcl]
     have hle : k * 10 + dn + 1 ≤ L.length * 10 := by omega
     have hst2 := set_ts (canX ys g k L.length) (k * 10 + dn) (.bool true) (by rw [hcl]; omega)
     rw [hst] at hst2
     simp +decide -implicitDefEqProofs (maxSteps := 4000000) only [go_sem, hlt, hgk, hd10', hcl2, hle, hst2, Nat.mul_one]
     refine hI1 _ ⟨k + 1, by omega⟩ (by simp only; omega) ?_
     have hcw := fun l => cellsW_ts l (canX ys g (k + 1) L.length)
     have hau := fun j => all_ts j (canX ys g (k + 1) L.length)
     simp +decide -implicitDefEqProofs (maxSteps := 4000000) only [go_sem, hk2, hcw, hau]
    ·have hke : k = L.length := by omega
     subst hke
     simp +decide -implicitDefEqProofs (maxSteps := 4000000) only [go_sem, hlt]
     refine hQ1 _ _ ?_
     have hcw := fun l => cellsW_ts l (canC (ys ++ [g]) L.length)
     have hau := fun k => all_ts k (canC (ys ++ [g]) L.length)
     simp +decide -implicitDefEqProofs (maxSteps := 4000000) only [go_sem, hts, List.length_append, List.length_cons, List.length_nil, lastY_snoc, canX_n, hyl, hg1, hcw, hau]
  ·rw [List.take_length]
   by_cases hne : readG p = []
   ·have hR2 : R = .tup [.nilSl, .int .i64 0, .int .i64 91] := by rw [← hR]; unfold restT; rw [if_pos hne]
    rw [hne, hR2]
    simp +decide -implicitDefEqProofs (maxSteps := 4000000) only [go_sem, resS, List.length_nil]
   ·have hpos : 0 < (readG p).length := List.length_pos_iff.2 hne
    have hz : (((readG p).length : Int) == 0) = false := by simp; exact hne
    simp +decide -implicitDefEqProofs (maxSteps := 4000000) only [go_sem, resS, hz, hT]
    obtain ⟨ys, hys⟩ : ∃ ys, readG p = ys := ⟨_, rfl⟩
    have hdg : ∀ g ∈ ys, digOk L.length g := fun g hg => by rw [← hys] at hg; have := readG_dig hg; rw [hL] at this; exact this
    rw [hys] at hne hpos hsz ⊢
    obtain ⟨g, hg⟩ : ∃ g, lastY ys = g := ⟨_, rfl⟩
    have hgm : g ∈ ys := by
     rw [← hg]; unfold lastY
     rw [List.getLastD_eq_getLast?, List.getLast?_eq_some_getLast hne]
     exact List.getLast_mem hne
    have hg2 := hdg g hgm
    have hg1 : dgT g = .sl (g.map (.int .i64)) L.length true := by unfold dgT; rw [if_neg (by rw [hg2.1]; exact h0), hg2.1]
    have hpl := plC_len L
    have hcl := canC_len ys L.length
    have hcl2 : ((canC ys L.length).map PV.t).length = L.length * 10 := by rw [List.length_map, hcl]
    refine pwpC_loopU (A := { k : Nat // k ≤ L.length }) [2, 3, 4, 5, 6, 7, 11, 58, 59] (fun k => [(60, .t (.int .i64 k.1))]) (fun k => [(8, .mp 94 (mapB (sureD ys L k.1)))]) (fun k => L.length - k.1) ⟨0, by omega⟩ (by decide) (fun _ => by rfl) ?_ fun Q1 hQ1 ⟨k, hk⟩ I1 hI1 => ?_
    ·have hcw := fun l => cellsW_ts l (canC ys L.length)
     have hau := fun k => all_ts k (canC ys L.length)
     simp +decide -implicitDefEqProofs (maxSteps := 4000000) only [go_sem, sureD, mapB_none, hcw, hau]
    ·by_cases hlt : (k : Int) < L.length
     ·obtain ⟨a, ha⟩ : ∃ a, L[k]? = some a := ⟨_, List.getElem?_eq_getElem (by omega)⟩
      have da := plC_at ha
      have hle : k * 3 + 3 ≤ (L.flatMap plC).length := by rw [hpl]; omega
      have hk1 := Go.Pm.wS (k := k) (by omega)
      have hgk : (g.map (TV.int .i64)).drop k = .int .i64 (g.getD k 0) :: (g.map (TV.int .i64)).drop (k + 1) := by
       have hk1 : k < g.length := by rw [hg2.1]; omega
       rw [List.drop_eq_getElem_cons (by rw [List.length_map]; exact hk1), List.getElem_map, List.getD_eq_getElem?_getD, List.getElem?_eq_getElem hk1]; rfl
      have hd09 := hg2.2 k
      obtain ⟨d, hd⟩ : ∃ d, g.getD k 0 = d := ⟨_, rfl⟩
      rw [hd] at hgk hd09
      obtain ⟨d0, d9⟩ := hd09
      have hchk := sure_chk (ys := ys) (k := k) (d := d) (fun g hg => (hdg g hg).2 k) (by rw [hg]; exact hd) hne
      obtain ⟨R0, hR0⟩ := canC_at ys L.length k (by omega)
      have hR1 : ((canC ys L.length).map PV.t).drop (k * 10) = (canK ys k).map .t ++ R0.map .t := by rw [← List.map_drop, hR0, List.map_append]
      have hle2 : k * 10 + 10 ≤ L.length * 10 := by omega
      simp +decide -implicitDefEqProofs (maxSteps := 4000000) only [go_sem, hlt, da, hle, plC, hg, hg1, hgk, d0, d9, hR1, canK, hle2, hcl2, onlyT, hchk, Nat.mul_one]
      have hcw := fun l => cellsW_ts l (canC ys L.length)
      have hau := fun k => all_ts k (canC ys L.length)
      rcases Bool.eq_false_or_eq_true (sureB ys k) with hsb | hsb
      ·have hds : sureD ys L (k + 1) = updD (sureD ys L k) a d := by
        show (if sureB ys k = true then updD (sureD ys L k) (L.getD k (0, 0, 0)) ((lastY ys).getD k 0) else _) = _
        rw [if_pos hsb, List.getD_eq_getElem?_getD, ha, hg, hd]; rfl
       have hup := mapB_upd (sureD ys L k) a d
       rw [← hds] at hup
       unfold plT plC at hup
       have hw1 : IntKind.i64.wrap (48 + d) = 48 + d := wrap_in (by omega) (by omega)
       have hw2 : IntKind.u8.wrap (48 + d) = 48 + d := by rw [IntKind.wrap_u8]; omega
       simp +decide -implicitDefEqProofs (maxSteps := 4000000) only [go_sem, hsb, hlt, hg, hg1, hgk, d0, d9, hw1, hw2, key_pb, hup, Nat.mul_one]
       refine hI1 _ ⟨k + 1, by omega⟩ (by simp only; omega) ?_
       simp +decide -implicitDefEqProofs (maxSteps := 4000000) only [go_sem, hk1, hcw, hau, hg, hg1]
      ·have hds : sureD ys L (k + 1) = sureD ys L k := by
        show (if sureB ys k = true then updD (sureD ys L k) (L.getD k (0, 0, 0)) ((lastY ys).getD k 0) else _) = _
        rw [if_neg (by rw [hsb]; decide)]
       simp +decide -implicitDefEqProofs (maxSteps := 4000000) only [go_sem, hsb]
       refine hI1 _ ⟨k + 1, by omega⟩ (by simp only; omega) ?_
       simp +decide -implicitDefEqProofs (maxSteps := 4000000) only [go_sem, hk1, hds, hcw, hau, hg, hg1]
     ·have hke : k = L.length := by omega
      subst hke
      simp +decide -implicitDefEqProofs (maxSteps := 4000000) only [go_sem, hlt]
      refine hQ1 _ _ ?_
      simp +decide -implicitDefEqProofs (maxSteps := 4000000) only [go_sem, hsq]
      obtain ⟨S, hS⟩ : ∃ S, sureD ys L L.length = S := ⟨_, rfl⟩
      have hSok : DOk S := by rw [← hS]; exact sureD_ok L (fun k => by rw [hg]; exact hg2.2 k) _
      rw [hS]
      refine pwpC_loopU (A := { i : Nat // i ≤ p.length }) [3, 4, 11, 85, 86] (fun i => [(87, .t (.int .i64 i.1)), (2, .own (((fixP S p).take i.1).map rowV) i.1 9)]) (fun i => [(9, .tok i.1 41)]) (fun i => p.length - i.1) ⟨0, by omega⟩ (by decide) (fun _ => by rfl) ?_ fun Q2 hQ2 ⟨i, hi⟩ I2 hI2 => ?_
      ·have hcw := fun l => cellsW_ts l (canC ys L.length)
       have hau := fun k => all_ts k (canC ys L.length)
       simp +decide -implicitDefEqProofs (maxSteps := 4000000) only [go_sem, List.take_zero, List.map_nil, hcw, hau]
      ·by_cases hlt : (i : Int) < p.length
       ·obtain ⟨r, hr⟩ : ∃ r, p[i]? = some r := ⟨_, List.getElem?_eq_getElem (by omega)⟩
        obtain ⟨t, ht⟩ : ∃ t, rs[i]? = some t := ⟨_, List.getElem?_eq_getElem (by omega)⟩
        obtain ⟨hrl1, hrl2, hre⟩ := valid_row hv hr
        obtain ⟨g1, rfl⟩ := hrs i r t hr ht
        have d1 := tv_at ht
        have er : rowA p i = r := by unfold rowA; rw [List.getD_eq_getElem?_getD, hr]; rfl
        have hk1 := Go.Pm.wS (k := i) (by omega)
        simp +decide -implicitDefEqProofs (maxSteps := 4000000) only [go_sem, hlt, d1, Nat.mul_one]
        refine pwpC_loopU (A := { k : Nat // k ≤ r.length }) [2, 3, 4, 11, 85, 86, 87, 14, 92, 93] (fun k => [(94, .t (.int .i64 k.1)), (16, .own (((fixR S i r).take k.1).map .str) k.1 10)]) (fun k => [(10, .tok k.1 9)]) (fun k => r.length - k.1) ⟨0, by omega⟩ (by decide) (fun _ => by rfl) ?_ fun Q3 hQ3 ⟨k, hk⟩ I3 hI3 => ?_
        ·have hcw := fun l => cellsW_ts l (canC ys L.length)
         have hau := fun k => all_ts k (canC ys L.length)
         simp +decide -implicitDefEqProofs (maxSteps := 4000000) only [go_sem, List.take_zero, List.map_nil, hcw, hau]
        ·by_cases hlt2 : (k : Int) < r.length
         ·obtain ⟨x, hx⟩ : ∃ x, r[k]? = some x := ⟨_, List.getElem?_eq_getElem (by omega)⟩
          have dx := txs_at hx
          have hk2 := Go.Pm.wS (k := k) (by omega)
          have hxs := entB_size (hre x (List.mem_of_getElem? hx))
          have hxb : x.size ≤ 140737488355328 := by omega
          have ex : entA r k = x := by unfold entA; rw [List.getD_eq_getElem?_getD, hx]; rfl
          simp +decide -implicitDefEqProofs (maxSteps := 4000000) only [go_sem, hlt2, dx, hxb, Nat.mul_one]
          have hfl := fun j => fixN_len S i k x j
          refine pwpC_loopU (A := { j : Nat // j ≤ x.size }) [2, 3, 4, 11, 85, 86, 87, 14, 92, 93, 94, 16, 17, 19, 102] (fun j => [(103, .t (.int .i64 j.1))]) (fun j => [(11, .grow 0 ((fixN S i k x j.1).map .t) 5 1)]) (fun j => x.size - j.1) ⟨0, by omega⟩ (by decide) (fun _ => by rfl) ?_ fun Q4 hQ4 ⟨j, hj⟩ I4 hI4 => ?_
          ·have hcw := fun l => cellsW_ts l (canC ys L.length)
           have hau := fun k => all_ts k (canC ys L.length)
           have hcw2 := fun l => cellsW_ts l (Go.Pm.bytesT x)
           have hau2 := fun k => all_ts k (Go.Pm.bytesT x)
           simp +decide -implicitDefEqProofs (maxSteps := 4000000) only [go_sem, fixN_0, hcw, hau, hcw2, hau2]
          ·by_cases hlt3 : (j : Int) < x.size
           ·have hk3 := Go.Pm.wS (k := j) (by omega)
            have hcw := fun l => cellsW_ts l (canC ys L.length)
            have hau := fun k => all_ts k (canC ys L.length)
            have hcw2 := fun l => cellsW_ts l (fixN S i k x (j + 1))
            have hau2 := fun e => all_ts e (fixN S i k x (j + 1))
            have hmb := mapB_at S (i, k, j)
            unfold plT plC at hmb
            cases hSj : S (i, k, j) with
            | none =>
             have hfn := fixN_none S i k x j hSj
             rw [hSj] at hmb
             simp only [Option.map_none] at hmb
             simp +decide -implicitDefEqProofs (maxSteps := 4000000) only [go_sem, hlt3, key_pb, hmb]
             refine hI4 _ ⟨j + 1, by omega⟩ (by simp only; omega) ?_
             rw [hfn] at hcw2 hau2
             simp +decide -implicitDefEqProofs (maxSteps := 4000000) only [go_sem, hk3, hfn, hcw, hau, hcw2, hau2]
            | some d =>
             have hd09 := hSok _ _ hSj
             have hfs := fixN_some S i k x j hSj hd09.1 hd09.2 (by omega)
             have hst2 := set_ts (fixN S i k x j) j (.int .u8 (48 + d)) (by rw [hfl]; omega)
             rw [hfs] at hst2
             have hle3 : j + 1 ≤ x.size := by omega
             have hfl2 : ((fixN S i k x j).map PV.t).length = x.size := by rw [List.length_map, hfl]
             rw [hSj] at hmb
             simp only [Option.map_some] at hmb
             simp +decide -implicitDefEqProofs (maxSteps := 4000000) only [go_sem, hlt3, key_pb, hmb, hst2, hle3, hfl2, Nat.mul_one]
             refine hI4 _ ⟨j + 1, by omega⟩ (by simp only; omega) ?_
             simp +decide -implicitDefEqProofs (maxSteps := 4000000) only [go_sem, hk3, hcw, hau, hcw2, hau2]
           ·have hje : j = x.size := by omega
            subst hje
            simp +decide -implicitDefEqProofs (maxSteps := 4000000) only [go_sem, hlt3]
            refine hQ4 _ _ ?_
            have hna := fixN_all S i k x
            have hfl2 : ((fixN S i k x x.size).map PV.t).length = x.size := by rw [List.length_map, hfl]
            have htk : ((fixN S i k x x.size).map PV.t).take x.size = (fixN S i k x x.size).map PV.t := List.take_of_length_le (by omega)
            have hfx := fixR_at S i r k (by omega)
            rw [ex] at hfx
            have hrw : (k + 1) * 16 ≤ 140737488355328 := by omega
            have hll2 : (((fixR S i r).take k).map TV.str).length = k := by rw [List.length_map, List.length_take, fixR_len]; omega
            simp +decide -implicitDefEqProofs (maxSteps := 4000000) only [go_sem, hna, hfl2, htk, fixL_str, hrw, hll2, Nat.mul_one]
            refine hI3 _ ⟨k + 1, by omega⟩ (by simp only; omega) ?_
            have hcw := fun l => cellsW_ts l (canC ys L.length)
            have hau := fun k => all_ts k (canC ys L.length)
            simp +decide -implicitDefEqProofs (maxSteps := 4000000) only [go_sem, hk2, hfx, List.map_append, List.map_cons, List.map_nil, hcw, hau]
         ·have hke : k = r.length := by omega
          subst hke
          have hfx := fixP_at S p i (by omega)
          rw [er] at hfx
          have htk : (fixR S i r).take r.length = fixR S i r := List.take_of_length_le (by rw [fixR_len]; exact Nat.le_refl _)
          have hln : ((fixR S i r).map TV.str).length = r.length := by rw [List.length_map, fixR_len]
          have htm : ((fixR S i r).map TV.str).take r.length = (fixR S i r).map TV.str := List.take_of_length_le (by omega)
          have hr0 : ¬ r.length = 0 := by omega
          have hrv : rowV (fixR S i r) = .sl ((fixR S i r).map .str) r.length true := by unfold rowV; rw [fixR_len]
          have hrw : (i + 1) * 24 ≤ 140737488355328 := by omega
          have hll2 : (((fixP S p).take i).map rowV).length = i := by rw [List.length_map, List.length_take, fixP_len]; omega
          simp +decide -implicitDefEqProofs (maxSteps := 4000000) only [go_sem, hlt2]
          refine hQ3 _ _ ?_
          simp +decide -implicitDefEqProofs (maxSteps := 4000000) only [go_sem, htk, hln, htm, hr0, hrw, hll2, Nat.mul_one]
          refine hI2 _ ⟨i + 1, by omega⟩ (by simp only; omega) ?_
          have hcw := fun l => cellsW_ts l (canC ys L.length)
          have hau := fun k => all_ts k (canC ys L.length)
          simp +decide -implicitDefEqProofs (maxSteps := 4000000) only [go_sem, hk1, hfx, List.map_append, List.map_cons, List.map_nil, hrv, hcw, hau]
       ·have hie : i = p.length := by omega
        subst hie
        have htk : (fixP S p).take p.length = fixP S p := List.take_of_length_le (by rw [fixP_len]; exact Nat.le_refl _)
        have hp0 : ¬ p.length = 0 := by omega
        simp +decide -implicitDefEqProofs (maxSteps := 4000000) only [go_sem, hlt]
        refine hQ2 _ _ ?_
        have hR2 : R = .tup [.sl ((fixP S p).map rowV) p.length false, .int .i64 ys.length, .int .i64 0] := by
         rw [← hR]; unfold restT restP pgV
         rw [hys, if_neg hne, hL, hS, fixP_len]
        simp +decide -implicitDefEqProofs (maxSteps := 4000000) only [go_sem, htk, hp0, hR2]
end Go.Proofs.YtdkboibnokipaaaDoor

namespace Go.Ow
open Go Go.RowKit Go.Pm
end Go.Ow
namespace Go.Proofs.YtdkboibnokipaaaDoor
open Go.RowKit Go.Pm Go.Ow
section
variable (s : TV) (p : List (List ByteArray)) (g : FuncId) (xs : List TV) (ps : List PV) (hl : List PO) (Y : YS) (t : TypeId)
end
end Go.Proofs.YtdkboibnokipaaaDoor

namespace Go.Ow
open Go Go.RowKit Go.Pm
end Go.Ow
namespace Go.Proofs.YtdkboibnokipaaaDoor
open Go.RowKit Go.Pm Go.Ow
end Go.Proofs.YtdkboibnokipaaaDoor

namespace Go.Ow
open Go Go.RowKit Go.Pm
end Go.Ow
namespace Go.Proofs.YtdkboibnokipaaaDoor
open Go.RowKit Go.Pm Go.Ow
end Go.Proofs.YtdkboibnokipaaaDoor

namespace Go.Ow
open Go Go.RowKit Go.Pm
def asgD : List Pl → List Int → Dg
 | a :: L, d :: g => updD (asgD L g) a d
 | _, _ => fun _ => none
def ovr (D : Dg) (M : List Pl) (g : List Int) : Dg := fun b => match asgD M g b with
 | some d => some d
 | none => D b
end Go.Ow

namespace Go.Ow
open Go Go.RowKit Go.Pm
abbrev Pg := List (List ByteArray)
def digU (b : UInt8) : Prop := 48 ≤ b.toNat ∧ b.toNat ≤ 57
end Go.Ow

namespace Go.Ow
open Go Go.RowKit Go.Pm
end Go.Ow

namespace Go.Ow
open Go Go.RowKit Go.Pm
end Go.Ow

namespace Go.Ow
open Go Go.RowKit Go.Pm
end Go.Ow
namespace Go.Proofs.YtdkboibnokipaaaDoor
open Go.RowKit Go.Pm Go.Ow Go.Shelf
set_option maxRecDepth 1000000
end Go.Proofs.YtdkboibnokipaaaDoor

namespace Go.Proofs.YtdkboibnokipaaaDoor
open Go Go.RowKit Go.Pm Go.Ow
theorem ba_ext {a b : ByteArray} (h : a.data.toList = b.data.toList) : a = b := by
 cases a; cases b
 congr 1
 exact Array.ext' h
end Go.Proofs.YtdkboibnokipaaaDoor

namespace Go.Ow
open Go Go.Pm
structure WRec where
 kind : Int
 day : Int
 num : Int
 by_ : ByteArray
 new : Int
def recT (r : WRec) : List TV := [.int .i64 r.kind, .int .i64 r.day, .int .i64 r.num, .str r.by_, .int .i64 r.new]
def recL (l : List WRec) : List TV := l.flatMap recT
theorem recL_cons (r : WRec) (l : List WRec) : recL (r :: l) = recT r ++ recL l := by simp [recL]
theorem recL_drop : ∀ (l : List WRec) (k : Nat), (recL l).drop (k * 5) = recL (l.drop k)
 | l, 0 => by simp
 | [], k + 1 => by simp [recL]
 | r :: l, k + 1 => by
  rw [recL_cons, List.drop_succ_cons, ← recL_drop l k]
  have e : (k + 1) * 5 = 5 + k * 5 := by omega
  rw [e, ← List.drop_drop]
  rfl
theorem recL_at {l : List WRec} {k : Nat} {r : WRec} (h : l[k]? = some r) : (recL l).drop (k * 5) = recT r ++ recL (l.drop (k + 1)) := by
 rw [recL_drop]
 have hk := (List.getElem?_eq_some_iff.1 h).1
 rw [List.drop_eq_getElem_cons hk, recL_cons]
 have := List.getElem?_eq_getElem hk
 rw [h] at this
 rw [← Option.some.inj this]
theorem recL_len (l : List WRec) : (recL l).length = l.length * 5 := by
 induction l with
 | nil => rfl
 | cons r l ih => rw [recL_cons, List.length_append, ih]; simp [recT]; omega
def metP (l : List WRec) (n : Int) : Bool := l.any fun r => r.num == n || r.new == n
end Go.Ow
namespace Go.Proofs.YtdkboibnokipaaaDoor
open Go.RowKit Go.Pm Go.Ow
theorem wMet_c (l : List WRec) (f : Bool) (n : Int) (b : Nat) (hb : b ≤ l.length) (hl : l.length ≤ 1000000) : PCalls Tryd.prog 166 [.sl (recL l) l.length f, .int .i64 n, .int .i64 b] (.bool (metP (l.take b) n)) := by
 refine pcalls_by Tryd.mixes noSpec_ok (fn := Tryd.f166) Tryd.func166 rfl (by kernel_rfl) (by show 3 ≤ _; decide) ?_
 have h1 : (b : Int) ≤ l.length := by omega
 have h2 := recL_len l
 have h3 : (recL l).take (b * 5) = recL (l.take b) := by
  have e : recL l = recL (l.take b) ++ recL (l.drop b) := by unfold recL; rw [← List.flatMap_append, List.take_append_drop]
  rw [e]
  have e2 : b * 5 = (recL (l.take b)).length := by rw [recL_len, List.length_take, Nat.min_eq_left hb]
  rw [e2, List.take_left]
 simp +decide (maxSteps := 4000000) only [go_sem, Tryd.f166, h1, h2, h3]
 have hML : (l.take b).length = b := by rw [List.length_take, Nat.min_eq_left hb]
 generalize l.take b = M at *
 refine pwpC_loopU (A := { k : Nat // k ≤ b ∧ ∀ (j : Nat) (r : WRec), j < k → M[j]? = some r → (r.num == n || r.new == n) = false }) [1, 11, 12] (fun k => [(13, .t (.int .i64 k.1))]) (fun _ => []) (fun k => b - k.1) ⟨0, Nat.zero_le _, fun j x hj => absurd hj (by omega)⟩ (by decide) (fun _ => by rfl) ?_ fun Q1 hQ1 ⟨k, hk, hall⟩ I1 hI1 => ?_
 ·simp +decide (maxSteps := 4000000) only [go_sem]
 ·by_cases hlt : (k : Int) < b
  ·obtain ⟨r, hr⟩ : ∃ r, M[k]? = some r := ⟨_, List.getElem?_eq_getElem (by omega)⟩
   have d1 := recL_at hr
   have hk1 := Go.Pm.wS (k := k) (by omega)
   cases c : (r.num == n || r.new == n) with
   | true =>
    have ea : metP M n = true := by unfold metP; rw [List.any_eq_true]; exact ⟨r, List.mem_of_getElem? hr, c⟩
    cases c1 : (r.num == n) with
    | true =>
     simp +decide (maxSteps := 4000000) only [go_sem, hlt, d1, recT, c1]
     refine hQ1 _ _ ?_
     simp +decide (maxSteps := 4000000) only [go_sem, ea]
    | false =>
     have c2 : (r.new == n) = true := by rw [c1] at c; simpa using c
     simp +decide (maxSteps := 4000000) only [go_sem, hlt, d1, recT, c1, c2]
     refine hQ1 _ _ ?_
     simp +decide (maxSteps := 4000000) only [go_sem, ea]
   | false =>
    have hc := Bool.or_eq_false_iff.1 c
    simp +decide (maxSteps := 4000000) only [go_sem, hlt, d1, recT, hc.1, hc.2, hk1]
    refine hI1 _ ⟨k + 1, by omega, fun j x hj hx => ?_⟩ (by simp only; omega) ?_
    ·rcases Nat.lt_or_ge j k with h | h
     ·exact hall j x h hx
     ·have : j = k := by omega
      subst this; rw [hr] at hx; cases hx; exact c
    ·simp +decide (maxSteps := 4000000) only [go_sem]
  ·simp +decide (maxSteps := 4000000) only [go_sem, hlt]
   refine hQ1 _ _ ?_
   have ea : metP M n = false := by
    unfold metP
    rw [List.any_eq_false]
    intro x hx
    obtain ⟨j, hj, rfl⟩ := List.getElem_of_mem hx
    simpa using hall j _ (by omega) (List.getElem?_eq_getElem hj)
   simp +decide (maxSteps := 4000000) only [go_sem, ea]
end Go.Proofs.YtdkboibnokipaaaDoor

namespace Go.Ow
open Go Go.Pm
def usedP (l : List WRec) (n : Int) : Nat → Bool
 | 0 => false
 | k + 1 => match l[k]? with
  | none => false
  | some r => if n == r.new then r.kind == 3 else if n == r.num then r.kind == 1 || r.kind == 2 else usedP l n k
end Go.Ow
namespace Go.Proofs.YtdkboibnokipaaaDoor
open Go.RowKit Go.Pm Go.Ow
theorem wUsed_c (l : List WRec) (f : Bool) (n : Int) (b : Nat) (hb : b ≤ l.length) (hl : l.length ≤ 1000000) : PCalls Tryd.prog 167 [.sl (recL l) l.length f, .int .i64 n, .int .i64 b] (.bool (usedP l n b)) := by
 refine pcalls_by Tryd.mixes (Spec.gdt_ok noSpec_ok) (fn := Tryd.f167) Tryd.func167 rfl (by kernel_rfl) (by show 3 ≤ _; decide) ?_
 have hw : IntKind.i64.wrap ((b : Int) - 1) = (b : Int) - 1 := wrap_in (by omega) (by omega)
 simp +decide (maxSteps := 4000000) only [go_sem, Tryd.f167, hw]
 refine pwpC_loopU (A := { k : Nat // k ≤ b ∧ usedP l n b = usedP l n k }) [0, 1] (fun k => [(7, .t (.int .i64 ((k.1 : Int) - 1)))]) (fun _ => []) (fun k => k.1) ⟨b, Nat.le_refl _, rfl⟩ (by decide) (fun _ => by rfl) ?_ fun Q1 hQ1 ⟨k, hk, hu⟩ I1 hI1 => ?_
 ·simp +decide (maxSteps := 4000000) only [go_sem]
 ·rw [hu] at hQ1
  cases k with
  | zero =>
   have hn : ¬ ((0 : Nat) : Int) - 1 ≥ 0 := by omega
   simp +decide (maxSteps := 4000000) only [go_sem, hn]
   refine hQ1 _ _ ?_
   simp +decide (maxSteps := 4000000) only [go_sem, usedP]
  | succ k =>
   have e1 : ((k + 1 : Nat) : Int) - 1 = (k : Int) := by omega
   have hge : (k : Int) ≥ 0 := by omega
   have hlt : (k : Int) < l.length := by omega
   have hw2 : IntKind.i64.wrap ((k : Int) - 1) = (k : Int) - 1 := wrap_in (by omega) (by omega)
   obtain ⟨r, hr⟩ : ∃ r, l[k]? = some r := ⟨_, List.getElem?_eq_getElem (by omega)⟩
   have d1 := recL_at hr
   cases c1 : (n == r.new) with
   | true =>
    have ea : usedP l n (k + 1) = (r.kind == 3) := by simp only [usedP, hr, c1, if_true]
    simp +decide (maxSteps := 4000000) only [go_sem, e1, hge, hlt, d1, recT, c1, hw2]
    refine hQ1 _ _ ?_
    simp +decide (maxSteps := 4000000) only [go_sem, ea]
   | false =>
    cases c2 : (n == r.num) with
    | true =>
     have ea : usedP l n (k + 1) = (r.kind == 1 || r.kind == 2) := by simp [usedP, hr, c1, c2]
     cases c3 : (r.kind == 1) with
     | true =>
      rw [c3, Bool.true_or] at ea
      simp +decide (maxSteps := 4000000) only [go_sem, e1, hge, hlt, d1, recT, c1, c2, c3, hw2]
      refine hQ1 _ _ ?_
      simp +decide (maxSteps := 4000000) only [go_sem, ea]
     | false =>
      rw [c3, Bool.false_or] at ea
      simp +decide (maxSteps := 4000000) only [go_sem, e1, hge, hlt, d1, recT, c1, c2, c3, hw2]
      refine hQ1 _ _ ?_
      simp +decide (maxSteps := 4000000) only [go_sem, ea]
    | false =>
     have ea : usedP l n (k + 1) = usedP l n k := by simp [usedP, hr, c1, c2]
     simp +decide (maxSteps := 4000000) only [go_sem, e1, hge, hlt, d1, recT, c1, c2, hw2]
     refine hI1 _ ⟨k, by omega, hu.trans ea⟩ (by simp only; omega) ?_
     simp +decide (maxSteps := 4000000) only [go_sem]
end Go.Proofs.YtdkboibnokipaaaDoor

namespace Go.Ow
open Go Go.Pm
def kindP (l : List WRec) (k : Nat) (r : WRec) : Bool :=
 if r.kind == 1 then nameB r.by_ && (r.new == 0 && !metP (l.take k) r.num)
 else if r.kind == 2 then nameB r.by_ && (r.new == 0 && usedP l r.num k)
 else if r.kind == 3 then decide (r.by_.size = 0) && (inW r.new 1 99999 && (r.new != r.num && (!metP (l.take k) r.new && usedP l r.num k)))
 else decide (r.by_.size = 0) && (r.new == 0 && usedP l r.num k)
def recP (l : List WRec) (k : Nat) (d : Int) (r : WRec) : Bool := inW r.kind 1 4 && (inW r.day d 100000 && (inW r.num 1 99999 && kindP l k r))
def dayB (l : List WRec) : Nat → Int
 | 0 => 0
 | k + 1 => match l[k]? with | some r => r.day | none => 0
def okTo (l : List WRec) : Nat → Bool
 | 0 => true
 | k + 1 => okTo l k && (match l[k]? with | some r => recP l k (dayB l k) r | none => false)
def bookB (l : List WRec) : Bool := decide (l.length ≤ 40) && okTo l l.length
def cur (l : List WRec) : Nat → Int → Option Nat
 | 0, _ => none
 | k + 1, n => match l[k]? with
  | none => cur l k n
  | some r => if r.kind = 1 ∧ r.num = n then some k
   else if r.kind = 3 ∧ r.new = n then cur l k r.num
   else if (r.kind = 3 ∨ r.kind = 4) ∧ r.num = n then none
   else cur l k n
structure RecOk (l : List WRec) (k : Nat) (r : WRec) : Prop where
 kind : r.kind = 1 ∨ r.kind = 2 ∨ r.kind = 3 ∨ r.kind = 4
 day : dayB l k ≤ r.day ∧ r.day ≤ 100000
 num : 1 ≤ r.num ∧ r.num ≤ 99999
 made : r.kind = 1 → nameB r.by_ = true ∧ r.new = 0 ∧ metP (l.take k) r.num = false
 mend : r.kind = 2 → nameB r.by_ = true ∧ r.new = 0 ∧ usedP l r.num k = true
 again : r.kind = 3 → r.by_.size = 0 ∧ (1 ≤ r.new ∧ r.new ≤ 99999) ∧ r.new ≠ r.num ∧ metP (l.take k) r.new = false ∧ usedP l r.num k = true
 lost : r.kind = 4 → r.by_.size = 0 ∧ r.new = 0 ∧ usedP l r.num k = true
theorem inW_iff {n a b : Int} : inW n a b = true ↔ a ≤ n ∧ n ≤ b := by unfold inW; simp
theorem recP_ok {l : List WRec} {k : Nat} {d : Int} {r : WRec} (hd : d = dayB l k) (h : recP l k d r = true) : RecOk l k r := by
 subst hd
 unfold recP kindP at h
 simp only [Bool.and_eq_true, inW_iff] at h
 obtain ⟨h1, h2, h3, h4⟩ := h
 have hk : r.kind = 1 ∨ r.kind = 2 ∨ r.kind = 3 ∨ r.kind = 4 := by omega
 refine ⟨hk, h2, h3, fun e => ?_, fun e => ?_, fun e => ?_, fun e => ?_⟩ <;> simpa [e, inW_iff] using h4
theorem ok_rec {l : List WRec} : ∀ {k : Nat}, okTo l k = true → ∀ {j : Nat} {r : WRec}, j < k → l[j]? = some r → RecOk l j r
 | 0, _, j, r, hj, _ => by omega
 | k + 1, h, j, r, hj, hr => by
  simp only [okTo, Bool.and_eq_true] at h
  rcases Nat.lt_or_ge j k with hlt | hge
  ·exact ok_rec h.1 hlt hr
  ·have : j = k := by omega
   subst this
   rw [hr] at h
   exact recP_ok rfl h.2
theorem ok_less {l : List WRec} : ∀ {k j : Nat}, okTo l k = true → j ≤ k → okTo l j = true
 | 0, j, h, hj => by rw [show j = 0 by omega]; rfl
 | k + 1, j, h, hj => by
  by_cases e : j = k + 1
  ·subst e; exact h
  ·simp only [okTo, Bool.and_eq_true] at h
   exact ok_less h.1 (by omega)
theorem ok_len {l : List WRec} : ∀ {k : Nat}, okTo l k = true → k ≤ l.length
 | 0, _ => Nat.zero_le _
 | k + 1, h => by
  simp only [okTo, Bool.and_eq_true] at h
  cases hr : l[k]? with
  | none => rw [hr] at h; exact absurd h.2 (by simp)
  | some r => have := (List.getElem?_eq_some_iff.1 hr).1; omega
theorem metP_iff {l : List WRec} {k : Nat} {n : Int} : metP (l.take k) n = true ↔ ∃ (j : Nat) (r : WRec), j < k ∧ l[j]? = some r ∧ (r.num = n ∨ r.new = n) := by
 unfold metP
 rw [List.any_eq_true]
 constructor
 ·rintro ⟨r, hr, h⟩
  obtain ⟨j, hj, e⟩ := List.getElem_of_mem hr
  rw [List.length_take] at hj
  rw [List.getElem_take] at e
  refine ⟨j, r, by omega, by rw [← e]; exact List.getElem?_eq_getElem (by omega), by simpa using h⟩
 ·rintro ⟨j, r, hj, hr, h⟩
  refine ⟨r, List.mem_of_getElem? (i := j) ?_, by simpa using h⟩
  rw [List.getElem?_take, if_pos hj]; exact hr
theorem cur_step {l : List WRec} {k : Nat} {r : WRec} (hr : l[k]? = some r) (n : Int) : cur l (k + 1) n = if r.kind = 1 ∧ r.num = n then some k else if r.kind = 3 ∧ r.new = n then cur l k r.num else if (r.kind = 3 ∨ r.kind = 4) ∧ r.num = n then none else cur l k n := by
 simp only [cur, hr]
theorem used_cur {l : List WRec} : ∀ {k : Nat}, okTo l k = true → ∀ {n : Int}, 1 ≤ n → usedP l n k = (cur l k n).isSome
 | 0, _, n, _ => rfl
 | k + 1, h, n, hn => by
  have hk := ok_less h (Nat.le_succ k)
  have hlen := ok_len h
  obtain ⟨r, hr⟩ : ∃ r, l[k]? = some r := ⟨_, List.getElem?_eq_getElem (by omega)⟩
  have ho := ok_rec h (Nat.lt_succ_self k) hr
  have ih := fun {m : Int} (hm : 1 ≤ m) => used_cur hk hm
  rw [cur_step hr]
  have e : usedP l n (k + 1) = if n == r.new then r.kind == 3 else if n == r.num then r.kind == 1 || r.kind == 2 else usedP l n k := by simp only [usedP, hr]
  rw [e]
  rcases ho.kind with hk1 | hk1 | hk1 | hk1
  ·have hm := ho.made hk1
   by_cases e2 : r.num = n
   ·have : ¬ n = r.new := by omega
    simp [hk1, e2, hm.2.1, this]
    omega
   ·have : ¬ n = 0 := by omega
    have e3 : ¬ n = r.num := fun e => e2 e.symm
    simp [hk1, e2, hm.2.1, this, e3, ih hn]
  ·have hm := ho.mend hk1
   have h0 : ¬ n = 0 := by omega
   by_cases e2 : n = r.num
   ·subst e2
    have := hm.2.2
    rw [ih hn] at this
    simp [hk1, hm.2.1, h0, this]
   ·simp [hk1, hm.2.1, h0, e2, ih hn]
  ·have hm := ho.again hk1
   by_cases e1 : n = r.new
   ·subst e1
    have := hm.2.2.2.2
    rw [ih ho.num.1] at this
    simp [hk1, this]
   ·have e1' : ¬ r.new = n := fun e => e1 e.symm
    by_cases e2 : n = r.num
    ·subst e2
     simp [hk1, e1, e1']
    ·have e2' : ¬ r.num = n := fun e => e2 e.symm
     simp [hk1, e1, e1', e2, e2', ih hn]
  ·have hm := ho.lost hk1
   have h0 : ¬ n = 0 := by omega
   by_cases e2 : n = r.num
   ·subst e2
    simp [hk1, hm.2.1, h0]
   ·have e2' : ¬ r.num = n := fun e => e2 e.symm
    simp [hk1, hm.2.1, h0, e2, e2', ih hn]
def gotR (n : Int) (r : WRec) : Bool := (r.kind == 1 && r.num == n) || (r.kind == 3 && r.new == n)
theorem gotR_iff {n : Int} {r : WRec} : gotR n r = true ↔ (r.kind = 1 ∧ r.num = n) ∨ (r.kind = 3 ∧ r.new = n) := by unfold gotR; simp
theorem got_fresh {l : List WRec} {k : Nat} {r : WRec} {n : Int} (ho : RecOk l k r) (h : gotR n r = true) : metP (l.take k) n = false := by
 rcases gotR_iff.1 h with ⟨h1, rfl⟩ | ⟨h1, rfl⟩
 ·exact (ho.made h1).2.2
 ·exact (ho.again h1).2.2.2.1
theorem got_uni {l : List WRec} {K j k : Nat} {r s : WRec} {n : Int} (h : okTo l K = true) (hj : j < K) (hk : k < K) (hr : l[j]? = some r) (hs : l[k]? = some s) (gr : gotR n r = true) (gs : gotR n s = true) : j = k := by
 have key : ∀ {j k : Nat} {r s : WRec}, j < k → k < K → l[j]? = some r → l[k]? = some s → gotR n r = true → gotR n s = true → False := by
  intro j k r s hjk hk hr hs gr gs
  have h1 := got_fresh (ok_rec h hk hs) gs
  have h2 : metP (l.take k) n = true := metP_iff.2 ⟨j, r, hjk, hr, by rcases gotR_iff.1 gr with h | h; exact .inl h.2; exact .inr h.2⟩
  rw [h1] at h2; cases h2
 rcases Nat.lt_trichotomy j k with h | h | h
 ·exact (key h hk hr hs gr gs).elim
 ·exact h
 ·exact (key h hj hs hr gs gr).elim
def goneR (n : Int) (r : WRec) : Bool := r.num == n && (r.kind == 3 || r.kind == 4)
theorem goneR_iff {n : Int} {r : WRec} : goneR n r = true ↔ r.num = n ∧ (r.kind = 3 ∨ r.kind = 4) := by unfold goneR; simp
theorem cur_got {l : List WRec} {j : Nat} {r : WRec} {n : Int} (hr : l[j]? = some r) (hg : gotR n r = true) : cur l (j + 1) n = if r.kind = 1 then some j else cur l j r.num := by
 rw [cur_step hr]
 rcases gotR_iff.1 hg with ⟨h1, h2⟩ | ⟨h1, h2⟩
 ·rw [if_pos ⟨h1, h2⟩, if_pos h1]
 ·rw [if_neg (by omega), if_pos ⟨h1, h2⟩, if_neg (by omega)]
theorem cur_from {l : List WRec} {K j : Nat} {r : WRec} {n : Int} (h : okTo l K = true) (hj : j < K) (hr : l[j]? = some r) (hg : gotR n r = true) : ∀ (k : Nat), j < k → k ≤ K → cur l k n = if (l.take k).any (goneR n) then none else cur l (j + 1) n := by
 intro k
 induction k with
 | zero => intro hk; omega
 | succ k ih =>
  intro hjk hkK
  have hlen := ok_len h
  obtain ⟨s, hs⟩ : ∃ s, l[k]? = some s := ⟨_, List.getElem?_eq_getElem (by omega)⟩
  have htk : l.take (k + 1) = l.take k ++ [s] := by rw [List.take_add_one, hs]; rfl
  rw [htk, List.any_append]
  by_cases e : j = k
  ·subst e
   rw [hr] at hs
   cases hs
   have h0 : (l.take j).any (goneR n) = false := by
    rw [List.any_eq_false]
    intro x hx hgx
    have hm := got_fresh (ok_rec h hj hr) hg
    have : metP (l.take j) n = true := by
     unfold metP; rw [List.any_eq_true]
     exact ⟨x, hx, by simp [(goneR_iff.1 hgx).1]⟩
    rw [hm] at this; cases this
   have h1 : goneR n r = false := by
    cases hh : goneR n r with
    | false => rfl
    | true =>
     rcases gotR_iff.1 hg with ⟨h1, h2⟩ | ⟨h1, h2⟩
     ·have := (goneR_iff.1 hh).2; omega
     ·have := (ok_rec h hj hr).again h1
      exact absurd ((goneR_iff.1 hh).1.trans h2.symm) (fun e => this.2.2.1 e.symm)
   simp [h0, h1]
  ·have ihk := ih (by omega) (by omega)
   have hng : gotR n s = false := by
    cases hh : gotR n s with
    | false => rfl
    | true => exact absurd (got_uni h hj (by omega) hr hs hg hh) e
   have hng' := mt gotR_iff.2 (by rw [hng]; decide)
   rw [cur_step hs, if_neg (fun e => hng' (.inl e)), if_neg (fun e => hng' (.inr e)), ihk]
   cases hgn : goneR n s with
   | true =>
    have := goneR_iff.1 hgn
    rw [if_pos ⟨this.2, this.1⟩]
    simp [hgn]
   | false =>
    have := mt goneR_iff.2 (by rw [hgn]; decide)
    rw [if_neg (fun e => this ⟨e.2, e.1⟩)]
    simp [hgn]
theorem cur_not {l : List WRec} {n : Int} : ∀ {k : Nat}, (∀ (j : Nat) (r : WRec), j < k → l[j]? = some r → gotR n r = false) → cur l k n = none
 | 0, _ => rfl
 | k + 1, h => by
  have ih := cur_not (l := l) (n := n) (k := k) (fun j r hj hr => h j r (by omega) hr)
  cases hr : l[k]? with
  | none => simp only [cur, hr]; exact ih
  | some r =>
   have hng' := mt gotR_iff.2 (by rw [h k r (by omega) hr]; decide)
   rw [cur_step hr, if_neg (fun e => hng' (.inl e)), if_neg (fun e => hng' (.inr e)), ih]
   split <;> rfl
theorem cur_has {l : List WRec} {k : Nat} {n : Int} {i : Nat} (h : cur l k n = some i) : ∃ (j : Nat) (r : WRec), j < k ∧ l[j]? = some r ∧ gotR n r = true := by
 apply Classical.byContradiction
 intro hn
 have := cur_not (l := l) (n := n) (k := k) (fun j r hj hr => by
  cases hg : gotR n r with
  | false => rfl
  | true => exact absurd ⟨j, r, hj, hr, hg⟩ hn)
 rw [this] at h; cases h
theorem cur_first {l : List WRec} {K k j : Nat} {r : WRec} {n : Int} {i : Nat} (h : okTo l K = true) (hk : k ≤ K) (hc : cur l k n = some i) (hj : j < K) (hr : l[j]? = some r) (hg : gotR n r = true) : j < k ∧ cur l (j + 1) n = some i := by
 obtain ⟨j', r', h1, h2, h3⟩ := cur_has hc
 have e := got_uni h hj (by omega) hr h2 hg h3
 subst e
 refine ⟨h1, ?_⟩
 rw [cur_from h hj hr hg k h1 hk] at hc
 split at hc
 ·cases hc
 ·exact hc
theorem cur_made {l : List WRec} : ∀ {k : Nat} {n : Int} {i : Nat}, cur l k n = some i → ∃ r, l[i]? = some r ∧ r.kind = 1
 | 0, n, i, h => by cases h
 | k + 1, n, i, h => by
  cases hr : l[k]? with
  | none => simp only [cur, hr] at h; exact cur_made h
  | some r =>
   rw [cur_step hr] at h
   split at h
   ·rename_i hc; cases h; exact ⟨r, hr, hc.1⟩
   ·split at h
    ·exact cur_made h
    ·split at h
     ·cases h
     ·exact cur_made h
def upTo (l : List WRec) (d : Int) : Nat → Nat
 | 0 => 0
 | k + 1 => match l[k]? with | some r => if r.day ≤ d then k + 1 else upTo l d k | none => upTo l d k
theorem day_mono {l : List WRec} {K : Nat} (h : okTo l K = true) : ∀ {k j : Nat} {r s : WRec}, j ≤ k → k < K → l[j]? = some r → l[k]? = some s → r.day ≤ s.day
 | 0, j, r, s, hj, hk, hr, hs => by
  have : j = 0 := by omega
  subst this; rw [hr] at hs; cases hs; exact Int.le_refl _
 | k + 1, j, r, s, hj, hk, hr, hs => by
  by_cases e : j = k + 1
  ·subst e; rw [hr] at hs; cases hs; exact Int.le_refl _
  ·have hlen := ok_len h
   obtain ⟨t, ht⟩ : ∃ t, l[k]? = some t := ⟨_, List.getElem?_eq_getElem (by omega)⟩
   have h1 := day_mono h (show j ≤ k by omega) (by omega) hr ht
   have h2 := (ok_rec h hk hs).day.1
   simp only [dayB, ht] at h2
   omega
theorem upTo_le {l : List WRec} {d : Int} : ∀ {k : Nat}, upTo l d k ≤ k
 | 0 => Nat.le_refl _
 | k + 1 => by
  unfold upTo
  split
  ·split
   ·exact Nat.le_refl _
   ·exact Nat.le_succ_of_le upTo_le
  ·exact Nat.le_succ_of_le upTo_le
theorem upTo_iff {l : List WRec} {d : Int} {K : Nat} (h : okTo l K = true) : ∀ {k j : Nat} {r : WRec}, k ≤ K → j < k → l[j]? = some r → (r.day ≤ d ↔ j < upTo l d k)
 | 0, j, r, _, hj, _ => by omega
 | k + 1, j, r, hk, hj, hr => by
  have hlen := ok_len h
  obtain ⟨s, hs⟩ : ∃ s, l[k]? = some s := ⟨_, List.getElem?_eq_getElem (by omega)⟩
  have hm := day_mono h (show j ≤ k by omega) (by omega) hr hs
  have e : upTo l d (k + 1) = if s.day ≤ d then k + 1 else upTo l d k := by simp only [upTo, hs]
  rw [e]
  split
  ·exact ⟨fun _ => hj, fun _ => by omega⟩
  ·by_cases e2 : j = k
   ·subst e2
    rw [hr] at hs; cases hs
    have := upTo_le (l := l) (d := d) (k := j)
    exact ⟨fun h => by omega, fun h => by omega⟩
   ·exact upTo_iff h (by omega) (by omega) hr
end Go.Ow

namespace Go.Ow
open Go Go.Pm
def bearN (l : List WRec) (n d : Int) : Option Nat := cur l (upTo l d l.length) n
def marksK (l : List WRec) (i : Nat) (d : Int) : Nat → List ByteArray
 | 0 => []
 | k + 1 => marksK l i d k ++ (match l[k]? with
  | some r => if r.kind = 2 ∧ r.day ≤ d ∧ cur l k r.num = some i then [r.by_] else []
  | none => [])
theorem marksK_succ {l : List WRec} {i k : Nat} {d : Int} {r : WRec} (hr : l[k]? = some r) : marksK l i d (k + 1) = marksK l i d k ++ if r.kind = 2 ∧ r.day ≤ d ∧ cur l k r.num = some i then [r.by_] else [] := by simp only [marksK, hr]
theorem marksK_len {l : List WRec} {i : Nat} {d : Int} : ∀ {k : Nat}, (marksK l i d k).length ≤ k
 | 0 => Nat.le_refl _
 | k + 1 => by
  have := marksK_len (l := l) (i := i) (d := d) (k := k)
  unfold marksK
  rw [List.length_append]
  split
  ·split
   ·simp only [List.length_cons, List.length_nil]; omega
   ·simp only [List.length_nil]; omega
  ·simp only [List.length_nil]; omega
def gotN (l : List WRec) (n : Int) : Option Nat := l.findIdx? (gotR n)
theorem gotN_some {l : List WRec} {n : Int} {j : Nat} (h : gotN l n = some j) : ∃ r, l[j]? = some r ∧ gotR n r = true := by
 unfold gotN at h
 rw [List.findIdx?_eq_some_iff_getElem] at h
 obtain ⟨hj, hg, _⟩ := h
 exact ⟨_, List.getElem?_eq_getElem hj, hg⟩
theorem gotN_of {l : List WRec} {n : Int} {j : Nat} {r : WRec} (h : okTo l l.length = true) (hr : l[j]? = some r) (hg : gotR n r = true) : gotN l n = some j := by
 cases hn : gotN l n with
 | none =>
  unfold gotN at hn
  rw [List.findIdx?_eq_none_iff] at hn
  rw [hn r (List.mem_of_getElem? hr)] at hg; cases hg
 | some j' =>
  obtain ⟨r', h1, h2⟩ := gotN_some hn
  rw [got_uni h (List.getElem?_eq_some_iff.1 h1).1 (List.getElem?_eq_some_iff.1 hr).1 h1 hr h2 hg]
theorem gotN_none {l : List WRec} {n : Int} (h : gotN l n = none) {k : Nat} : cur l k n = none := by
 unfold gotN at h
 rw [List.findIdx?_eq_none_iff] at h
 exact cur_not fun j r _ hr => h r (List.mem_of_getElem? hr)
theorem got_born {l : List WRec} {j : Nat} {r : WRec} {n : Int} (h : okTo l l.length = true) (hr : l[j]? = some r) (hg : gotR n r = true) : ∃ i, cur l (j + 1) n = some i := by
 rw [cur_got hr hg]
 split
 ·exact ⟨j, rfl⟩
 ·rename_i hk
  have hj := (List.getElem?_eq_some_iff.1 hr).1
  have ho := ok_rec h hj hr
  have hu := (ho.again (by rcases gotR_iff.1 hg with h | h; exact absurd h.1 hk; exact h.1)).2.2.2.2
  rw [used_cur (ok_less h (by omega)) ho.num.1] at hu
  exact Option.isSome_iff_exists.1 hu
theorem got_back {l : List WRec} {j : Nat} {r : WRec} {n : Int} {i : Nat} (h : okTo l l.length = true) (hr : l[j]? = some r) (hg : gotR n r = true) (hk : r.kind = 3) (hc : cur l (j + 1) n = some i) :
  ∃ (j' : Nat) (r' : WRec), gotN l r.num = some j' ∧ j' < j ∧ l[j']? = some r' ∧ gotR r.num r' = true ∧ cur l (j' + 1) r.num = some i := by
 have hj := (List.getElem?_eq_some_iff.1 hr).1
 rw [cur_got hr hg, if_neg (by omega)] at hc
 obtain ⟨j', r', h1, h2, h3⟩ := cur_has hc
 have := cur_first h (Nat.le_of_lt hj) hc (by omega) h2 h3
 exact ⟨j', r', gotN_of h h2 h3, h1, h2, h3, this.2⟩
theorem got_end {l : List WRec} {j : Nat} {r : WRec} {n : Int} {i : Nat} (hr : l[j]? = some r) (hg : gotR n r = true) (hk : ¬ r.kind = 3) (hc : cur l (j + 1) n = some i) : i = j := by
 rw [cur_got hr hg, if_pos (by rcases gotR_iff.1 hg with h | h; exact h.1; exact absurd h.1 hk)] at hc
 cases hc; rfl
theorem bearN_none {l : List WRec} {n d : Int} (h : gotN l n = none) : bearN l n d = none := gotN_none h
theorem bearN_late {l : List WRec} {n d : Int} {j : Nat} {r : WRec} (h : okTo l l.length = true) (hj : gotN l n = some j) (hr : l[j]? = some r) (hd : d < r.day) : bearN l n d = none := by
 obtain ⟨r', h1, h2⟩ := gotN_some hj
 rw [hr] at h1; cases h1
 cases hc : bearN l n d with
 | none => rfl
 | some i =>
  have hjl := (List.getElem?_eq_some_iff.1 hr).1
  have := (cur_first h upTo_le hc hjl hr h2).1
  have := (upTo_iff (d := d) h (Nat.le_refl _) hjl hr).2 this
  omega
def goneD (n d : Int) (r : WRec) : Bool := r.num == n && (decide (r.day ≤ d) && (r.kind == 3 || r.kind == 4))
theorem gone_any {l : List WRec} {n d : Int} (h : okTo l l.length = true) : l.any (goneD n d) = (l.take (upTo l d l.length)).any (goneR n) := by
 rw [Bool.eq_iff_iff, List.any_eq_true, List.any_eq_true]
 constructor
 ·rintro ⟨r, hr, hg⟩
  obtain ⟨j, hj, rfl⟩ := List.getElem_of_mem hr
  unfold goneD at hg
  simp only [Bool.and_eq_true, decide_eq_true_eq] at hg
  have := (upTo_iff (d := d) h (Nat.le_refl _) hj (List.getElem?_eq_getElem hj)).1 hg.2.1
  refine ⟨l[j], List.mem_of_getElem? (i := j) ?_, by unfold goneR; rw [hg.1, hg.2.2]; rfl⟩
  rw [List.getElem?_take, if_pos this]; exact List.getElem?_eq_getElem hj
 ·rintro ⟨r, hr, hg⟩
  obtain ⟨j, hj, e⟩ := List.getElem_of_mem hr
  rw [List.length_take] at hj
  rw [List.getElem_take] at e
  have := (upTo_iff (d := d) h (Nat.le_refl _) (show j < l.length by omega) (List.getElem?_eq_getElem (by omega))).2 (by omega)
  refine ⟨r, by rw [← e]; exact List.getElem_mem _, ?_⟩
  unfold goneD goneR at *
  simp only [Bool.and_eq_true, decide_eq_true_eq] at hg ⊢
  exact ⟨hg.1, by rw [← e]; exact this, hg.2⟩
theorem bearN_gone {l : List WRec} {n d : Int} {j : Nat} {r : WRec} (h : okTo l l.length = true) (hj : gotN l n = some j) (hr : l[j]? = some r) (hd : r.day ≤ d) : bearN l n d = if l.any (goneD n d) then none else cur l (j + 1) n := by
 obtain ⟨r', h1, h2⟩ := gotN_some hj
 rw [hr] at h1; cases h1
 have hjl := (List.getElem?_eq_some_iff.1 hr).1
 have hlt := (upTo_iff (d := d) h (Nat.le_refl _) hjl hr).1 hd
 rw [gone_any h]
 exact cur_from h hjl hr h2 _ hlt upTo_le
def Brn (l : List WRec) (i : Nat) (d : Int) (k : Nat) (b : Int) : Prop := ∀ n, 1 ≤ n → (cur l (min k (upTo l d l.length)) n = some i ↔ b = n)
structure Fol (l : List WRec) (i : Nat) (d : Int) (k : Nat) (now b : Int) (m : List ByteArray) : Prop where
 le : k ≤ l.length
 pos : 1 ≤ now
 is : cur l k now = some i
 brn : Brn l i d k b
 marks : m = marksK l i d k
section
variable {l : List WRec} {i k : Nat} {d : Int} {now b : Int} {m : List ByteArray} {r : WRec}
end
end Go.Ow

namespace Go.Ow
open Go Go.Pm
end Go.Ow

namespace Go.Proofs.YtdkboibnokipaaaDoor
open Go.RowKit Go.Pm Go.Ow
noncomputable def wkIsName : List TV → Option TV
 | [.str s] => some (.bool (nameB s))
 | _ => none
theorem wkIsName_ok : ∀ xs r, wkIsName xs = some r → PCalls Tryd.prog 74 xs r := by
 intro xs r h
 unfold wkIsName at h
 split at h
 ·cases h; exact wIsName_c _
 ·cases h
attribute [go_sem] wkIsName
noncomputable def spWf (l : List WRec) (f : Bool) (k : Nat) (n : Int) : Pm.Spec := ((((spWa.one 68 wkIsNumber).one 74 wkIsName).one 166 (oneP [.sl (recL l) l.length f, .int .i64 n, .int .i64 k] (.bool (metP (l.take k) n)))).one 167 (oneP [.sl (recL l) l.length f, .int .i64 n, .int .i64 k] (.bool (usedP l n k)))).gdt
theorem spWf_ok {l : List WRec} {f : Bool} {k : Nat} (n : Int) (hk : k ≤ l.length) (hl : l.length ≤ 40) : SpecOk Tryd.prog (spWf l f k n) := Spec.gdt_ok (Spec.one_ok (oneP_ok (wUsed_c l f n k hk (by omega))) (Spec.one_ok (oneP_ok (wMet_c l f n k hk (by omega))) (Spec.one_ok wkIsName_ok (Spec.one_ok wkIsNumber_ok spWa_ok))))
theorem emptyB (s : ByteArray) : (s.toList == ByteArray.toList (ByteArray.mk #[])) = decide (s.size = 0) := by
 rw [ByteArray.toList_eq, ByteArray.toList_eq, Bool.eq_iff_iff, beq_iff_eq, decide_eq_true_eq]
 constructor
 ·intro e
  have := congrArg List.length e
  rw [Array.length_toList] at this
  exact this
 ·intro e
  exact List.eq_nil_of_length_eq_zero (by rw [Array.length_toList]; exact e)
section
variable {l : List WRec} (f : Bool) {k : Nat} {r : WRec} (hr : l[k]? = some r) (hl : l.length ≤ 40)
include hr hl
theorem wMade_c : PCalls Tryd.prog 163 [.sl (recL l) l.length f, .int .i64 k] (.bool (nameB r.by_ && (r.new == 0 && !metP (l.take k) r.num))) := by
 have hk := (List.getElem?_eq_some_iff.1 hr).1
 refine pcalls_by Tryd.mixes (spWf_ok (f := f) r.num (Nat.le_of_lt hk) hl) (fn := Tryd.f163) Tryd.func163 rfl (by kernel_rfl) (by show 2 ≤ _; decide) ?_
 have hlt : (k : Int) < l.length := by omega
 have d1 := recL_at hr
 cases c1 : nameB r.by_ with
 | false => simp +decide (maxSteps := 4000000) only [go_sem, Tryd.f163, spWf, hlt, d1, recT, c1]
 | true =>
  cases c2 : (r.new == 0) with
  | false => simp +decide (maxSteps := 4000000) only [go_sem, Tryd.f163, spWf, hlt, d1, recT, c1, c2]
  | true => simp +decide (maxSteps := 4000000) only [go_sem, Tryd.f163, spWf, hlt, d1, recT, c1, c2]
theorem wMended_c : PCalls Tryd.prog 164 [.sl (recL l) l.length f, .int .i64 k] (.bool (nameB r.by_ && (r.new == 0 && usedP l r.num k))) := by
 have hk := (List.getElem?_eq_some_iff.1 hr).1
 refine pcalls_by Tryd.mixes (spWf_ok (f := f) r.num (Nat.le_of_lt hk) hl) (fn := Tryd.f164) Tryd.func164 rfl (by kernel_rfl) (by show 2 ≤ _; decide) ?_
 have hlt : (k : Int) < l.length := by omega
 have d1 := recL_at hr
 cases c1 : nameB r.by_ with
 | false => simp +decide (maxSteps := 4000000) only [go_sem, Tryd.f164, spWf, hlt, d1, recT, c1]
 | true =>
  cases c2 : (r.new == 0) with
  | false => simp +decide (maxSteps := 4000000) only [go_sem, Tryd.f164, spWf, hlt, d1, recT, c1, c2]
  | true => simp +decide (maxSteps := 4000000) only [go_sem, Tryd.f164, spWf, hlt, d1, recT, c1, c2]
theorem wLost_c : PCalls Tryd.prog 165 [.sl (recL l) l.length f, .int .i64 k] (.bool (decide (r.by_.size = 0) && (r.new == 0 && usedP l r.num k))) := by
 have hk := (List.getElem?_eq_some_iff.1 hr).1
 refine pcalls_by Tryd.mixes (spWf_ok (f := f) r.num (Nat.le_of_lt hk) hl) (fn := Tryd.f165) Tryd.func165 rfl (by kernel_rfl) (by show 2 ≤ _; decide) ?_
 have hlt : (k : Int) < l.length := by omega
 have d1 := recL_at hr
 have e := emptyB r.by_
 cases c1 : decide (r.by_.size = 0) with
 | false =>
  rw [c1] at e
  simp +decide (maxSteps := 4000000) only [go_sem, Tryd.f165, spWf, hlt, d1, recT, e]
 | true =>
  rw [c1] at e
  cases c2 : (r.new == 0) with
  | false => simp +decide (maxSteps := 4000000) only [go_sem, Tryd.f165, spWf, hlt, d1, recT, e, c2]
  | true => simp +decide (maxSteps := 4000000) only [go_sem, Tryd.f165, spWf, hlt, d1, recT, e, c2]
end
noncomputable def spWg (l : List WRec) (f : Bool) (k : Nat) (n m : Int) : Pm.Spec := (((spWa.one 68 wkIsNumber).one 166 (oneP [.sl (recL l) l.length f, .int .i64 n, .int .i64 k] (.bool (metP (l.take k) n)))).one 167 (oneP [.sl (recL l) l.length f, .int .i64 m, .int .i64 k] (.bool (usedP l m k)))).gdt
theorem spWg_ok {l : List WRec} {f : Bool} {k : Nat} (n m : Int) (hk : k ≤ l.length) (hl : l.length ≤ 40) : SpecOk Tryd.prog (spWg l f k n m) := Spec.gdt_ok (Spec.one_ok (oneP_ok (wUsed_c l f m k hk (by omega))) (Spec.one_ok (oneP_ok (wMet_c l f n k hk (by omega))) (Spec.one_ok wkIsNumber_ok spWa_ok)))
theorem wAgain_c {l : List WRec} (f : Bool) {k : Nat} {r : WRec} (hr : l[k]? = some r) (hl : l.length ≤ 40) : PCalls Tryd.prog 160 [.sl (recL l) l.length f, .int .i64 k] (.bool (decide (r.by_.size = 0) && (inW r.new 1 99999 && (r.new != r.num && (!metP (l.take k) r.new && usedP l r.num k))))) := by
 have hk := (List.getElem?_eq_some_iff.1 hr).1
 refine pcalls_by Tryd.mixes (spWg_ok (f := f) r.new r.num (Nat.le_of_lt hk) hl) (fn := Tryd.f160) Tryd.func160 rfl (by kernel_rfl) (by show 2 ≤ _; decide) ?_
 have hlt : (k : Int) < l.length := by omega
 have d1 := recL_at hr
 have e := emptyB r.by_
 cases c1 : decide (r.by_.size = 0) with
 | false =>
  rw [c1] at e
  simp +decide -implicitDefEqProofs (maxSteps := 4000000) only [go_sem, Tryd.f160, spWg, hlt, d1, recT, e]
 | true =>
  rw [c1] at e
  cases c2 : inW r.new 1 99999 with
  | false => simp +decide -implicitDefEqProofs (maxSteps := 4000000) only [go_sem, Tryd.f160, spWg, hlt, d1, recT, e, c2]
  | true =>
   cases c3 : (r.new != r.num) with
   | false => simp +decide -implicitDefEqProofs (maxSteps := 4000000) only [go_sem, Tryd.f160, spWg, hlt, d1, recT, e, c2, c3]
   | true =>
    cases c4 : metP (l.take k) r.new with
    | true => simp +decide -implicitDefEqProofs (maxSteps := 4000000) only [go_sem, Tryd.f160, spWg, hlt, d1, recT, e, c2, c3, c4]
    | false => simp +decide -implicitDefEqProofs (maxSteps := 4000000) only [go_sem, Tryd.f160, spWg, hlt, d1, recT, e, c2, c3, c4]
end Go.Proofs.YtdkboibnokipaaaDoor
