/- What the claim leans on, text 4. -/
import Derived.Test.YtlonlnfenbadbaaDoorRows
import Derived.Test.YtlonlnfenbadbaaDoorTie
import Derived.Test.YtlonlnfenbadbaaDoorCards
import Derived.LaidMore
import Derived.SevenTiedAt
import Derived.Test.YtlonlnfenbadbaaDoorC3
set_option linter.unusedSimpArgs false
set_option linter.unusedVariables false

/- Part Ty. -/
namespace Go.Proofs.YtlonlnfenbadbaaDoor
open Go.Pm
@[go_sem] theorem Tryd.agg2 : aggO Tryd.prog 2 = some false := by kernel_rfl
@[go_sem] theorem Tryd.pln2 : plainO Tryd.prog 2 = some true := by kernel_rfl
@[go_sem] theorem Tryd.sz2 : szO Tryd.prog 2 = some 1 := by kernel_rfl
@[go_sem] theorem Tryd.zero2 : zeroL Tryd.prog 2 = some [.int .i64 0] := by kernel_rfl
@[go_sem] theorem Tryd.small2 : smallO Tryd.prog 2 = some (1, 8) := by kernel_rfl
@[go_sem] theorem Tryd.zt2 : zeroT Tryd.prog 2 = some (.int .i64 0) := by kernel_rfl
@[go_sem] theorem Tryd.knd2 : kindO Tryd.prog 2 = some .i64 := by kernel_rfl
@[go_sem] theorem Tryd.und2 : Program.underlying Tryd.prog 2 = some (.int .i64) := by kernel_rfl
@[go_sem] theorem Tryd.agg3 : aggO Tryd.prog 3 = some false := by kernel_rfl
@[go_sem] theorem Tryd.pln3 : plainO Tryd.prog 3 = some true := by kernel_rfl
@[go_sem] theorem Tryd.sz3 : szO Tryd.prog 3 = some 1 := by kernel_rfl
@[go_sem] theorem Tryd.zero3 : zeroL Tryd.prog 3 = some [.int .i64 0] := by kernel_rfl
@[go_sem] theorem Tryd.small3 : smallO Tryd.prog 3 = some (1, 8) := by kernel_rfl
@[go_sem] theorem Tryd.zt3 : zeroT Tryd.prog 3 = some (.int .i64 0) := by kernel_rfl
@[go_sem] theorem Tryd.knd3 : kindO Tryd.prog 3 = some .i64 := by kernel_rfl
@[go_sem] theorem Tryd.und3 : Program.underlying Tryd.prog 3 = some (.int .i64) := by kernel_rfl
@[go_sem] theorem Tryd.agg4 : aggO Tryd.prog 4 = some false := by kernel_rfl
@[go_sem] theorem Tryd.pln4 : plainO Tryd.prog 4 = some true := by kernel_rfl
@[go_sem] theorem Tryd.sz4 : szO Tryd.prog 4 = some 1 := by kernel_rfl
@[go_sem] theorem Tryd.zero4 : zeroL Tryd.prog 4 = some [.bool false] := by kernel_rfl
@[go_sem] theorem Tryd.small4 : smallO Tryd.prog 4 = some (1, 1) := by kernel_rfl
@[go_sem] theorem Tryd.zt4 : zeroT Tryd.prog 4 = some (.bool false) := by kernel_rfl
@[go_sem] theorem Tryd.eq4 (a b : Bool) : eqT Tryd.prog 20 4 (.bool a) (.bool b) = some (a == b) := by kernel_rfl
@[go_sem] theorem Tryd.und4 : Program.underlying Tryd.prog 4 = some .bool := by kernel_rfl
@[go_sem] theorem Tryd.agg5 : aggO Tryd.prog 5 = some false := by kernel_rfl
@[go_sem] theorem Tryd.pln5 : plainO Tryd.prog 5 = some true := by kernel_rfl
@[go_sem] theorem Tryd.sz5 : szO Tryd.prog 5 = some 1 := by kernel_rfl
@[go_sem] theorem Tryd.zero5 : zeroL Tryd.prog 5 = some [.int .u8 0] := by kernel_rfl
@[go_sem] theorem Tryd.small5 : smallO Tryd.prog 5 = some (1, 1) := by kernel_rfl
@[go_sem] theorem Tryd.zt5 : zeroT Tryd.prog 5 = some (.int .u8 0) := by kernel_rfl
@[go_sem] theorem Tryd.knd5 : kindO Tryd.prog 5 = some .u8 := by kernel_rfl
@[go_sem] theorem Tryd.und5 : Program.underlying Tryd.prog 5 = some (.int .u8) := by kernel_rfl
@[go_sem] theorem Tryd.agg7 : aggO Tryd.prog 7 = some true := by kernel_rfl
@[go_sem] theorem Tryd.pln7 : plainO Tryd.prog 7 = some true := by kernel_rfl
@[go_sem] theorem Tryd.sz7 : szO Tryd.prog 7 = some 4 := by kernel_rfl
@[go_sem] theorem Tryd.zero7 : zeroL Tryd.prog 7 = some [.int .i64 0, .int .i64 0, .bool false, .int .u8 0] := by kernel_rfl
@[go_sem] theorem Tryd.small7 : smallO Tryd.prog 7 = some (4, 24) := by kernel_rfl
@[go_sem] theorem Tryd.zt7 : zeroT Tryd.prog 7 = some (.agg [.int .i64 0, .int .i64 0, .bool false, .int .u8 0]) := by kernel_rfl
@[go_sem] theorem Tryd.fld7_0 : fieldO Tryd.prog 7 0 = some (0, 2) := by kernel_rfl
@[go_sem] theorem Tryd.fld7_1 : fieldO Tryd.prog 7 1 = some (1, 3) := by kernel_rfl
@[go_sem] theorem Tryd.fld7_2 : fieldO Tryd.prog 7 2 = some (2, 4) := by kernel_rfl
@[go_sem] theorem Tryd.fld7_3 : fieldO Tryd.prog 7 3 = some (3, 6) := by kernel_rfl
@[go_sem] theorem Tryd.bld7 (parts : List (Nat × TV)) : buildO Tryd.prog 7 parts = (fillT (fun i => ([(0, 1), (1, 1), (2, 1), (3, 1)] : List (Nat × Nat))[i]?) [.int .i64 0, .int .i64 0, .bool false, .int .u8 0] parts).map .agg := by kernel_rfl
@[go_sem] theorem Tryd.eqg7 : Program.eqGuardType Tryd.prog (Program.depth Tryd.prog) 7 = false := by kernel_rfl
@[go_sem] theorem Tryd.agg9 : aggO Tryd.prog 9 = some false := by kernel_rfl
@[go_sem] theorem Tryd.pln9 : plainO Tryd.prog 9 = some true := by kernel_rfl
@[go_sem] theorem Tryd.sz9 : szO Tryd.prog 9 = some 1 := by kernel_rfl
@[go_sem] theorem Tryd.zero9 : zeroL Tryd.prog 9 = some [.str ⟨#[]⟩] := by kernel_rfl
@[go_sem] theorem Tryd.small9 : smallO Tryd.prog 9 = some (1, 16) := by kernel_rfl
@[go_sem] theorem Tryd.zt9 : zeroT Tryd.prog 9 = some (.str ⟨#[]⟩) := by kernel_rfl
@[go_sem] theorem Tryd.eq9 (a b : ByteArray) : eqT Tryd.prog 20 9 (.str a) (.str b) = some (a.toList == b.toList) := by kernel_rfl
@[go_sem] theorem Tryd.und9 : Program.underlying Tryd.prog 9 = some .string := by kernel_rfl
@[go_sem] theorem Tryd.agg12 : aggO Tryd.prog 12 = some false := by kernel_rfl
@[go_sem] theorem Tryd.pln12 : plainO Tryd.prog 12 = some true := by kernel_rfl
@[go_sem] theorem Tryd.sz12 : szO Tryd.prog 12 = some 1 := by kernel_rfl
@[go_sem] theorem Tryd.zero12 : zeroL Tryd.prog 12 = some [.int .u64 0] := by kernel_rfl
@[go_sem] theorem Tryd.small12 : smallO Tryd.prog 12 = some (1, 8) := by kernel_rfl
@[go_sem] theorem Tryd.zt12 : zeroT Tryd.prog 12 = some (.int .u64 0) := by kernel_rfl
@[go_sem] theorem Tryd.knd12 : kindO Tryd.prog 12 = some .u64 := by kernel_rfl
@[go_sem] theorem Tryd.und12 : Program.underlying Tryd.prog 12 = some (.int .u64) := by kernel_rfl
@[go_sem] theorem Tryd.agg13 : aggO Tryd.prog 13 = some true := by kernel_rfl
@[go_sem] theorem Tryd.pln13 : plainO Tryd.prog 13 = some true := by kernel_rfl
@[go_sem] theorem Tryd.sz13 : szO Tryd.prog 13 = some 2 := by kernel_rfl
@[go_sem] theorem Tryd.zero13 : zeroL Tryd.prog 13 = some [.str ⟨#[]⟩, .int .u64 0] := by kernel_rfl
@[go_sem] theorem Tryd.small13 : smallO Tryd.prog 13 = some (2, 24) := by kernel_rfl
@[go_sem] theorem Tryd.zt13 : zeroT Tryd.prog 13 = some (.agg [.str ⟨#[]⟩, .int .u64 0]) := by kernel_rfl
@[go_sem] theorem Tryd.fld13_0 : fieldO Tryd.prog 13 0 = some (0, 9) := by kernel_rfl
@[go_sem] theorem Tryd.fld13_1 : fieldO Tryd.prog 13 1 = some (1, 12) := by kernel_rfl
@[go_sem] theorem Tryd.bld13 (parts : List (Nat × TV)) : buildO Tryd.prog 13 parts = (fillT (fun i => ([(0, 1), (1, 1)] : List (Nat × Nat))[i]?) [.str ⟨#[]⟩, .int .u64 0] parts).map .agg := by kernel_rfl
@[go_sem] theorem Tryd.eqg13 : Program.eqGuardType Tryd.prog (Program.depth Tryd.prog) 13 = false := by kernel_rfl
@[go_sem] theorem Tryd.agg15 : aggO Tryd.prog 15 = some false := by kernel_rfl
@[go_sem] theorem Tryd.pln15 : plainO Tryd.prog 15 = some true := by kernel_rfl
@[go_sem] theorem Tryd.sz15 : szO Tryd.prog 15 = some 1 := by kernel_rfl
@[go_sem] theorem Tryd.zero15 : zeroL Tryd.prog 15 = some [.nilPtr] := by kernel_rfl
@[go_sem] theorem Tryd.small15 : smallO Tryd.prog 15 = some (1, 8) := by kernel_rfl
@[go_sem] theorem Tryd.zt15 : zeroT Tryd.prog 15 = some (.nilPtr) := by kernel_rfl
@[go_sem] theorem Tryd.agg17 : aggO Tryd.prog 17 = some false := by kernel_rfl
@[go_sem] theorem Tryd.pln17 : plainO Tryd.prog 17 = some true := by kernel_rfl
@[go_sem] theorem Tryd.sz17 : szO Tryd.prog 17 = some 1 := by kernel_rfl
@[go_sem] theorem Tryd.zero17 : zeroL Tryd.prog 17 = some [.nilPtr] := by kernel_rfl
@[go_sem] theorem Tryd.small17 : smallO Tryd.prog 17 = some (1, 8) := by kernel_rfl
@[go_sem] theorem Tryd.zt17 : zeroT Tryd.prog 17 = some (.nilPtr) := by kernel_rfl
@[go_sem] theorem Tryd.agg18 : aggO Tryd.prog 18 = some true := by kernel_rfl
@[go_sem] theorem Tryd.pln18 : plainO Tryd.prog 18 = some true := by kernel_rfl
@[go_sem] theorem Tryd.sz18 : szO Tryd.prog 18 = some 1 := by kernel_rfl
@[go_sem] theorem Tryd.zero18 : zeroL Tryd.prog 18 = some [.nilPtr] := by kernel_rfl
@[go_sem] theorem Tryd.small18 : smallO Tryd.prog 18 = some (1, 8) := by kernel_rfl
@[go_sem] theorem Tryd.zt18 : zeroT Tryd.prog 18 = some (.agg [.nilPtr]) := by kernel_rfl
@[go_sem] theorem Tryd.fld18_0 : fieldO Tryd.prog 18 0 = some (0, 17) := by kernel_rfl
@[go_sem] theorem Tryd.bld18 (parts : List (Nat × TV)) : buildO Tryd.prog 18 parts = (fillT (fun i => ([(0, 1)] : List (Nat × Nat))[i]?) [.nilPtr] parts).map .agg := by kernel_rfl
@[go_sem] theorem Tryd.bldp18 (parts : List (Nat × PV)) : buildP Tryd.prog 18 parts = fillP (fun i => ([(0, 1)] : List (Nat × Nat))[i]?) [.t (.nilPtr)] parts := by kernel_rfl
@[go_sem] theorem Tryd.eqg18 : Program.eqGuardType Tryd.prog (Program.depth Tryd.prog) 18 = false := by kernel_rfl
@[go_sem] theorem Tryd.agg20 : aggO Tryd.prog 20 = some false := by kernel_rfl
@[go_sem] theorem Tryd.pln20 : plainO Tryd.prog 20 = some false := by kernel_rfl
@[go_sem] theorem Tryd.sz20 : szO Tryd.prog 20 = some 1 := by kernel_rfl
@[go_sem] theorem Tryd.zero20 : zeroL Tryd.prog 20 = some [.nilIf] := by kernel_rfl
@[go_sem] theorem Tryd.small20 : smallO Tryd.prog 20 = some (1, 16) := by kernel_rfl
@[go_sem] theorem Tryd.zt20 : zeroT Tryd.prog 20 = some (.nilIf) := by kernel_rfl
@[go_sem] theorem Tryd.agg22 : aggO Tryd.prog 22 = some false := by kernel_rfl
@[go_sem] theorem Tryd.pln22 : plainO Tryd.prog 22 = some true := by kernel_rfl
@[go_sem] theorem Tryd.sz22 : szO Tryd.prog 22 = some 1 := by kernel_rfl
@[go_sem] theorem Tryd.zero22 : zeroL Tryd.prog 22 = some [.nilSl] := by kernel_rfl
@[go_sem] theorem Tryd.small22 : smallO Tryd.prog 22 = some (1, 24) := by kernel_rfl
@[go_sem] theorem Tryd.zt22 : zeroT Tryd.prog 22 = some (.nilSl) := by kernel_rfl
@[go_sem] theorem Tryd.eqn22 : eqT Tryd.prog 20 22 .nilSl .nilSl = some true := by kernel_rfl
@[go_sem] theorem Tryd.eqs22 (cs : List TV) (n : Nat) (f : Bool) : eqT Tryd.prog 20 22 (.sl cs n f) .nilSl = some false := by kernel_rfl
@[go_sem] theorem Tryd.eqt22 (cs : List TV) (n : Nat) (f : Bool) : eqT Tryd.prog 20 22 .nilSl (.sl cs n f) = some false := by kernel_rfl
@[go_sem] theorem Tryd.sl22 : sliceO Tryd.prog 22 = some 3 := by kernel_rfl
@[go_sem] theorem Tryd.und22 : Program.underlying Tryd.prog 22 = some (.slice 3) := by kernel_rfl
@[go_sem] theorem Tryd.agg23 : aggO Tryd.prog 23 = some true := by kernel_rfl
@[go_sem] theorem Tryd.pln23 : plainO Tryd.prog 23 = some true := by kernel_rfl
@[go_sem] theorem Tryd.sz23 : szO Tryd.prog 23 = some 2 := by kernel_rfl
@[go_sem] theorem Tryd.zero23 : zeroL Tryd.prog 23 = some [.int .i64 0, .int .i64 0] := by kernel_rfl
@[go_sem] theorem Tryd.small23 : smallO Tryd.prog 23 = some (2, 16) := by kernel_rfl
@[go_sem] theorem Tryd.zt23 : zeroT Tryd.prog 23 = some (.agg [.int .i64 0, .int .i64 0]) := by kernel_rfl
@[go_sem] theorem Tryd.bld23 (parts : List (Nat × TV)) : buildO Tryd.prog 23 parts = (fillT (fun i => some (i * 1, 1)) [.int .i64 0, .int .i64 0] parts).map .agg := by kernel_rfl
@[go_sem] theorem Tryd.eq23 (a0 b0 : Int) (a1 b1 : Int) : eqT Tryd.prog 20 23 (.agg [.int .i64 a0, .int .i64 a1]) (.agg [.int .i64 b0, .int .i64 b1]) = some ((a0 == b0) && ((a1 == b1) && true)) := by kernel_rfl
@[go_sem] theorem Tryd.eqg23 : Program.eqGuardType Tryd.prog (Program.depth Tryd.prog) 23 = false := by kernel_rfl
@[go_sem] theorem Tryd.arr23 : arrayO Tryd.prog 23 = some (2, 3) := by kernel_rfl
@[go_sem] theorem Tryd.und23 : Program.underlying Tryd.prog 23 = some (.array 2 3) := by kernel_rfl
@[go_sem] theorem Tryd.agg25 : aggO Tryd.prog 25 = some false := by kernel_rfl
@[go_sem] theorem Tryd.pln25 : plainO Tryd.prog 25 = some true := by kernel_rfl
@[go_sem] theorem Tryd.sz25 : szO Tryd.prog 25 = some 1 := by kernel_rfl
@[go_sem] theorem Tryd.zero25 : zeroL Tryd.prog 25 = some [.nilFn] := by kernel_rfl
@[go_sem] theorem Tryd.small25 : smallO Tryd.prog 25 = some (1, 8) := by kernel_rfl
@[go_sem] theorem Tryd.zt25 : zeroT Tryd.prog 25 = some (.nilFn) := by kernel_rfl
@[go_sem] theorem Tryd.agg27 : aggO Tryd.prog 27 = some true := by kernel_rfl
@[go_sem] theorem Tryd.pln27 : plainO Tryd.prog 27 = some true := by kernel_rfl
@[go_sem] theorem Tryd.sz27 : szO Tryd.prog 27 = some 4 := by kernel_rfl
@[go_sem] theorem Tryd.zero27 : zeroL Tryd.prog 27 = some [.int .i64 0, .int .i64 0, .int .i64 0, .int .i64 0] := by kernel_rfl
@[go_sem] theorem Tryd.small27 : smallO Tryd.prog 27 = some (4, 32) := by kernel_rfl
@[go_sem] theorem Tryd.zt27 : zeroT Tryd.prog 27 = some (.agg [.int .i64 0, .int .i64 0, .int .i64 0, .int .i64 0]) := by kernel_rfl
@[go_sem] theorem Tryd.fld27_0 : fieldO Tryd.prog 27 0 = some (0, 3) := by kernel_rfl
@[go_sem] theorem Tryd.fld27_1 : fieldO Tryd.prog 27 1 = some (1, 3) := by kernel_rfl
@[go_sem] theorem Tryd.fld27_2 : fieldO Tryd.prog 27 2 = some (2, 3) := by kernel_rfl
@[go_sem] theorem Tryd.fld27_3 : fieldO Tryd.prog 27 3 = some (3, 3) := by kernel_rfl
@[go_sem] theorem Tryd.bld27 (parts : List (Nat × TV)) : buildO Tryd.prog 27 parts = (fillT (fun i => ([(0, 1), (1, 1), (2, 1), (3, 1)] : List (Nat × Nat))[i]?) [.int .i64 0, .int .i64 0, .int .i64 0, .int .i64 0] parts).map .agg := by kernel_rfl
@[go_sem] theorem Tryd.eq27 (a0 b0 : Int) (a1 b1 : Int) (a2 b2 : Int) (a3 b3 : Int) : eqT Tryd.prog 20 27 (.agg [.int .i64 a0, .int .i64 a1, .int .i64 a2, .int .i64 a3]) (.agg [.int .i64 b0, .int .i64 b1, .int .i64 b2, .int .i64 b3]) = some ((a0 == b0) && ((a1 == b1) && ((a2 == b2) && ((a3 == b3) && true)))) := by kernel_rfl
@[go_sem] theorem Tryd.eqg27 : Program.eqGuardType Tryd.prog (Program.depth Tryd.prog) 27 = false := by kernel_rfl
@[go_sem] theorem Tryd.agg28 : aggO Tryd.prog 28 = some false := by kernel_rfl
@[go_sem] theorem Tryd.pln28 : plainO Tryd.prog 28 = some true := by kernel_rfl
@[go_sem] theorem Tryd.sz28 : szO Tryd.prog 28 = some 1 := by kernel_rfl
@[go_sem] theorem Tryd.zero28 : zeroL Tryd.prog 28 = some [.int .i64 0] := by kernel_rfl
@[go_sem] theorem Tryd.small28 : smallO Tryd.prog 28 = some (1, 8) := by kernel_rfl
@[go_sem] theorem Tryd.zt28 : zeroT Tryd.prog 28 = some (.int .i64 0) := by kernel_rfl
@[go_sem] theorem Tryd.knd28 : kindO Tryd.prog 28 = some .i64 := by kernel_rfl
@[go_sem] theorem Tryd.und28 : Program.underlying Tryd.prog 28 = some (.int .i64) := by kernel_rfl
@[go_sem] theorem Tryd.agg31 : aggO Tryd.prog 31 = some true := by kernel_rfl
@[go_sem] theorem Tryd.pln31 : plainO Tryd.prog 31 = some true := by kernel_rfl
@[go_sem] theorem Tryd.sz31 : szO Tryd.prog 31 = some 3 := by kernel_rfl
@[go_sem] theorem Tryd.zero31 : zeroL Tryd.prog 31 = some [.nilSl, .int .i64 0, .int .i64 0] := by kernel_rfl
@[go_sem] theorem Tryd.small31 : smallO Tryd.prog 31 = some (3, 40) := by kernel_rfl
@[go_sem] theorem Tryd.zt31 : zeroT Tryd.prog 31 = some (.agg [.nilSl, .int .i64 0, .int .i64 0]) := by kernel_rfl
@[go_sem] theorem Tryd.fld31_0 : fieldO Tryd.prog 31 0 = some (0, 22) := by kernel_rfl
@[go_sem] theorem Tryd.fld31_1 : fieldO Tryd.prog 31 1 = some (1, 3) := by kernel_rfl
@[go_sem] theorem Tryd.fld31_2 : fieldO Tryd.prog 31 2 = some (2, 3) := by kernel_rfl
@[go_sem] theorem Tryd.bld31 (parts : List (Nat × TV)) : buildO Tryd.prog 31 parts = (fillT (fun i => ([(0, 1), (1, 1), (2, 1)] : List (Nat × Nat))[i]?) [.nilSl, .int .i64 0, .int .i64 0] parts).map .agg := by kernel_rfl
@[go_sem] theorem Tryd.bldp31 (parts : List (Nat × PV)) : buildP Tryd.prog 31 parts = fillP (fun i => ([(0, 1), (1, 1), (2, 1)] : List (Nat × Nat))[i]?) [.t (.nilSl), .t (.int .i64 0), .t (.int .i64 0)] parts := by kernel_rfl
@[go_sem] theorem Tryd.eqg31 : Program.eqGuardType Tryd.prog (Program.depth Tryd.prog) 31 = false := by kernel_rfl
@[go_sem] theorem Tryd.agg32 : aggO Tryd.prog 32 = some true := by kernel_rfl
@[go_sem] theorem Tryd.pln32 : plainO Tryd.prog 32 = some true := by kernel_rfl
@[go_sem] theorem Tryd.sz32 : szO Tryd.prog 32 = some 3 := by kernel_rfl
@[go_sem] theorem Tryd.zero32 : zeroL Tryd.prog 32 = some [.nilSl, .int .i64 0, .int .i64 0] := by kernel_rfl
@[go_sem] theorem Tryd.small32 : smallO Tryd.prog 32 = some (3, 40) := by kernel_rfl
@[go_sem] theorem Tryd.zt32 : zeroT Tryd.prog 32 = some (.agg [.nilSl, .int .i64 0, .int .i64 0]) := by kernel_rfl
@[go_sem] theorem Tryd.fld32_0 : fieldO Tryd.prog 32 0 = some (0, 22) := by kernel_rfl
@[go_sem] theorem Tryd.fld32_1 : fieldO Tryd.prog 32 1 = some (1, 3) := by kernel_rfl
@[go_sem] theorem Tryd.fld32_2 : fieldO Tryd.prog 32 2 = some (2, 3) := by kernel_rfl
@[go_sem] theorem Tryd.bld32 (parts : List (Nat × TV)) : buildO Tryd.prog 32 parts = (fillT (fun i => ([(0, 1), (1, 1), (2, 1)] : List (Nat × Nat))[i]?) [.nilSl, .int .i64 0, .int .i64 0] parts).map .agg := by kernel_rfl
@[go_sem] theorem Tryd.bldp32 (parts : List (Nat × PV)) : buildP Tryd.prog 32 parts = fillP (fun i => ([(0, 1), (1, 1), (2, 1)] : List (Nat × Nat))[i]?) [.t (.nilSl), .t (.int .i64 0), .t (.int .i64 0)] parts := by kernel_rfl
@[go_sem] theorem Tryd.eqg32 : Program.eqGuardType Tryd.prog (Program.depth Tryd.prog) 32 = false := by kernel_rfl
@[go_sem] theorem Tryd.agg34 : aggO Tryd.prog 34 = some false := by kernel_rfl
@[go_sem] theorem Tryd.pln34 : plainO Tryd.prog 34 = some true := by kernel_rfl
@[go_sem] theorem Tryd.sz34 : szO Tryd.prog 34 = some 1 := by kernel_rfl
@[go_sem] theorem Tryd.zero34 : zeroL Tryd.prog 34 = some [.nilFn] := by kernel_rfl
@[go_sem] theorem Tryd.small34 : smallO Tryd.prog 34 = some (1, 8) := by kernel_rfl
@[go_sem] theorem Tryd.zt34 : zeroT Tryd.prog 34 = some (.nilFn) := by kernel_rfl
@[go_sem] theorem Tryd.agg35 : aggO Tryd.prog 35 = some false := by kernel_rfl
@[go_sem] theorem Tryd.pln35 : plainO Tryd.prog 35 = some true := by kernel_rfl
@[go_sem] theorem Tryd.sz35 : szO Tryd.prog 35 = some 1 := by kernel_rfl
@[go_sem] theorem Tryd.zero35 : zeroL Tryd.prog 35 = some [.nilFn] := by kernel_rfl
@[go_sem] theorem Tryd.small35 : smallO Tryd.prog 35 = some (1, 8) := by kernel_rfl
@[go_sem] theorem Tryd.zt35 : zeroT Tryd.prog 35 = some (.nilFn) := by kernel_rfl
@[go_sem] theorem Tryd.agg37 : aggO Tryd.prog 37 = some false := by kernel_rfl
@[go_sem] theorem Tryd.pln37 : plainO Tryd.prog 37 = some true := by kernel_rfl
@[go_sem] theorem Tryd.sz37 : szO Tryd.prog 37 = some 1 := by kernel_rfl
@[go_sem] theorem Tryd.zero37 : zeroL Tryd.prog 37 = some [.nilFn] := by kernel_rfl
@[go_sem] theorem Tryd.small37 : smallO Tryd.prog 37 = some (1, 8) := by kernel_rfl
@[go_sem] theorem Tryd.zt37 : zeroT Tryd.prog 37 = some (.nilFn) := by kernel_rfl
@[go_sem] theorem Tryd.agg38 : aggO Tryd.prog 38 = some false := by kernel_rfl
@[go_sem] theorem Tryd.pln38 : plainO Tryd.prog 38 = some true := by kernel_rfl
@[go_sem] theorem Tryd.sz38 : szO Tryd.prog 38 = some 1 := by kernel_rfl
@[go_sem] theorem Tryd.zero38 : zeroL Tryd.prog 38 = some [.nilFn] := by kernel_rfl
@[go_sem] theorem Tryd.small38 : smallO Tryd.prog 38 = some (1, 8) := by kernel_rfl
@[go_sem] theorem Tryd.zt38 : zeroT Tryd.prog 38 = some (.nilFn) := by kernel_rfl
@[go_sem] theorem Tryd.agg39 : aggO Tryd.prog 39 = some false := by kernel_rfl
@[go_sem] theorem Tryd.pln39 : plainO Tryd.prog 39 = some true := by kernel_rfl
@[go_sem] theorem Tryd.sz39 : szO Tryd.prog 39 = some 1 := by kernel_rfl
@[go_sem] theorem Tryd.zero39 : zeroL Tryd.prog 39 = some [.nilFn] := by kernel_rfl
@[go_sem] theorem Tryd.small39 : smallO Tryd.prog 39 = some (1, 8) := by kernel_rfl
@[go_sem] theorem Tryd.zt39 : zeroT Tryd.prog 39 = some (.nilFn) := by kernel_rfl
@[go_sem] theorem Tryd.agg41 : aggO Tryd.prog 41 = some true := by kernel_rfl
@[go_sem] theorem Tryd.pln41 : plainO Tryd.prog 41 = some true := by kernel_rfl
@[go_sem] theorem Tryd.sz41 : szO Tryd.prog 41 = some 2 := by kernel_rfl
@[go_sem] theorem Tryd.zero41 : zeroL Tryd.prog 41 = some [.int .i64 0, .int .i64 0] := by kernel_rfl
@[go_sem] theorem Tryd.small41 : smallO Tryd.prog 41 = some (2, 16) := by kernel_rfl
@[go_sem] theorem Tryd.zt41 : zeroT Tryd.prog 41 = some (.agg [.int .i64 0, .int .i64 0]) := by kernel_rfl
@[go_sem] theorem Tryd.fld41_0 : fieldO Tryd.prog 41 0 = some (0, 3) := by kernel_rfl
@[go_sem] theorem Tryd.fld41_1 : fieldO Tryd.prog 41 1 = some (1, 3) := by kernel_rfl
@[go_sem] theorem Tryd.bld41 (parts : List (Nat × TV)) : buildO Tryd.prog 41 parts = (fillT (fun i => ([(0, 1), (1, 1)] : List (Nat × Nat))[i]?) [.int .i64 0, .int .i64 0] parts).map .agg := by kernel_rfl
@[go_sem] theorem Tryd.eq41 (a0 b0 : Int) (a1 b1 : Int) : eqT Tryd.prog 20 41 (.agg [.int .i64 a0, .int .i64 a1]) (.agg [.int .i64 b0, .int .i64 b1]) = some ((a0 == b0) && ((a1 == b1) && true)) := by kernel_rfl
@[go_sem] theorem Tryd.eqg41 : Program.eqGuardType Tryd.prog (Program.depth Tryd.prog) 41 = false := by kernel_rfl
@[go_sem] theorem Tryd.agg43 : aggO Tryd.prog 43 = some true := by kernel_rfl
@[go_sem] theorem Tryd.pln43 : plainO Tryd.prog 43 = some true := by kernel_rfl
@[go_sem] theorem Tryd.sz43 : szO Tryd.prog 43 = some 8 := by kernel_rfl
@[go_sem] theorem Tryd.zero43 : zeroL Tryd.prog 43 = some [.int .i64 0, .int .i64 0, .int .i64 0, .int .i64 0, .int .i64 0, .int .i64 0, .int .i64 0, .int .i64 0] := by kernel_rfl
@[go_sem] theorem Tryd.small43 : smallO Tryd.prog 43 = some (8, 64) := by kernel_rfl
@[go_sem] theorem Tryd.zt43 : zeroT Tryd.prog 43 = some (.agg [.int .i64 0, .int .i64 0, .int .i64 0, .int .i64 0, .int .i64 0, .int .i64 0, .int .i64 0, .int .i64 0]) := by kernel_rfl
@[go_sem] theorem Tryd.fld43_0 : fieldO Tryd.prog 43 0 = some (0, 3) := by kernel_rfl
@[go_sem] theorem Tryd.fld43_1 : fieldO Tryd.prog 43 1 = some (1, 41) := by kernel_rfl
@[go_sem] theorem Tryd.fld43_2 : fieldO Tryd.prog 43 2 = some (3, 41) := by kernel_rfl
@[go_sem] theorem Tryd.fld43_3 : fieldO Tryd.prog 43 3 = some (5, 41) := by kernel_rfl
@[go_sem] theorem Tryd.fld43_4 : fieldO Tryd.prog 43 4 = some (7, 3) := by kernel_rfl
@[go_sem] theorem Tryd.bld43 (parts : List (Nat × TV)) : buildO Tryd.prog 43 parts = (fillT (fun i => ([(0, 1), (1, 2), (3, 2), (5, 2), (7, 1)] : List (Nat × Nat))[i]?) [.int .i64 0, .int .i64 0, .int .i64 0, .int .i64 0, .int .i64 0, .int .i64 0, .int .i64 0, .int .i64 0] parts).map .agg := by kernel_rfl
@[go_sem] theorem Tryd.eq43 (a0 b0 : Int) (a1 b1 : Int) (a2 b2 : Int) (a3 b3 : Int) (a4 b4 : Int) (a5 b5 : Int) (a6 b6 : Int) (a7 b7 : Int) : eqT Tryd.prog 20 43 (.agg [.int .i64 a0, .int .i64 a1, .int .i64 a2, .int .i64 a3, .int .i64 a4, .int .i64 a5, .int .i64 a6, .int .i64 a7]) (.agg [.int .i64 b0, .int .i64 b1, .int .i64 b2, .int .i64 b3, .int .i64 b4, .int .i64 b5, .int .i64 b6, .int .i64 b7]) = some ((a0 == b0) && (((a1 == b1) && ((a2 == b2) && true)) && (((a3 == b3) && ((a4 == b4) && true)) && (((a5 == b5) && ((a6 == b6) && true)) && ((a7 == b7) && true))))) := by kernel_rfl
@[go_sem] theorem Tryd.eqg43 : Program.eqGuardType Tryd.prog (Program.depth Tryd.prog) 43 = false := by kernel_rfl
@[go_sem] theorem Tryd.agg44 : aggO Tryd.prog 44 = some false := by kernel_rfl
@[go_sem] theorem Tryd.pln44 : plainO Tryd.prog 44 = some true := by kernel_rfl
@[go_sem] theorem Tryd.sz44 : szO Tryd.prog 44 = some 1 := by kernel_rfl
@[go_sem] theorem Tryd.zero44 : zeroL Tryd.prog 44 = some [.nilSl] := by kernel_rfl
@[go_sem] theorem Tryd.small44 : smallO Tryd.prog 44 = some (1, 24) := by kernel_rfl
@[go_sem] theorem Tryd.zt44 : zeroT Tryd.prog 44 = some (.nilSl) := by kernel_rfl
@[go_sem] theorem Tryd.eqn44 : eqT Tryd.prog 20 44 .nilSl .nilSl = some true := by kernel_rfl
@[go_sem] theorem Tryd.eqs44 (cs : List TV) (n : Nat) (f : Bool) : eqT Tryd.prog 20 44 (.sl cs n f) .nilSl = some false := by kernel_rfl
@[go_sem] theorem Tryd.eqt44 (cs : List TV) (n : Nat) (f : Bool) : eqT Tryd.prog 20 44 .nilSl (.sl cs n f) = some false := by kernel_rfl
@[go_sem] theorem Tryd.sl44 : sliceO Tryd.prog 44 = some 208 := by kernel_rfl
@[go_sem] theorem Tryd.und44 : Program.underlying Tryd.prog 44 = some (.slice 208) := by kernel_rfl
@[go_sem] theorem Tryd.agg46 : aggO Tryd.prog 46 = some true := by kernel_rfl
@[go_sem] theorem Tryd.pln46 : plainO Tryd.prog 46 = some true := by kernel_rfl
@[go_sem] theorem Tryd.sz46 : szO Tryd.prog 46 = some 3 := by kernel_rfl
@[go_sem] theorem Tryd.zero46 : zeroL Tryd.prog 46 = some [.int .i64 0, .int .i64 0, .int .i64 0] := by kernel_rfl
@[go_sem] theorem Tryd.small46 : smallO Tryd.prog 46 = some (3, 24) := by kernel_rfl
@[go_sem] theorem Tryd.zt46 : zeroT Tryd.prog 46 = some (.agg [.int .i64 0, .int .i64 0, .int .i64 0]) := by kernel_rfl
@[go_sem] theorem Tryd.fld46_0 : fieldO Tryd.prog 46 0 = some (0, 3) := by kernel_rfl
@[go_sem] theorem Tryd.fld46_1 : fieldO Tryd.prog 46 1 = some (1, 3) := by kernel_rfl
@[go_sem] theorem Tryd.fld46_2 : fieldO Tryd.prog 46 2 = some (2, 3) := by kernel_rfl
@[go_sem] theorem Tryd.bld46 (parts : List (Nat × TV)) : buildO Tryd.prog 46 parts = (fillT (fun i => ([(0, 1), (1, 1), (2, 1)] : List (Nat × Nat))[i]?) [.int .i64 0, .int .i64 0, .int .i64 0] parts).map .agg := by kernel_rfl
@[go_sem] theorem Tryd.eq46 (a0 b0 : Int) (a1 b1 : Int) (a2 b2 : Int) : eqT Tryd.prog 20 46 (.agg [.int .i64 a0, .int .i64 a1, .int .i64 a2]) (.agg [.int .i64 b0, .int .i64 b1, .int .i64 b2]) = some ((a0 == b0) && ((a1 == b1) && ((a2 == b2) && true))) := by kernel_rfl
@[go_sem] theorem Tryd.eqg46 : Program.eqGuardType Tryd.prog (Program.depth Tryd.prog) 46 = false := by kernel_rfl
@[go_sem] theorem Tryd.agg47 : aggO Tryd.prog 47 = some true := by kernel_rfl
@[go_sem] theorem Tryd.pln47 : plainO Tryd.prog 47 = some true := by kernel_rfl
@[go_sem] theorem Tryd.sz47 : szO Tryd.prog 47 = some 14 := by kernel_rfl
@[go_sem] theorem Tryd.zero47 : zeroL Tryd.prog 47 = some [.int .i64 0, .int .i64 0, .int .i64 0, .int .i64 0, .int .i64 0, .int .i64 0, .int .i64 0, .int .i64 0, .nilSl, .int .i64 0, .int .i64 0, .int .i64 0, .int .i64 0, .int .i64 0] := by kernel_rfl
@[go_sem] theorem Tryd.small47 : smallO Tryd.prog 47 = some (14, 128) := by kernel_rfl
@[go_sem] theorem Tryd.zt47 : zeroT Tryd.prog 47 = some (.agg [.int .i64 0, .int .i64 0, .int .i64 0, .int .i64 0, .int .i64 0, .int .i64 0, .int .i64 0, .int .i64 0, .nilSl, .int .i64 0, .int .i64 0, .int .i64 0, .int .i64 0, .int .i64 0]) := by kernel_rfl
@[go_sem] theorem Tryd.fld47_0 : fieldO Tryd.prog 47 0 = some (0, 43) := by kernel_rfl
@[go_sem] theorem Tryd.fld47_1 : fieldO Tryd.prog 47 1 = some (8, 44) := by kernel_rfl
@[go_sem] theorem Tryd.fld47_2 : fieldO Tryd.prog 47 2 = some (9, 46) := by kernel_rfl
@[go_sem] theorem Tryd.fld47_3 : fieldO Tryd.prog 47 3 = some (12, 3) := by kernel_rfl
@[go_sem] theorem Tryd.fld47_4 : fieldO Tryd.prog 47 4 = some (13, 3) := by kernel_rfl
@[go_sem] theorem Tryd.bld47 (parts : List (Nat × TV)) : buildO Tryd.prog 47 parts = (fillT (fun i => ([(0, 8), (8, 1), (9, 3), (12, 1), (13, 1)] : List (Nat × Nat))[i]?) [.int .i64 0, .int .i64 0, .int .i64 0, .int .i64 0, .int .i64 0, .int .i64 0, .int .i64 0, .int .i64 0, .nilSl, .int .i64 0, .int .i64 0, .int .i64 0, .int .i64 0, .int .i64 0] parts).map .agg := by kernel_rfl
@[go_sem] theorem Tryd.bldp47 (parts : List (Nat × PV)) : buildP Tryd.prog 47 parts = fillP (fun i => ([(0, 8), (8, 1), (9, 3), (12, 1), (13, 1)] : List (Nat × Nat))[i]?) [.t (.int .i64 0), .t (.int .i64 0), .t (.int .i64 0), .t (.int .i64 0), .t (.int .i64 0), .t (.int .i64 0), .t (.int .i64 0), .t (.int .i64 0), .t (.nilSl), .t (.int .i64 0), .t (.int .i64 0), .t (.int .i64 0), .t (.int .i64 0), .t (.int .i64 0)] parts := by kernel_rfl
@[go_sem] theorem Tryd.eqg47 : Program.eqGuardType Tryd.prog (Program.depth Tryd.prog) 47 = false := by kernel_rfl
@[go_sem] theorem Tryd.agg48 : aggO Tryd.prog 48 = some true := by kernel_rfl
@[go_sem] theorem Tryd.pln48 : plainO Tryd.prog 48 = some true := by kernel_rfl
@[go_sem] theorem Tryd.sz48 : szO Tryd.prog 48 = some 14 := by kernel_rfl
@[go_sem] theorem Tryd.zero48 : zeroL Tryd.prog 48 = some [.int .i64 0, .int .i64 0, .int .i64 0, .int .i64 0, .int .i64 0, .int .i64 0, .int .i64 0, .int .i64 0, .nilSl, .int .i64 0, .int .i64 0, .int .i64 0, .int .i64 0, .int .i64 0] := by kernel_rfl
@[go_sem] theorem Tryd.small48 : smallO Tryd.prog 48 = some (14, 128) := by kernel_rfl
@[go_sem] theorem Tryd.zt48 : zeroT Tryd.prog 48 = some (.agg [.int .i64 0, .int .i64 0, .int .i64 0, .int .i64 0, .int .i64 0, .int .i64 0, .int .i64 0, .int .i64 0, .nilSl, .int .i64 0, .int .i64 0, .int .i64 0, .int .i64 0, .int .i64 0]) := by kernel_rfl
@[go_sem] theorem Tryd.fld48_0 : fieldO Tryd.prog 48 0 = some (0, 43) := by kernel_rfl
@[go_sem] theorem Tryd.fld48_1 : fieldO Tryd.prog 48 1 = some (8, 44) := by kernel_rfl
@[go_sem] theorem Tryd.fld48_2 : fieldO Tryd.prog 48 2 = some (9, 46) := by kernel_rfl
@[go_sem] theorem Tryd.fld48_3 : fieldO Tryd.prog 48 3 = some (12, 3) := by kernel_rfl
@[go_sem] theorem Tryd.fld48_4 : fieldO Tryd.prog 48 4 = some (13, 3) := by kernel_rfl
@[go_sem] theorem Tryd.bld48 (parts : List (Nat × TV)) : buildO Tryd.prog 48 parts = (fillT (fun i => ([(0, 8), (8, 1), (9, 3), (12, 1), (13, 1)] : List (Nat × Nat))[i]?) [.int .i64 0, .int .i64 0, .int .i64 0, .int .i64 0, .int .i64 0, .int .i64 0, .int .i64 0, .int .i64 0, .nilSl, .int .i64 0, .int .i64 0, .int .i64 0, .int .i64 0, .int .i64 0] parts).map .agg := by kernel_rfl
@[go_sem] theorem Tryd.bldp48 (parts : List (Nat × PV)) : buildP Tryd.prog 48 parts = fillP (fun i => ([(0, 8), (8, 1), (9, 3), (12, 1), (13, 1)] : List (Nat × Nat))[i]?) [.t (.int .i64 0), .t (.int .i64 0), .t (.int .i64 0), .t (.int .i64 0), .t (.int .i64 0), .t (.int .i64 0), .t (.int .i64 0), .t (.int .i64 0), .t (.nilSl), .t (.int .i64 0), .t (.int .i64 0), .t (.int .i64 0), .t (.int .i64 0), .t (.int .i64 0)] parts := by kernel_rfl
@[go_sem] theorem Tryd.eqg48 : Program.eqGuardType Tryd.prog (Program.depth Tryd.prog) 48 = false := by kernel_rfl
@[go_sem] theorem Tryd.agg49 : aggO Tryd.prog 49 = some true := by kernel_rfl
@[go_sem] theorem Tryd.pln49 : plainO Tryd.prog 49 = some true := by kernel_rfl
@[go_sem] theorem Tryd.sz49 : szO Tryd.prog 49 = some 2 := by kernel_rfl
@[go_sem] theorem Tryd.zero49 : zeroL Tryd.prog 49 = some [.nilSl, .int .i64 0] := by kernel_rfl
@[go_sem] theorem Tryd.small49 : smallO Tryd.prog 49 = some (2, 32) := by kernel_rfl
@[go_sem] theorem Tryd.zt49 : zeroT Tryd.prog 49 = some (.agg [.nilSl, .int .i64 0]) := by kernel_rfl
@[go_sem] theorem Tryd.fld49_0 : fieldO Tryd.prog 49 0 = some (0, 22) := by kernel_rfl
@[go_sem] theorem Tryd.fld49_1 : fieldO Tryd.prog 49 1 = some (1, 3) := by kernel_rfl
@[go_sem] theorem Tryd.bld49 (parts : List (Nat × TV)) : buildO Tryd.prog 49 parts = (fillT (fun i => ([(0, 1), (1, 1)] : List (Nat × Nat))[i]?) [.nilSl, .int .i64 0] parts).map .agg := by kernel_rfl
@[go_sem] theorem Tryd.bldp49 (parts : List (Nat × PV)) : buildP Tryd.prog 49 parts = fillP (fun i => ([(0, 1), (1, 1)] : List (Nat × Nat))[i]?) [.t (.nilSl), .t (.int .i64 0)] parts := by kernel_rfl
@[go_sem] theorem Tryd.eqg49 : Program.eqGuardType Tryd.prog (Program.depth Tryd.prog) 49 = false := by kernel_rfl
@[go_sem] theorem Tryd.agg50 : aggO Tryd.prog 50 = some true := by kernel_rfl
@[go_sem] theorem Tryd.pln50 : plainO Tryd.prog 50 = some true := by kernel_rfl
@[go_sem] theorem Tryd.sz50 : szO Tryd.prog 50 = some 2 := by kernel_rfl
@[go_sem] theorem Tryd.zero50 : zeroL Tryd.prog 50 = some [.nilSl, .int .i64 0] := by kernel_rfl
@[go_sem] theorem Tryd.small50 : smallO Tryd.prog 50 = some (2, 32) := by kernel_rfl
@[go_sem] theorem Tryd.zt50 : zeroT Tryd.prog 50 = some (.agg [.nilSl, .int .i64 0]) := by kernel_rfl
@[go_sem] theorem Tryd.fld50_0 : fieldO Tryd.prog 50 0 = some (0, 22) := by kernel_rfl
@[go_sem] theorem Tryd.fld50_1 : fieldO Tryd.prog 50 1 = some (1, 3) := by kernel_rfl
@[go_sem] theorem Tryd.bld50 (parts : List (Nat × TV)) : buildO Tryd.prog 50 parts = (fillT (fun i => ([(0, 1), (1, 1)] : List (Nat × Nat))[i]?) [.nilSl, .int .i64 0] parts).map .agg := by kernel_rfl
@[go_sem] theorem Tryd.bldp50 (parts : List (Nat × PV)) : buildP Tryd.prog 50 parts = fillP (fun i => ([(0, 1), (1, 1)] : List (Nat × Nat))[i]?) [.t (.nilSl), .t (.int .i64 0)] parts := by kernel_rfl
@[go_sem] theorem Tryd.eqg50 : Program.eqGuardType Tryd.prog (Program.depth Tryd.prog) 50 = false := by kernel_rfl
@[go_sem] theorem Tryd.agg51 : aggO Tryd.prog 51 = some false := by kernel_rfl
@[go_sem] theorem Tryd.pln51 : plainO Tryd.prog 51 = some true := by kernel_rfl
@[go_sem] theorem Tryd.sz51 : szO Tryd.prog 51 = some 1 := by kernel_rfl
@[go_sem] theorem Tryd.zero51 : zeroL Tryd.prog 51 = some [.nilSl] := by kernel_rfl
@[go_sem] theorem Tryd.small51 : smallO Tryd.prog 51 = some (1, 24) := by kernel_rfl
@[go_sem] theorem Tryd.zt51 : zeroT Tryd.prog 51 = some (.nilSl) := by kernel_rfl
@[go_sem] theorem Tryd.eqn51 : eqT Tryd.prog 20 51 .nilSl .nilSl = some true := by kernel_rfl
@[go_sem] theorem Tryd.eqs51 (cs : List TV) (n : Nat) (f : Bool) : eqT Tryd.prog 20 51 (.sl cs n f) .nilSl = some false := by kernel_rfl
@[go_sem] theorem Tryd.eqt51 (cs : List TV) (n : Nat) (f : Bool) : eqT Tryd.prog 20 51 .nilSl (.sl cs n f) = some false := by kernel_rfl
@[go_sem] theorem Tryd.sl51 : sliceO Tryd.prog 51 = some 218 := by kernel_rfl
@[go_sem] theorem Tryd.und51 : Program.underlying Tryd.prog 51 = some (.slice 218) := by kernel_rfl
@[go_sem] theorem Tryd.agg52 : aggO Tryd.prog 52 = some false := by kernel_rfl
@[go_sem] theorem Tryd.pln52 : plainO Tryd.prog 52 = some true := by kernel_rfl
@[go_sem] theorem Tryd.sz52 : szO Tryd.prog 52 = some 1 := by kernel_rfl
@[go_sem] theorem Tryd.zero52 : zeroL Tryd.prog 52 = some [.nilSl] := by kernel_rfl
@[go_sem] theorem Tryd.small52 : smallO Tryd.prog 52 = some (1, 24) := by kernel_rfl
@[go_sem] theorem Tryd.zt52 : zeroT Tryd.prog 52 = some (.nilSl) := by kernel_rfl
@[go_sem] theorem Tryd.eqn52 : eqT Tryd.prog 20 52 .nilSl .nilSl = some true := by kernel_rfl
@[go_sem] theorem Tryd.eqs52 (cs : List TV) (n : Nat) (f : Bool) : eqT Tryd.prog 20 52 (.sl cs n f) .nilSl = some false := by kernel_rfl
@[go_sem] theorem Tryd.eqt52 (cs : List TV) (n : Nat) (f : Bool) : eqT Tryd.prog 20 52 .nilSl (.sl cs n f) = some false := by kernel_rfl
@[go_sem] theorem Tryd.sl52 : sliceO Tryd.prog 52 = some 22 := by kernel_rfl
@[go_sem] theorem Tryd.und52 : Program.underlying Tryd.prog 52 = some (.slice 22) := by kernel_rfl
@[go_sem] theorem Tryd.agg54 : aggO Tryd.prog 54 = some true := by kernel_rfl
@[go_sem] theorem Tryd.pln54 : plainO Tryd.prog 54 = some true := by kernel_rfl
@[go_sem] theorem Tryd.sz54 : szO Tryd.prog 54 = some 4 := by kernel_rfl
@[go_sem] theorem Tryd.zero54 : zeroL Tryd.prog 54 = some [.nilSl, .int .i64 0, .nilSl, .nilSl] := by kernel_rfl
@[go_sem] theorem Tryd.small54 : smallO Tryd.prog 54 = some (4, 80) := by kernel_rfl
@[go_sem] theorem Tryd.zt54 : zeroT Tryd.prog 54 = some (.agg [.nilSl, .int .i64 0, .nilSl, .nilSl]) := by kernel_rfl
@[go_sem] theorem Tryd.fld54_0 : fieldO Tryd.prog 54 0 = some (0, 50) := by kernel_rfl
@[go_sem] theorem Tryd.fld54_1 : fieldO Tryd.prog 54 1 = some (2, 51) := by kernel_rfl
@[go_sem] theorem Tryd.fld54_2 : fieldO Tryd.prog 54 2 = some (3, 52) := by kernel_rfl
@[go_sem] theorem Tryd.bld54 (parts : List (Nat × TV)) : buildO Tryd.prog 54 parts = (fillT (fun i => ([(0, 2), (2, 1), (3, 1)] : List (Nat × Nat))[i]?) [.nilSl, .int .i64 0, .nilSl, .nilSl] parts).map .agg := by kernel_rfl
@[go_sem] theorem Tryd.bldp54 (parts : List (Nat × PV)) : buildP Tryd.prog 54 parts = fillP (fun i => ([(0, 2), (2, 1), (3, 1)] : List (Nat × Nat))[i]?) [.t (.nilSl), .t (.int .i64 0), .t (.nilSl), .t (.nilSl)] parts := by kernel_rfl
@[go_sem] theorem Tryd.eqg54 : Program.eqGuardType Tryd.prog (Program.depth Tryd.prog) 54 = false := by kernel_rfl
@[go_sem] theorem Tryd.agg56 : aggO Tryd.prog 56 = some false := by kernel_rfl
@[go_sem] theorem Tryd.pln56 : plainO Tryd.prog 56 = some true := by kernel_rfl
@[go_sem] theorem Tryd.sz56 : szO Tryd.prog 56 = some 1 := by kernel_rfl
@[go_sem] theorem Tryd.zero56 : zeroL Tryd.prog 56 = some [.nilFn] := by kernel_rfl
@[go_sem] theorem Tryd.small56 : smallO Tryd.prog 56 = some (1, 8) := by kernel_rfl
@[go_sem] theorem Tryd.zt56 : zeroT Tryd.prog 56 = some (.nilFn) := by kernel_rfl
@[go_sem] theorem Tryd.agg59 : aggO Tryd.prog 59 = some false := by kernel_rfl
@[go_sem] theorem Tryd.pln59 : plainO Tryd.prog 59 = some true := by kernel_rfl
@[go_sem] theorem Tryd.sz59 : szO Tryd.prog 59 = some 1 := by kernel_rfl
@[go_sem] theorem Tryd.zero59 : zeroL Tryd.prog 59 = some [.nilFn] := by kernel_rfl
@[go_sem] theorem Tryd.small59 : smallO Tryd.prog 59 = some (1, 8) := by kernel_rfl
@[go_sem] theorem Tryd.zt59 : zeroT Tryd.prog 59 = some (.nilFn) := by kernel_rfl
@[go_sem] theorem Tryd.agg64 : aggO Tryd.prog 64 = some false := by kernel_rfl
@[go_sem] theorem Tryd.pln64 : plainO Tryd.prog 64 = some true := by kernel_rfl
@[go_sem] theorem Tryd.sz64 : szO Tryd.prog 64 = some 1 := by kernel_rfl
@[go_sem] theorem Tryd.zero64 : zeroL Tryd.prog 64 = some [.nilFn] := by kernel_rfl
@[go_sem] theorem Tryd.small64 : smallO Tryd.prog 64 = some (1, 8) := by kernel_rfl
@[go_sem] theorem Tryd.zt64 : zeroT Tryd.prog 64 = some (.nilFn) := by kernel_rfl
@[go_sem] theorem Tryd.agg75 : aggO Tryd.prog 75 = some false := by kernel_rfl
@[go_sem] theorem Tryd.pln75 : plainO Tryd.prog 75 = some true := by kernel_rfl
@[go_sem] theorem Tryd.sz75 : szO Tryd.prog 75 = some 1 := by kernel_rfl
@[go_sem] theorem Tryd.zero75 : zeroL Tryd.prog 75 = some [.nilFn] := by kernel_rfl
@[go_sem] theorem Tryd.small75 : smallO Tryd.prog 75 = some (1, 8) := by kernel_rfl
@[go_sem] theorem Tryd.zt75 : zeroT Tryd.prog 75 = some (.nilFn) := by kernel_rfl
@[go_sem] theorem Tryd.agg81 : aggO Tryd.prog 81 = some false := by kernel_rfl
@[go_sem] theorem Tryd.pln81 : plainO Tryd.prog 81 = some true := by kernel_rfl
@[go_sem] theorem Tryd.sz81 : szO Tryd.prog 81 = some 1 := by kernel_rfl
@[go_sem] theorem Tryd.zero81 : zeroL Tryd.prog 81 = some [.nilSl] := by kernel_rfl
@[go_sem] theorem Tryd.small81 : smallO Tryd.prog 81 = some (1, 24) := by kernel_rfl
@[go_sem] theorem Tryd.zt81 : zeroT Tryd.prog 81 = some (.nilSl) := by kernel_rfl
@[go_sem] theorem Tryd.eqn81 : eqT Tryd.prog 20 81 .nilSl .nilSl = some true := by kernel_rfl
@[go_sem] theorem Tryd.eqs81 (cs : List TV) (n : Nat) (f : Bool) : eqT Tryd.prog 20 81 (.sl cs n f) .nilSl = some false := by kernel_rfl
@[go_sem] theorem Tryd.eqt81 (cs : List TV) (n : Nat) (f : Bool) : eqT Tryd.prog 20 81 .nilSl (.sl cs n f) = some false := by kernel_rfl
@[go_sem] theorem Tryd.sl81 : sliceO Tryd.prog 81 = some 103 := by kernel_rfl
@[go_sem] theorem Tryd.und81 : Program.underlying Tryd.prog 81 = some (.slice 103) := by kernel_rfl
@[go_sem] theorem Tryd.agg86 : aggO Tryd.prog 86 = some false := by kernel_rfl
@[go_sem] theorem Tryd.pln86 : plainO Tryd.prog 86 = some true := by kernel_rfl
@[go_sem] theorem Tryd.sz86 : szO Tryd.prog 86 = some 1 := by kernel_rfl
@[go_sem] theorem Tryd.zero86 : zeroL Tryd.prog 86 = some [.nilFn] := by kernel_rfl
@[go_sem] theorem Tryd.small86 : smallO Tryd.prog 86 = some (1, 8) := by kernel_rfl
@[go_sem] theorem Tryd.zt86 : zeroT Tryd.prog 86 = some (.nilFn) := by kernel_rfl
@[go_sem] theorem Tryd.agg103 : aggO Tryd.prog 103 = some true := by kernel_rfl
@[go_sem] theorem Tryd.pln103 : plainO Tryd.prog 103 = some true := by kernel_rfl
@[go_sem] theorem Tryd.sz103 : szO Tryd.prog 103 = some 5 := by kernel_rfl
@[go_sem] theorem Tryd.zero103 : zeroL Tryd.prog 103 = some [.int .i64 0, .int .i64 0, .int .i64 0, .str ⟨#[]⟩, .int .i64 0] := by kernel_rfl
@[go_sem] theorem Tryd.small103 : smallO Tryd.prog 103 = some (5, 48) := by kernel_rfl
@[go_sem] theorem Tryd.zt103 : zeroT Tryd.prog 103 = some (.agg [.int .i64 0, .int .i64 0, .int .i64 0, .str ⟨#[]⟩, .int .i64 0]) := by kernel_rfl
@[go_sem] theorem Tryd.fld103_0 : fieldO Tryd.prog 103 0 = some (0, 3) := by kernel_rfl
@[go_sem] theorem Tryd.fld103_1 : fieldO Tryd.prog 103 1 = some (1, 3) := by kernel_rfl
@[go_sem] theorem Tryd.fld103_2 : fieldO Tryd.prog 103 2 = some (2, 3) := by kernel_rfl
@[go_sem] theorem Tryd.fld103_3 : fieldO Tryd.prog 103 3 = some (3, 9) := by kernel_rfl
@[go_sem] theorem Tryd.fld103_4 : fieldO Tryd.prog 103 4 = some (4, 3) := by kernel_rfl
@[go_sem] theorem Tryd.bld103 (parts : List (Nat × TV)) : buildO Tryd.prog 103 parts = (fillT (fun i => ([(0, 1), (1, 1), (2, 1), (3, 1), (4, 1)] : List (Nat × Nat))[i]?) [.int .i64 0, .int .i64 0, .int .i64 0, .str ⟨#[]⟩, .int .i64 0] parts).map .agg := by kernel_rfl
@[go_sem] theorem Tryd.eq103 (a0 b0 : Int) (a1 b1 : Int) (a2 b2 : Int) (a3 b3 : ByteArray) (a4 b4 : Int) : eqT Tryd.prog 20 103 (.agg [.int .i64 a0, .int .i64 a1, .int .i64 a2, .str a3, .int .i64 a4]) (.agg [.int .i64 b0, .int .i64 b1, .int .i64 b2, .str b3, .int .i64 b4]) = some ((a0 == b0) && ((a1 == b1) && ((a2 == b2) && ((a3.toList == b3.toList) && ((a4 == b4) && true))))) := by kernel_rfl
@[go_sem] theorem Tryd.eqg103 : Program.eqGuardType Tryd.prog (Program.depth Tryd.prog) 103 = false := by kernel_rfl
@[go_sem] theorem Tryd.agg106 : aggO Tryd.prog 106 = some false := by kernel_rfl
@[go_sem] theorem Tryd.pln106 : plainO Tryd.prog 106 = some true := by kernel_rfl
@[go_sem] theorem Tryd.sz106 : szO Tryd.prog 106 = some 1 := by kernel_rfl
@[go_sem] theorem Tryd.zero106 : zeroL Tryd.prog 106 = some [.nilFn] := by kernel_rfl
@[go_sem] theorem Tryd.small106 : smallO Tryd.prog 106 = some (1, 8) := by kernel_rfl
@[go_sem] theorem Tryd.zt106 : zeroT Tryd.prog 106 = some (.nilFn) := by kernel_rfl
@[go_sem] theorem Tryd.agg110 : aggO Tryd.prog 110 = some false := by kernel_rfl
@[go_sem] theorem Tryd.pln110 : plainO Tryd.prog 110 = some true := by kernel_rfl
@[go_sem] theorem Tryd.sz110 : szO Tryd.prog 110 = some 1 := by kernel_rfl
@[go_sem] theorem Tryd.zero110 : zeroL Tryd.prog 110 = some [.nilSl] := by kernel_rfl
@[go_sem] theorem Tryd.small110 : smallO Tryd.prog 110 = some (1, 24) := by kernel_rfl
@[go_sem] theorem Tryd.zt110 : zeroT Tryd.prog 110 = some (.nilSl) := by kernel_rfl
@[go_sem] theorem Tryd.eqn110 : eqT Tryd.prog 20 110 .nilSl .nilSl = some true := by kernel_rfl
@[go_sem] theorem Tryd.eqs110 (cs : List TV) (n : Nat) (f : Bool) : eqT Tryd.prog 20 110 (.sl cs n f) .nilSl = some false := by kernel_rfl
@[go_sem] theorem Tryd.eqt110 (cs : List TV) (n : Nat) (f : Bool) : eqT Tryd.prog 20 110 .nilSl (.sl cs n f) = some false := by kernel_rfl
@[go_sem] theorem Tryd.sl110 : sliceO Tryd.prog 110 = some 81 := by kernel_rfl
@[go_sem] theorem Tryd.und110 : Program.underlying Tryd.prog 110 = some (.slice 81) := by kernel_rfl
@[go_sem] theorem Tryd.agg114 : aggO Tryd.prog 114 = some false := by kernel_rfl
@[go_sem] theorem Tryd.pln114 : plainO Tryd.prog 114 = some true := by kernel_rfl
@[go_sem] theorem Tryd.sz114 : szO Tryd.prog 114 = some 1 := by kernel_rfl
@[go_sem] theorem Tryd.zero114 : zeroL Tryd.prog 114 = some [.nilFn] := by kernel_rfl
@[go_sem] theorem Tryd.small114 : smallO Tryd.prog 114 = some (1, 8) := by kernel_rfl
@[go_sem] theorem Tryd.zt114 : zeroT Tryd.prog 114 = some (.nilFn) := by kernel_rfl
@[go_sem] theorem Tryd.agg118 : aggO Tryd.prog 118 = some true := by kernel_rfl
@[go_sem] theorem Tryd.pln118 : plainO Tryd.prog 118 = some true := by kernel_rfl
@[go_sem] theorem Tryd.sz118 : szO Tryd.prog 118 = some 2 := by kernel_rfl
@[go_sem] theorem Tryd.zero118 : zeroL Tryd.prog 118 = some [.int .i64 0, .int .i64 0] := by kernel_rfl
@[go_sem] theorem Tryd.small118 : smallO Tryd.prog 118 = some (2, 16) := by kernel_rfl
@[go_sem] theorem Tryd.zt118 : zeroT Tryd.prog 118 = some (.agg [.int .i64 0, .int .i64 0]) := by kernel_rfl
@[go_sem] theorem Tryd.fld118_0 : fieldO Tryd.prog 118 0 = some (0, 3) := by kernel_rfl
@[go_sem] theorem Tryd.fld118_1 : fieldO Tryd.prog 118 1 = some (1, 3) := by kernel_rfl
@[go_sem] theorem Tryd.bld118 (parts : List (Nat × TV)) : buildO Tryd.prog 118 parts = (fillT (fun i => ([(0, 1), (1, 1)] : List (Nat × Nat))[i]?) [.int .i64 0, .int .i64 0] parts).map .agg := by kernel_rfl
@[go_sem] theorem Tryd.eq118 (a0 b0 : Int) (a1 b1 : Int) : eqT Tryd.prog 20 118 (.agg [.int .i64 a0, .int .i64 a1]) (.agg [.int .i64 b0, .int .i64 b1]) = some ((a0 == b0) && ((a1 == b1) && true)) := by kernel_rfl
@[go_sem] theorem Tryd.eqg118 : Program.eqGuardType Tryd.prog (Program.depth Tryd.prog) 118 = false := by kernel_rfl
@[go_sem] theorem Tryd.agg121 : aggO Tryd.prog 121 = some true := by kernel_rfl
@[go_sem] theorem Tryd.pln121 : plainO Tryd.prog 121 = some true := by kernel_rfl
@[go_sem] theorem Tryd.sz121 : szO Tryd.prog 121 = some 3 := by kernel_rfl
@[go_sem] theorem Tryd.zero121 : zeroL Tryd.prog 121 = some [.nilSl, .int .i64 0, .int .i64 0] := by kernel_rfl
@[go_sem] theorem Tryd.small121 : smallO Tryd.prog 121 = some (3, 40) := by kernel_rfl
@[go_sem] theorem Tryd.zt121 : zeroT Tryd.prog 121 = some (.agg [.nilSl, .int .i64 0, .int .i64 0]) := by kernel_rfl
@[go_sem] theorem Tryd.fld121_0 : fieldO Tryd.prog 121 0 = some (0, 32) := by kernel_rfl
@[go_sem] theorem Tryd.bld121 (parts : List (Nat × TV)) : buildO Tryd.prog 121 parts = (fillT (fun i => ([(0, 3)] : List (Nat × Nat))[i]?) [.nilSl, .int .i64 0, .int .i64 0] parts).map .agg := by kernel_rfl
@[go_sem] theorem Tryd.bldp121 (parts : List (Nat × PV)) : buildP Tryd.prog 121 parts = fillP (fun i => ([(0, 3)] : List (Nat × Nat))[i]?) [.t (.nilSl), .t (.int .i64 0), .t (.int .i64 0)] parts := by kernel_rfl
@[go_sem] theorem Tryd.eqg121 : Program.eqGuardType Tryd.prog (Program.depth Tryd.prog) 121 = false := by kernel_rfl
@[go_sem] theorem Tryd.agg123 : aggO Tryd.prog 123 = some false := by kernel_rfl
@[go_sem] theorem Tryd.pln123 : plainO Tryd.prog 123 = some true := by kernel_rfl
@[go_sem] theorem Tryd.sz123 : szO Tryd.prog 123 = some 1 := by kernel_rfl
@[go_sem] theorem Tryd.zero123 : zeroL Tryd.prog 123 = some [.nilMap] := by kernel_rfl
@[go_sem] theorem Tryd.small123 : smallO Tryd.prog 123 = some (1, 8) := by kernel_rfl
@[go_sem] theorem Tryd.key123 (a0 : Int) (a1 : Int) : keyOk Tryd.prog 123 (.agg [.int .i64 a0, .int .i64 a1]) = true := by kernel_rfl
@[go_sem] theorem Tryd.map123 : mapO Tryd.prog 123 = some (118, 22) := by kernel_rfl
@[go_sem] theorem Tryd.und123 : Program.underlying Tryd.prog 123 = some (.map 118 22) := by kernel_rfl
@[go_sem] theorem Tryd.zt123 : zeroT Tryd.prog 123 = some (.nilMap) := by kernel_rfl
@[go_sem] theorem Tryd.agg128 : aggO Tryd.prog 128 = some false := by kernel_rfl
@[go_sem] theorem Tryd.pln128 : plainO Tryd.prog 128 = some true := by kernel_rfl
@[go_sem] theorem Tryd.sz128 : szO Tryd.prog 128 = some 1 := by kernel_rfl
@[go_sem] theorem Tryd.zero128 : zeroL Tryd.prog 128 = some [.nilSl] := by kernel_rfl
@[go_sem] theorem Tryd.small128 : smallO Tryd.prog 128 = some (1, 24) := by kernel_rfl
@[go_sem] theorem Tryd.zt128 : zeroT Tryd.prog 128 = some (.nilSl) := by kernel_rfl
@[go_sem] theorem Tryd.eqn128 : eqT Tryd.prog 20 128 .nilSl .nilSl = some true := by kernel_rfl
@[go_sem] theorem Tryd.eqs128 (cs : List TV) (n : Nat) (f : Bool) : eqT Tryd.prog 20 128 (.sl cs n f) .nilSl = some false := by kernel_rfl
@[go_sem] theorem Tryd.eqt128 (cs : List TV) (n : Nat) (f : Bool) : eqT Tryd.prog 20 128 .nilSl (.sl cs n f) = some false := by kernel_rfl
@[go_sem] theorem Tryd.sl128 : sliceO Tryd.prog 128 = some 41 := by kernel_rfl
@[go_sem] theorem Tryd.und128 : Program.underlying Tryd.prog 128 = some (.slice 41) := by kernel_rfl
@[go_sem] theorem Tryd.agg132 : aggO Tryd.prog 132 = some true := by kernel_rfl
@[go_sem] theorem Tryd.pln132 : plainO Tryd.prog 132 = some true := by kernel_rfl
@[go_sem] theorem Tryd.sz132 : szO Tryd.prog 132 = some 5 := by kernel_rfl
@[go_sem] theorem Tryd.zero132 : zeroL Tryd.prog 132 = some [.int .i64 0, .int .i64 0, .int .i64 0, .int .i64 0, .int .i64 0] := by kernel_rfl
@[go_sem] theorem Tryd.small132 : smallO Tryd.prog 132 = some (5, 40) := by kernel_rfl
@[go_sem] theorem Tryd.zt132 : zeroT Tryd.prog 132 = some (.agg [.int .i64 0, .int .i64 0, .int .i64 0, .int .i64 0, .int .i64 0]) := by kernel_rfl
@[go_sem] theorem Tryd.fld132_0 : fieldO Tryd.prog 132 0 = some (0, 41) := by kernel_rfl
@[go_sem] theorem Tryd.fld132_1 : fieldO Tryd.prog 132 1 = some (2, 41) := by kernel_rfl
@[go_sem] theorem Tryd.fld132_2 : fieldO Tryd.prog 132 2 = some (4, 3) := by kernel_rfl
@[go_sem] theorem Tryd.bld132 (parts : List (Nat × TV)) : buildO Tryd.prog 132 parts = (fillT (fun i => ([(0, 2), (2, 2), (4, 1)] : List (Nat × Nat))[i]?) [.int .i64 0, .int .i64 0, .int .i64 0, .int .i64 0, .int .i64 0] parts).map .agg := by kernel_rfl
@[go_sem] theorem Tryd.eq132 (a0 b0 : Int) (a1 b1 : Int) (a2 b2 : Int) (a3 b3 : Int) (a4 b4 : Int) : eqT Tryd.prog 20 132 (.agg [.int .i64 a0, .int .i64 a1, .int .i64 a2, .int .i64 a3, .int .i64 a4]) (.agg [.int .i64 b0, .int .i64 b1, .int .i64 b2, .int .i64 b3, .int .i64 b4]) = some (((a0 == b0) && ((a1 == b1) && true)) && (((a2 == b2) && ((a3 == b3) && true)) && ((a4 == b4) && true))) := by kernel_rfl
@[go_sem] theorem Tryd.eqg132 : Program.eqGuardType Tryd.prog (Program.depth Tryd.prog) 132 = false := by kernel_rfl
@[go_sem] theorem Tryd.agg133 : aggO Tryd.prog 133 = some false := by kernel_rfl
@[go_sem] theorem Tryd.pln133 : plainO Tryd.prog 133 = some true := by kernel_rfl
@[go_sem] theorem Tryd.sz133 : szO Tryd.prog 133 = some 1 := by kernel_rfl
@[go_sem] theorem Tryd.zero133 : zeroL Tryd.prog 133 = some [.nilSl] := by kernel_rfl
@[go_sem] theorem Tryd.small133 : smallO Tryd.prog 133 = some (1, 24) := by kernel_rfl
@[go_sem] theorem Tryd.zt133 : zeroT Tryd.prog 133 = some (.nilSl) := by kernel_rfl
@[go_sem] theorem Tryd.eqn133 : eqT Tryd.prog 20 133 .nilSl .nilSl = some true := by kernel_rfl
@[go_sem] theorem Tryd.eqs133 (cs : List TV) (n : Nat) (f : Bool) : eqT Tryd.prog 20 133 (.sl cs n f) .nilSl = some false := by kernel_rfl
@[go_sem] theorem Tryd.eqt133 (cs : List TV) (n : Nat) (f : Bool) : eqT Tryd.prog 20 133 .nilSl (.sl cs n f) = some false := by kernel_rfl
@[go_sem] theorem Tryd.sl133 : sliceO Tryd.prog 133 = some 132 := by kernel_rfl
@[go_sem] theorem Tryd.und133 : Program.underlying Tryd.prog 133 = some (.slice 132) := by kernel_rfl
@[go_sem] theorem Tryd.agg136 : aggO Tryd.prog 136 = some true := by kernel_rfl
@[go_sem] theorem Tryd.pln136 : plainO Tryd.prog 136 = some true := by kernel_rfl
@[go_sem] theorem Tryd.sz136 : szO Tryd.prog 136 = some 8 := by kernel_rfl
@[go_sem] theorem Tryd.zero136 : zeroL Tryd.prog 136 = some [.int .i64 0, .int .i64 0, .int .i64 0, .int .i64 0, .int .i64 0, .int .i64 0, .int .i64 0, .int .i64 0] := by kernel_rfl
@[go_sem] theorem Tryd.small136 : smallO Tryd.prog 136 = some (8, 64) := by kernel_rfl
@[go_sem] theorem Tryd.zt136 : zeroT Tryd.prog 136 = some (.agg [.int .i64 0, .int .i64 0, .int .i64 0, .int .i64 0, .int .i64 0, .int .i64 0, .int .i64 0, .int .i64 0]) := by kernel_rfl
@[go_sem] theorem Tryd.fld136_0 : fieldO Tryd.prog 136 0 = some (0, 43) := by kernel_rfl
@[go_sem] theorem Tryd.bld136 (parts : List (Nat × TV)) : buildO Tryd.prog 136 parts = (fillT (fun i => ([(0, 8)] : List (Nat × Nat))[i]?) [.int .i64 0, .int .i64 0, .int .i64 0, .int .i64 0, .int .i64 0, .int .i64 0, .int .i64 0, .int .i64 0] parts).map .agg := by kernel_rfl
@[go_sem] theorem Tryd.eq136 (a0 b0 : Int) (a1 b1 : Int) (a2 b2 : Int) (a3 b3 : Int) (a4 b4 : Int) (a5 b5 : Int) (a6 b6 : Int) (a7 b7 : Int) : eqT Tryd.prog 20 136 (.agg [.int .i64 a0, .int .i64 a1, .int .i64 a2, .int .i64 a3, .int .i64 a4, .int .i64 a5, .int .i64 a6, .int .i64 a7]) (.agg [.int .i64 b0, .int .i64 b1, .int .i64 b2, .int .i64 b3, .int .i64 b4, .int .i64 b5, .int .i64 b6, .int .i64 b7]) = some (((a0 == b0) && (((a1 == b1) && ((a2 == b2) && true)) && (((a3 == b3) && ((a4 == b4) && true)) && (((a5 == b5) && ((a6 == b6) && true)) && ((a7 == b7) && true))))) && true) := by kernel_rfl
@[go_sem] theorem Tryd.eqg136 : Program.eqGuardType Tryd.prog (Program.depth Tryd.prog) 136 = false := by kernel_rfl
@[go_sem] theorem Tryd.agg137 : aggO Tryd.prog 137 = some false := by kernel_rfl
@[go_sem] theorem Tryd.pln137 : plainO Tryd.prog 137 = some true := by kernel_rfl
@[go_sem] theorem Tryd.sz137 : szO Tryd.prog 137 = some 1 := by kernel_rfl
@[go_sem] theorem Tryd.zero137 : zeroL Tryd.prog 137 = some [.nilSl] := by kernel_rfl
@[go_sem] theorem Tryd.small137 : smallO Tryd.prog 137 = some (1, 24) := by kernel_rfl
@[go_sem] theorem Tryd.zt137 : zeroT Tryd.prog 137 = some (.nilSl) := by kernel_rfl
@[go_sem] theorem Tryd.eqn137 : eqT Tryd.prog 20 137 .nilSl .nilSl = some true := by kernel_rfl
@[go_sem] theorem Tryd.eqs137 (cs : List TV) (n : Nat) (f : Bool) : eqT Tryd.prog 20 137 (.sl cs n f) .nilSl = some false := by kernel_rfl
@[go_sem] theorem Tryd.eqt137 (cs : List TV) (n : Nat) (f : Bool) : eqT Tryd.prog 20 137 .nilSl (.sl cs n f) = some false := by kernel_rfl
@[go_sem] theorem Tryd.sl137 : sliceO Tryd.prog 137 = some 141 := by kernel_rfl
@[go_sem] theorem Tryd.und137 : Program.underlying Tryd.prog 137 = some (.slice 141) := by kernel_rfl
@[go_sem] theorem Tryd.agg141 : aggO Tryd.prog 141 = some false := by kernel_rfl
@[go_sem] theorem Tryd.pln141 : plainO Tryd.prog 141 = some false := by kernel_rfl
@[go_sem] theorem Tryd.sz141 : szO Tryd.prog 141 = some 1 := by kernel_rfl
@[go_sem] theorem Tryd.zero141 : zeroL Tryd.prog 141 = some [.nilIf] := by kernel_rfl
@[go_sem] theorem Tryd.small141 : smallO Tryd.prog 141 = some (1, 16) := by kernel_rfl
@[go_sem] theorem Tryd.zt141 : zeroT Tryd.prog 141 = some (.nilIf) := by kernel_rfl
@[go_sem] theorem Tryd.agg146 : aggO Tryd.prog 146 = some false := by kernel_rfl
@[go_sem] theorem Tryd.pln146 : plainO Tryd.prog 146 = some true := by kernel_rfl
@[go_sem] theorem Tryd.sz146 : szO Tryd.prog 146 = some 1 := by kernel_rfl
@[go_sem] theorem Tryd.zero146 : zeroL Tryd.prog 146 = some [.nilSl] := by kernel_rfl
@[go_sem] theorem Tryd.small146 : smallO Tryd.prog 146 = some (1, 24) := by kernel_rfl
@[go_sem] theorem Tryd.zt146 : zeroT Tryd.prog 146 = some (.nilSl) := by kernel_rfl
@[go_sem] theorem Tryd.eqn146 : eqT Tryd.prog 20 146 .nilSl .nilSl = some true := by kernel_rfl
@[go_sem] theorem Tryd.eqs146 (cs : List TV) (n : Nat) (f : Bool) : eqT Tryd.prog 20 146 (.sl cs n f) .nilSl = some false := by kernel_rfl
@[go_sem] theorem Tryd.eqt146 (cs : List TV) (n : Nat) (f : Bool) : eqT Tryd.prog 20 146 .nilSl (.sl cs n f) = some false := by kernel_rfl
@[go_sem] theorem Tryd.sl146 : sliceO Tryd.prog 146 = some 128 := by kernel_rfl
@[go_sem] theorem Tryd.und146 : Program.underlying Tryd.prog 146 = some (.slice 128) := by kernel_rfl
@[go_sem] theorem Tryd.agg191 : aggO Tryd.prog 191 = some false := by kernel_rfl
@[go_sem] theorem Tryd.pln191 : plainO Tryd.prog 191 = some true := by kernel_rfl
@[go_sem] theorem Tryd.sz191 : szO Tryd.prog 191 = some 1 := by kernel_rfl
@[go_sem] theorem Tryd.zero191 : zeroL Tryd.prog 191 = some [.nilFn] := by kernel_rfl
@[go_sem] theorem Tryd.small191 : smallO Tryd.prog 191 = some (1, 8) := by kernel_rfl
@[go_sem] theorem Tryd.zt191 : zeroT Tryd.prog 191 = some (.nilFn) := by kernel_rfl
@[go_sem] theorem Tryd.agg202 : aggO Tryd.prog 202 = some false := by kernel_rfl
@[go_sem] theorem Tryd.pln202 : plainO Tryd.prog 202 = some true := by kernel_rfl
@[go_sem] theorem Tryd.sz202 : szO Tryd.prog 202 = some 1 := by kernel_rfl
@[go_sem] theorem Tryd.zero202 : zeroL Tryd.prog 202 = some [.nilMap] := by kernel_rfl
@[go_sem] theorem Tryd.small202 : smallO Tryd.prog 202 = some (1, 8) := by kernel_rfl
@[go_sem] theorem Tryd.map202 : mapO Tryd.prog 202 = some (3, 3) := by kernel_rfl
@[go_sem] theorem Tryd.und202 : Program.underlying Tryd.prog 202 = some (.map 3 3) := by kernel_rfl
@[go_sem] theorem Tryd.zt202 : zeroT Tryd.prog 202 = some (.nilMap) := by kernel_rfl
@[go_sem] theorem Tryd.agg203 : aggO Tryd.prog 203 = some false := by kernel_rfl
@[go_sem] theorem Tryd.pln203 : plainO Tryd.prog 203 = some true := by kernel_rfl
@[go_sem] theorem Tryd.sz203 : szO Tryd.prog 203 = some 1 := by kernel_rfl
@[go_sem] theorem Tryd.zero203 : zeroL Tryd.prog 203 = some [.nilFn] := by kernel_rfl
@[go_sem] theorem Tryd.small203 : smallO Tryd.prog 203 = some (1, 8) := by kernel_rfl
@[go_sem] theorem Tryd.zt203 : zeroT Tryd.prog 203 = some (.nilFn) := by kernel_rfl
@[go_sem] theorem Tryd.agg205 : aggO Tryd.prog 205 = some true := by kernel_rfl
@[go_sem] theorem Tryd.pln205 : plainO Tryd.prog 205 = some true := by kernel_rfl
@[go_sem] theorem Tryd.sz205 : szO Tryd.prog 205 = some 5 := by kernel_rfl
@[go_sem] theorem Tryd.zero205 : zeroL Tryd.prog 205 = some [.int .i64 0, .int .i64 0, .int .i64 0, .int .i64 0, .int .i64 0] := by kernel_rfl
@[go_sem] theorem Tryd.small205 : smallO Tryd.prog 205 = some (5, 40) := by kernel_rfl
@[go_sem] theorem Tryd.zt205 : zeroT Tryd.prog 205 = some (.agg [.int .i64 0, .int .i64 0, .int .i64 0, .int .i64 0, .int .i64 0]) := by kernel_rfl
@[go_sem] theorem Tryd.fld205_0 : fieldO Tryd.prog 205 0 = some (0, 132) := by kernel_rfl
@[go_sem] theorem Tryd.bld205 (parts : List (Nat × TV)) : buildO Tryd.prog 205 parts = (fillT (fun i => ([(0, 5)] : List (Nat × Nat))[i]?) [.int .i64 0, .int .i64 0, .int .i64 0, .int .i64 0, .int .i64 0] parts).map .agg := by kernel_rfl
@[go_sem] theorem Tryd.eq205 (a0 b0 : Int) (a1 b1 : Int) (a2 b2 : Int) (a3 b3 : Int) (a4 b4 : Int) : eqT Tryd.prog 20 205 (.agg [.int .i64 a0, .int .i64 a1, .int .i64 a2, .int .i64 a3, .int .i64 a4]) (.agg [.int .i64 b0, .int .i64 b1, .int .i64 b2, .int .i64 b3, .int .i64 b4]) = some ((((a0 == b0) && ((a1 == b1) && true)) && (((a2 == b2) && ((a3 == b3) && true)) && ((a4 == b4) && true))) && true) := by kernel_rfl
@[go_sem] theorem Tryd.eqg205 : Program.eqGuardType Tryd.prog (Program.depth Tryd.prog) 205 = false := by kernel_rfl
@[go_sem] theorem Tryd.agg208 : aggO Tryd.prog 208 = some true := by kernel_rfl
@[go_sem] theorem Tryd.pln208 : plainO Tryd.prog 208 = some true := by kernel_rfl
@[go_sem] theorem Tryd.sz208 : szO Tryd.prog 208 = some 3 := by kernel_rfl
@[go_sem] theorem Tryd.zero208 : zeroL Tryd.prog 208 = some [.int .i64 0, .int .i64 0, .bool false] := by kernel_rfl
@[go_sem] theorem Tryd.small208 : smallO Tryd.prog 208 = some (3, 24) := by kernel_rfl
@[go_sem] theorem Tryd.zt208 : zeroT Tryd.prog 208 = some (.agg [.int .i64 0, .int .i64 0, .bool false]) := by kernel_rfl
@[go_sem] theorem Tryd.fld208_0 : fieldO Tryd.prog 208 0 = some (0, 3) := by kernel_rfl
@[go_sem] theorem Tryd.fld208_1 : fieldO Tryd.prog 208 1 = some (1, 3) := by kernel_rfl
@[go_sem] theorem Tryd.fld208_2 : fieldO Tryd.prog 208 2 = some (2, 4) := by kernel_rfl
@[go_sem] theorem Tryd.bld208 (parts : List (Nat × TV)) : buildO Tryd.prog 208 parts = (fillT (fun i => ([(0, 1), (1, 1), (2, 1)] : List (Nat × Nat))[i]?) [.int .i64 0, .int .i64 0, .bool false] parts).map .agg := by kernel_rfl
@[go_sem] theorem Tryd.eq208 (a0 b0 : Int) (a1 b1 : Int) (a2 b2 : Bool) : eqT Tryd.prog 20 208 (.agg [.int .i64 a0, .int .i64 a1, .bool a2]) (.agg [.int .i64 b0, .int .i64 b1, .bool b2]) = some ((a0 == b0) && ((a1 == b1) && ((a2 == b2) && true))) := by kernel_rfl
@[go_sem] theorem Tryd.eqg208 : Program.eqGuardType Tryd.prog (Program.depth Tryd.prog) 208 = false := by kernel_rfl
@[go_sem] theorem Tryd.agg210 : aggO Tryd.prog 210 = some true := by kernel_rfl
@[go_sem] theorem Tryd.pln210 : plainO Tryd.prog 210 = some true := by kernel_rfl
@[go_sem] theorem Tryd.sz210 : szO Tryd.prog 210 = some 2 := by kernel_rfl
@[go_sem] theorem Tryd.zero210 : zeroL Tryd.prog 210 = some [.int .i64 0, .nilFn] := by kernel_rfl
@[go_sem] theorem Tryd.small210 : smallO Tryd.prog 210 = some (2, 16) := by kernel_rfl
@[go_sem] theorem Tryd.zt210 : zeroT Tryd.prog 210 = some (.agg [.int .i64 0, .nilFn]) := by kernel_rfl
@[go_sem] theorem Tryd.fld210_0 : fieldO Tryd.prog 210 0 = some (0, 3) := by kernel_rfl
@[go_sem] theorem Tryd.fld210_1 : fieldO Tryd.prog 210 1 = some (1, 25) := by kernel_rfl
@[go_sem] theorem Tryd.bld210 (parts : List (Nat × TV)) : buildO Tryd.prog 210 parts = (fillT (fun i => ([(0, 1), (1, 1)] : List (Nat × Nat))[i]?) [.int .i64 0, .nilFn] parts).map .agg := by kernel_rfl
@[go_sem] theorem Tryd.bldp210 (parts : List (Nat × PV)) : buildP Tryd.prog 210 parts = fillP (fun i => ([(0, 1), (1, 1)] : List (Nat × Nat))[i]?) [.t (.int .i64 0), .t (.nilFn)] parts := by kernel_rfl
@[go_sem] theorem Tryd.eqg210 : Program.eqGuardType Tryd.prog (Program.depth Tryd.prog) 210 = false := by kernel_rfl
@[go_sem] theorem Tryd.agg212 : aggO Tryd.prog 212 = some false := by kernel_rfl
@[go_sem] theorem Tryd.pln212 : plainO Tryd.prog 212 = some true := by kernel_rfl
@[go_sem] theorem Tryd.sz212 : szO Tryd.prog 212 = some 1 := by kernel_rfl
@[go_sem] theorem Tryd.zero212 : zeroL Tryd.prog 212 = some [.nilFn] := by kernel_rfl
@[go_sem] theorem Tryd.small212 : smallO Tryd.prog 212 = some (1, 8) := by kernel_rfl
@[go_sem] theorem Tryd.zt212 : zeroT Tryd.prog 212 = some (.nilFn) := by kernel_rfl
@[go_sem] theorem Tryd.agg218 : aggO Tryd.prog 218 = some true := by kernel_rfl
@[go_sem] theorem Tryd.pln218 : plainO Tryd.prog 218 = some true := by kernel_rfl
@[go_sem] theorem Tryd.sz218 : szO Tryd.prog 218 = some 6 := by kernel_rfl
@[go_sem] theorem Tryd.zero218 : zeroL Tryd.prog 218 = some [.int .i64 0, .int .i64 0, .int .i64 0, .int .i64 0, .int .i64 0, .int .i64 0] := by kernel_rfl
@[go_sem] theorem Tryd.small218 : smallO Tryd.prog 218 = some (6, 48) := by kernel_rfl
@[go_sem] theorem Tryd.zt218 : zeroT Tryd.prog 218 = some (.agg [.int .i64 0, .int .i64 0, .int .i64 0, .int .i64 0, .int .i64 0, .int .i64 0]) := by kernel_rfl
@[go_sem] theorem Tryd.fld218_0 : fieldO Tryd.prog 218 0 = some (0, 3) := by kernel_rfl
@[go_sem] theorem Tryd.fld218_1 : fieldO Tryd.prog 218 1 = some (1, 3) := by kernel_rfl
@[go_sem] theorem Tryd.fld218_2 : fieldO Tryd.prog 218 2 = some (2, 3) := by kernel_rfl
@[go_sem] theorem Tryd.fld218_3 : fieldO Tryd.prog 218 3 = some (3, 3) := by kernel_rfl
@[go_sem] theorem Tryd.fld218_4 : fieldO Tryd.prog 218 4 = some (4, 3) := by kernel_rfl
@[go_sem] theorem Tryd.fld218_5 : fieldO Tryd.prog 218 5 = some (5, 3) := by kernel_rfl
@[go_sem] theorem Tryd.bld218 (parts : List (Nat × TV)) : buildO Tryd.prog 218 parts = (fillT (fun i => ([(0, 1), (1, 1), (2, 1), (3, 1), (4, 1), (5, 1)] : List (Nat × Nat))[i]?) [.int .i64 0, .int .i64 0, .int .i64 0, .int .i64 0, .int .i64 0, .int .i64 0] parts).map .agg := by kernel_rfl
@[go_sem] theorem Tryd.eq218 (a0 b0 : Int) (a1 b1 : Int) (a2 b2 : Int) (a3 b3 : Int) (a4 b4 : Int) (a5 b5 : Int) : eqT Tryd.prog 20 218 (.agg [.int .i64 a0, .int .i64 a1, .int .i64 a2, .int .i64 a3, .int .i64 a4, .int .i64 a5]) (.agg [.int .i64 b0, .int .i64 b1, .int .i64 b2, .int .i64 b3, .int .i64 b4, .int .i64 b5]) = some ((a0 == b0) && ((a1 == b1) && ((a2 == b2) && ((a3 == b3) && ((a4 == b4) && ((a5 == b5) && true)))))) := by kernel_rfl
@[go_sem] theorem Tryd.eqg218 : Program.eqGuardType Tryd.prog (Program.depth Tryd.prog) 218 = false := by kernel_rfl
@[go_sem] theorem Tryd.agg219 : aggO Tryd.prog 219 = some false := by kernel_rfl
@[go_sem] theorem Tryd.pln219 : plainO Tryd.prog 219 = some true := by kernel_rfl
@[go_sem] theorem Tryd.sz219 : szO Tryd.prog 219 = some 1 := by kernel_rfl
@[go_sem] theorem Tryd.zero219 : zeroL Tryd.prog 219 = some [.nilFn] := by kernel_rfl
@[go_sem] theorem Tryd.small219 : smallO Tryd.prog 219 = some (1, 8) := by kernel_rfl
@[go_sem] theorem Tryd.zt219 : zeroT Tryd.prog 219 = some (.nilFn) := by kernel_rfl
@[go_sem] theorem Tryd.agg221 : aggO Tryd.prog 221 = some true := by kernel_rfl
@[go_sem] theorem Tryd.pln221 : plainO Tryd.prog 221 = some true := by kernel_rfl
@[go_sem] theorem Tryd.sz221 : szO Tryd.prog 221 = some 9 := by kernel_rfl
@[go_sem] theorem Tryd.zero221 : zeroL Tryd.prog 221 = some [.int .i64 0, .int .i64 0, .int .i64 0, .int .i64 0, .int .i64 0, .int .i64 0, .int .i64 0, .int .i64 0, .int .i64 0] := by kernel_rfl
@[go_sem] theorem Tryd.small221 : smallO Tryd.prog 221 = some (9, 72) := by kernel_rfl
@[go_sem] theorem Tryd.zt221 : zeroT Tryd.prog 221 = some (.agg [.int .i64 0, .int .i64 0, .int .i64 0, .int .i64 0, .int .i64 0, .int .i64 0, .int .i64 0, .int .i64 0, .int .i64 0]) := by kernel_rfl
@[go_sem] theorem Tryd.bld221 (parts : List (Nat × TV)) : buildO Tryd.prog 221 parts = (fillT (fun i => some (i * 1, 1)) [.int .i64 0, .int .i64 0, .int .i64 0, .int .i64 0, .int .i64 0, .int .i64 0, .int .i64 0, .int .i64 0, .int .i64 0] parts).map .agg := by kernel_rfl
@[go_sem] theorem Tryd.eq221 (a0 b0 : Int) (a1 b1 : Int) (a2 b2 : Int) (a3 b3 : Int) (a4 b4 : Int) (a5 b5 : Int) (a6 b6 : Int) (a7 b7 : Int) (a8 b8 : Int) : eqT Tryd.prog 20 221 (.agg [.int .i64 a0, .int .i64 a1, .int .i64 a2, .int .i64 a3, .int .i64 a4, .int .i64 a5, .int .i64 a6, .int .i64 a7, .int .i64 a8]) (.agg [.int .i64 b0, .int .i64 b1, .int .i64 b2, .int .i64 b3, .int .i64 b4, .int .i64 b5, .int .i64 b6, .int .i64 b7, .int .i64 b8]) = some ((a0 == b0) && ((a1 == b1) && ((a2 == b2) && ((a3 == b3) && ((a4 == b4) && ((a5 == b5) && ((a6 == b6) && ((a7 == b7) && ((a8 == b8) && true))))))))) := by kernel_rfl
@[go_sem] theorem Tryd.eqg221 : Program.eqGuardType Tryd.prog (Program.depth Tryd.prog) 221 = false := by kernel_rfl
@[go_sem] theorem Tryd.arr221 : arrayO Tryd.prog 221 = some (9, 3) := by kernel_rfl
@[go_sem] theorem Tryd.und221 : Program.underlying Tryd.prog 221 = some (.array 9 3) := by kernel_rfl
@[go_sem] theorem Tryd.agg223 : aggO Tryd.prog 223 = some true := by kernel_rfl
@[go_sem] theorem Tryd.pln223 : plainO Tryd.prog 223 = some true := by kernel_rfl
@[go_sem] theorem Tryd.sz223 : szO Tryd.prog 223 = some 36 := by kernel_rfl
@[go_sem] theorem Tryd.zero223 : zeroL Tryd.prog 223 = some [.int .i64 0, .int .i64 0, .int .i64 0, .int .i64 0, .int .i64 0, .int .i64 0, .int .i64 0, .int .i64 0, .int .i64 0, .int .i64 0, .int .i64 0, .int .i64 0, .int .i64 0, .int .i64 0, .int .i64 0, .int .i64 0, .int .i64 0, .int .i64 0, .int .i64 0, .int .i64 0, .int .i64 0, .int .i64 0, .int .i64 0, .int .i64 0, .int .i64 0, .int .i64 0, .int .i64 0, .int .i64 0, .int .i64 0, .int .i64 0, .int .i64 0, .int .i64 0, .int .i64 0, .int .i64 0, .int .i64 0, .int .i64 0] := by kernel_rfl
@[go_sem] theorem Tryd.small223 : smallO Tryd.prog 223 = some (36, 288) := by kernel_rfl
@[go_sem] theorem Tryd.zt223 : zeroT Tryd.prog 223 = some (.agg [.int .i64 0, .int .i64 0, .int .i64 0, .int .i64 0, .int .i64 0, .int .i64 0, .int .i64 0, .int .i64 0, .int .i64 0, .int .i64 0, .int .i64 0, .int .i64 0, .int .i64 0, .int .i64 0, .int .i64 0, .int .i64 0, .int .i64 0, .int .i64 0, .int .i64 0, .int .i64 0, .int .i64 0, .int .i64 0, .int .i64 0, .int .i64 0, .int .i64 0, .int .i64 0, .int .i64 0, .int .i64 0, .int .i64 0, .int .i64 0, .int .i64 0, .int .i64 0, .int .i64 0, .int .i64 0, .int .i64 0, .int .i64 0]) := by kernel_rfl
@[go_sem] theorem Tryd.bld223 (parts : List (Nat × TV)) : buildO Tryd.prog 223 parts = (fillT (fun i => some (i * 9, 9)) [.int .i64 0, .int .i64 0, .int .i64 0, .int .i64 0, .int .i64 0, .int .i64 0, .int .i64 0, .int .i64 0, .int .i64 0, .int .i64 0, .int .i64 0, .int .i64 0, .int .i64 0, .int .i64 0, .int .i64 0, .int .i64 0, .int .i64 0, .int .i64 0, .int .i64 0, .int .i64 0, .int .i64 0, .int .i64 0, .int .i64 0, .int .i64 0, .int .i64 0, .int .i64 0, .int .i64 0, .int .i64 0, .int .i64 0, .int .i64 0, .int .i64 0, .int .i64 0, .int .i64 0, .int .i64 0, .int .i64 0, .int .i64 0] parts).map .agg := by kernel_rfl
@[go_sem] theorem Tryd.eqg223 : Program.eqGuardType Tryd.prog (Program.depth Tryd.prog) 223 = false := by kernel_rfl
@[go_sem] theorem Tryd.arr223 : arrayO Tryd.prog 223 = some (4, 221) := by kernel_rfl
@[go_sem] theorem Tryd.und223 : Program.underlying Tryd.prog 223 = some (.array 4 221) := by kernel_rfl
@[go_sem] theorem Tryd.agg241 : aggO Tryd.prog 241 = some true := by kernel_rfl
@[go_sem] theorem Tryd.pln241 : plainO Tryd.prog 241 = some true := by kernel_rfl
@[go_sem] theorem Tryd.sz241 : szO Tryd.prog 241 = some 2 := by kernel_rfl
@[go_sem] theorem Tryd.zero241 : zeroL Tryd.prog 241 = some [.int .i64 0, .int .i64 0] := by kernel_rfl
@[go_sem] theorem Tryd.small241 : smallO Tryd.prog 241 = some (2, 16) := by kernel_rfl
@[go_sem] theorem Tryd.zt241 : zeroT Tryd.prog 241 = some (.agg [.int .i64 0, .int .i64 0]) := by kernel_rfl
@[go_sem] theorem Tryd.fld241_0 : fieldO Tryd.prog 241 0 = some (0, 41) := by kernel_rfl
@[go_sem] theorem Tryd.bld241 (parts : List (Nat × TV)) : buildO Tryd.prog 241 parts = (fillT (fun i => ([(0, 2)] : List (Nat × Nat))[i]?) [.int .i64 0, .int .i64 0] parts).map .agg := by kernel_rfl
@[go_sem] theorem Tryd.eq241 (a0 b0 : Int) (a1 b1 : Int) : eqT Tryd.prog 20 241 (.agg [.int .i64 a0, .int .i64 a1]) (.agg [.int .i64 b0, .int .i64 b1]) = some (((a0 == b0) && ((a1 == b1) && true)) && true) := by kernel_rfl
@[go_sem] theorem Tryd.eqg241 : Program.eqGuardType Tryd.prog (Program.depth Tryd.prog) 241 = false := by kernel_rfl
@[go_sem] theorem Tryd.agg242 : aggO Tryd.prog 242 = some false := by kernel_rfl
@[go_sem] theorem Tryd.pln242 : plainO Tryd.prog 242 = some true := by kernel_rfl
@[go_sem] theorem Tryd.sz242 : szO Tryd.prog 242 = some 1 := by kernel_rfl
@[go_sem] theorem Tryd.zero242 : zeroL Tryd.prog 242 = some [.nilFn] := by kernel_rfl
@[go_sem] theorem Tryd.small242 : smallO Tryd.prog 242 = some (1, 8) := by kernel_rfl
@[go_sem] theorem Tryd.zt242 : zeroT Tryd.prog 242 = some (.nilFn) := by kernel_rfl
@[go_sem] theorem Tryd.agg245 : aggO Tryd.prog 245 = some false := by kernel_rfl
@[go_sem] theorem Tryd.pln245 : plainO Tryd.prog 245 = some true := by kernel_rfl
@[go_sem] theorem Tryd.sz245 : szO Tryd.prog 245 = some 1 := by kernel_rfl
@[go_sem] theorem Tryd.zero245 : zeroL Tryd.prog 245 = some [.nilPtr] := by kernel_rfl
@[go_sem] theorem Tryd.small245 : smallO Tryd.prog 245 = some (1, 8) := by kernel_rfl
@[go_sem] theorem Tryd.zt245 : zeroT Tryd.prog 245 = some (.nilPtr) := by kernel_rfl
theorem Tryd.mixes : Tryd.prog.follows .mixedOrders = true := by kernel_rfl
end Go.Proofs.YtlonlnfenbadbaaDoor

/- Part Pb. -/
namespace Go.Oc
open Go Go.Pm

def In64 (n : Int) : Prop := -9223372036854775808 ≤ n ∧ n ≤ 9223372036854775807
def inB (n lo hi : Int) : Bool := decide (lo ≤ n) && decide (n ≤ hi)
theorem inB_iff {n lo hi : Int} : inB n lo hi = true ↔ lo ≤ n ∧ n ≤ hi := by simp [inB]

structure Span where
 lo : Int
 hi : Int
 deriving DecidableEq
def Span.cs (s : Span) : List TV := [.int .i64 s.lo, .int .i64 s.hi]
def Span.t (s : Span) : TV := .agg s.cs
def spannedB (s : Span) (lo hi : Int) : Bool := decide (lo ≤ s.lo) && decide (s.lo ≤ s.hi) && decide (s.hi ≤ hi)
def ints (l : List Int) : List TV := l.map (TV.int .i64)
theorem ints_at {l : List Int} {k : Nat} {x : Int} (h : l[k]? = some x) : (ints l).drop (k * 1) = .int .i64 x :: ints (l.drop (k + 1)) := by
 unfold ints
 rw [Nat.mul_one, ← List.map_drop]
 have hk := (List.getElem?_eq_some_iff.1 h).1
 rw [List.drop_eq_getElem_cons hk, List.map_cons]
 congr 2
 exact (List.getElem?_eq_some_iff.1 h).2
theorem ints_len (l : List Int) : (ints l).length = l.length := by simp [ints]
theorem flat_at {α : Type} (c : α → List TV) {n : Nat} (hc : ∀ x, (c x).length = n) : ∀ {l : List α} {k : Nat} {x : α}, l[k]? = some x → (l.flatMap c).drop (k * n) = c x ++ (l.drop (k + 1)).flatMap c
 | [], k, x, h => by simp at h
 | y :: l, 0, x, h => by simp at h; subst h; simp
 | y :: l, k + 1, x, h => by
  simp at h
  have := flat_at c hc h
  simp only [List.flatMap_cons, List.drop_succ_cons, Nat.add_mul, Nat.one_mul]
  rw [Nat.add_comm, List.drop_append, hc y]
  simp [List.drop_eq_nil_of_le, hc y, this]
theorem flat_len {α : Type} (c : α → List TV) {n : Nat} (hc : ∀ x, (c x).length = n) (l : List α) : (l.flatMap c).length = l.length * n := by
 induction l with
 | nil => simp
 | cons x l ih => simp only [List.flatMap_cons, List.length_append, hc, ih, List.length_cons, Nat.add_mul]; omega
theorem flat_inj {α : Type} {c : α → List TV} {n : Nat} (hc : ∀ x, (c x).length = n) (hn : 0 < n) (hi : ∀ x y, c x = c y → x = y) : ∀ {a b : List α}, a.flatMap c = b.flatMap c → a = b
 | [], [], _ => rfl
 | x :: a, y :: b, h => by
  simp only [List.flatMap_cons] at h
  have h1 := List.append_inj h (by rw [hc, hc])
  rw [hi x y h1.1, flat_inj hc hn hi h1.2]
 | [], y :: b, h => by have := congrArg List.length h; simp [hc] at this; omega
 | x :: a, [], h => by have := congrArg List.length h; simp [hc] at this; omega
noncomputable def unflat {α : Type} (c : α → List TV) (cs : List TV) : Option (List α) := open Classical in if h : ∃ l, cs = l.flatMap c then some h.choose else none
theorem unflat_eq {α : Type} {c : α → List TV} {n : Nat} (hc : ∀ x, (c x).length = n) (hn : 0 < n) (hi : ∀ x y, c x = c y → x = y) (l : List α) : unflat c (l.flatMap c) = some l := by
 have h : ∃ l' : List α, l.flatMap c = l'.flatMap c := ⟨l, rfl⟩
 unfold unflat
 rw [dif_pos h]
 congr 1
 exact (flat_inj hc hn hi h.choose_spec).symm
theorem unflat_some {α : Type} {c : α → List TV} {cs : List TV} {l : List α} (h : unflat c cs = some l) : cs = l.flatMap c := by
 unfold unflat at h
 split at h
 ·rename_i hc; cases h; exact hc.choose_spec
 ·cases h
def IsRow {α : Type} (c : α → List TV) (s : TV) (l : List α) : Prop := (s = .nilSl ∧ l = []) ∨ ∃ full, s = .sl (l.flatMap c) l.length full
noncomputable def rowL {α : Type} (un : List TV → Option (List α)) : TV → Option (List α)
 | .nilSl => un []
 | .sl cs n _ => match un cs with
  | some l => if n = l.length then some l else none
  | none => none
 | _ => none
attribute [go_sem] rowL
theorem rowL_some {α : Type} {c : α → List TV} {un : List TV → Option (List α)} (h0 : un [] = some []) (hu : ∀ {cs l}, un cs = some l → cs = l.flatMap c) {s : TV} {l : List α} (h : rowL un s = some l) : IsRow c s l := by
 unfold rowL at h
 split at h
 ·rw [h0] at h; cases h; exact .inl ⟨rfl, rfl⟩
 ·split at h
  ·rename_i l' hl
   split at h
   ·rename_i hn
    cases h
    have := hu hl
    subst this; subst hn
    exact .inr ⟨_, rfl⟩
   ·cases h
  ·cases h
 ·cases h
theorem IsRow.ne {α : Type} {c : α → List TV} {s : TV} {l : List α} (h : IsRow c s l) (hl : 1 ≤ l.length) : ∃ full, s = .sl (l.flatMap c) l.length full := by
 rcases h with ⟨_, rfl⟩ | h
 ·simp at hl
 ·exact h

theorem get_lt {α : Type} {l : List α} {k : Nat} (h : (k : Int) < (l.length : Int)) : ∃ x, l[k]? = some x := ⟨l[k]'(by omega), List.getElem?_eq_getElem (by omega)⟩
theorem take_all {α : Type} (p : α → Bool) {l : List α} {k : Nat} {x : α} (h : l[k]? = some x) : (l.take (k + 1)).all p = ((l.take k).all p && p x) := by
 rw [List.take_add_one, h]; simp
theorem take_snoc {α : Type} {l : List α} {k : Nat} {x : α} (h : l[k]? = some x) : l.take (k + 1) = l.take k ++ [x] := by
 rw [List.take_add_one, h]; rfl
theorem all_of_take {α : Type} {p : α → Bool} {l : List α} {k : Nat} (h : (l.take k).all p = false) : l.all p = false := by
 rw [← List.take_append_drop k l, List.all_append, h]; rfl

def before : List Int → List Int → Bool
 | [], [] => false
 | [], _ :: _ => true
 | _ :: _, [] => false
 | x :: a, y :: b => if x < y then true else if y < x then false else before a b
end Go.Oc

/- Part Bt. -/
namespace Go.Oc.Gl
end Go.Oc.Gl
namespace Go.Proofs.YtlonlnfenbadbaaDoor.Gl
end Go.Proofs.YtlonlnfenbadbaaDoor.Gl
namespace Go.Proofs.YtlonlnfenbadbaaDoor.Gl
open Go.RowKit Go.Pm Go.Oc Go.Oc.Gl
set_option maxRecDepth 100000
set_option maxHeartbeats 1000000





end Go.Proofs.YtlonlnfenbadbaaDoor.Gl

/- Part Gp. -/
namespace Go.Oc.Gl
end Go.Oc.Gl
namespace Go.Proofs.YtlonlnfenbadbaaDoor.Gl
end Go.Proofs.YtlonlnfenbadbaaDoor.Gl
namespace Go.Oc.Gl
open Go Go.Pm

structure Blank where
 i : Span
 c : Span
 pr : Int
 deriving DecidableEq
def Blank.cs (b : Blank) : List TV := [.int .i64 b.i.lo, .int .i64 b.i.hi, .int .i64 b.c.lo, .int .i64 b.c.hi, .int .i64 b.pr]
def unBlanks : List TV → Option (List Blank)
 | [] => some []
 | .int .i64 a :: .int .i64 b :: .int .i64 c :: .int .i64 d :: .int .i64 e :: r => (unBlanks r).map (⟨⟨a, b⟩, ⟨c, d⟩, e⟩ :: ·)
 | _ => none
theorem unBlanks_eq : ∀ l : List Blank, unBlanks (l.flatMap Blank.cs) = some l
 | [] => rfl
 | x :: l => by simp [Blank.cs, unBlanks, unBlanks_eq l]
def unSpans : List TV → Option (List Span)
 | [] => some []
 | .int .i64 a :: .int .i64 b :: r => (unSpans r).map (⟨a, b⟩ :: ·)
 | _ => none
theorem unSpans_eq : ∀ l : List Span, unSpans (l.flatMap Span.cs) = some l
 | [] => rfl
 | x :: l => by simp [Span.cs, unSpans, unSpans_eq l]
attribute [go_sem] unBlanks_eq unSpans_eq
def ic (n : Int) : List TV := [.int .i64 n]
theorem ic_ints (l : List Int) : l.flatMap ic = ints l := by
 induction l with
 | nil => rfl
 | cons x l ih => simp only [List.flatMap_cons, ih]; rfl
def unI : List TV → Option (List Int)
 | [] => some []
 | .int .i64 a :: r => (unI r).map (a :: ·)
 | _ => none
theorem unI_eq : ∀ l : List Int, unI (ints l) = some l
 | [] => rfl
 | x :: l => by
  show (unI (ints l)).map (x :: ·) = some (x :: l)
  rw [unI_eq l]; rfl
theorem unI_some : ∀ {cs : List TV} {l : List Int}, unI cs = some l → cs = l.flatMap ic := by
 intro cs
 induction cs using unI.induct with
 | case1 => intro l h; simp [unI] at h; subst h; rfl
 | case2 a r ih =>
  intro l h
  simp only [unI, Option.map_eq_some_iff] at h
  obtain ⟨l', h1, rfl⟩ := h
  rw [ih h1]; rfl
 | case3 r h1 h2 =>
  intro l h
  unfold unI at h
  split at h
  ·exact absurd rfl h1
  ·exact absurd rfl (h2 _ _)
  ·cases h
attribute [go_sem] unI_eq
structure Ob where
 f : Int
 s : Int
 a : Int
 b : Int
 c : Int
 deriving DecidableEq
def Ob.cs (o : Ob) : List TV := [.int .i64 o.f, .int .i64 o.s, .int .i64 o.a, .int .i64 o.b, .int .i64 o.c]
def Ob.t (o : Ob) : TV := .agg o.cs
structure Want where
 p : Span
 c : Int
 deriving DecidableEq
def Want.t (w : Want) : TV := .agg [.int .i64 w.p.lo, .int .i64 w.p.hi, .int .i64 w.c]

def blankOk (b : Blank) : Bool := spannedB b.i 1 100000 && spannedB b.c 1 5000 && inB b.pr 0 1000000
def toolOk (t : Span) : Bool := spannedB t (-1000) 1000
def stockOk (B : List Blank) (T : List Span) : Bool := (inB B.length 2 8 && inB T.length 1 6) && B.all blankOk && T.all toolOk
def wantOk (w : Want) : Bool := spannedB w.p (-400000000) 400000000 && inB w.c 0 400000000
def nth (l : List Int) (i : Int) : Int := l.getD i.toNat 0
def pw (n1 n2 f m b : Int) : Int := n1 * (f - m) + n2 * (m - b)
def endS (s : Span) (h : Bool) : Int := if h then s.hi else s.lo
def bit1 (o : Ob) : Nat := if o.a = o.b then 0 else 1
def bit2 (o : Ob) : Nat := if o.a = o.c then 0 else if o.b = o.c then 1 else 2
def cornV (s1 s2 t1 t2 t3 : Span) (o : Ob) (k : Nat) : Int := pw (endS s1 (k.testBit 3)) (endS s2 (k.testBit 4)) (endS t1 (k.testBit 0)) (endS t2 (k.testBit (bit1 o))) (endS t3 (k.testBit (bit2 o)))
def minmax : List Int → Span
 | [] => ⟨0, 0⟩
 | x :: l => ⟨l.foldl min x, l.foldl max x⟩
def corners (s1 s2 t1 t2 t3 : Span) (o : Ob) (k : Nat) : List Int := (List.range k).map (cornV s1 s2 t1 t2 t3 o)
structure Sn where
 p : Span
 c : Span
 deriving DecidableEq
def Sn.t (x : Sn) : TV := .agg [.int .i64 x.p.lo, .int .i64 x.p.hi, .int .i64 x.c.lo, .int .i64 x.c.hi]
def blankAt (B : List Blank) (i : Int) : Blank := B.getD i.toNat ⟨⟨0, 0⟩, ⟨0, 0⟩, 0⟩
def toolAt (T : List Span) (i : Int) : Span := T.getD i.toNat ⟨0, 0⟩
theorem nth_eq {l : List Int} {i : Nat} {x : Int} (h : l[i]? = some x) : nth l (i : Int) = x := by
 unfold nth
 rw [Int.toNat_natCast, List.getD_eq_getElem?_getD, h]; rfl
def spansP (B : List Blank) (T : List Span) (o : Ob) : Sn :=
 ⟨minmax (corners (blankAt B o.f).i (blankAt B o.s).i (toolAt T o.a) (toolAt T o.b) (toolAt T o.c) o 32), minmax (corners (blankAt B o.f).c (blankAt B o.s).c (toolAt T o.a) (toolAt T o.b) (toolAt T o.c) o 32)⟩
def worstS (c : Span) : Int := max c.hi (-c.lo)
def goodB (x : Sn) (w : Want) : Bool := decide (x.p.lo ≥ w.p.lo) && decide (x.p.hi ≤ w.p.hi) && decide (worstS x.c ≤ w.c)
def obs2 (m : Nat) (i j : Nat) : List Ob := (List.range (m * m * m)).map fun n => ⟨i, j, ((n / m / m : Nat) : Int), ((n / m % m : Nat) : Int), ((n % m : Nat) : Int)⟩
def obs1 (n m i : Nat) : List Ob := (List.range n).flatMap fun j => if i = j then [] else obs2 m i j
def obsA (n m : Nat) : List Ob := (List.range n).flatMap (obs1 n m)
structure Bst where
 o : Ob
 n : Int
 p : Int
 is : Bool
 deriving DecidableEq
end Go.Oc.Gl
namespace Go.Oc.Gl
open Go Go.Pm
end Go.Oc.Gl

/- Part Gu. -/
namespace Go.Oc.Gl
end Go.Oc.Gl
namespace Go.Proofs.YtlonlnfenbadbaaDoor.Gl
end Go.Proofs.YtlonlnfenbadbaaDoor.Gl
namespace Go.Proofs.YtlonlnfenbadbaaDoor.Gl
open Go.RowKit Go.Pm Go.Oc Go.Oc.Gl
set_option maxRecDepth 100000
set_option linter.unusedVariables false
set_option maxHeartbeats 4000000

theorem gWithin_c (n lo hi : Int) : PCalls Tryd.prog 117 [.int .i64 n, .int .i64 lo, .int .i64 hi] (.bool (inB n lo hi)) := by
 refine pcalls_by Tryd.mixes noSpec_ok (fn := Tryd.f117) Tryd.func117 rfl (by kernel_rfl) (by show 3 ≤ _; decide) ?_
 simp (decide := true) (maxSteps := 4000000) only [go_sem, Nat.reduceAdd, Nat.reduceSub, Nat.reduceMul, Nat.reduceDiv, Nat.reduceMod, Nat.reduceLT, Nat.reduceLeDiff, Nat.reduceEqDiff, Nat.reduceBEq, Nat.reduceBNe, Nat.reduceGT, Int.reduceAdd, Int.reduceSub, Int.reduceMul, Int.reduceNeg, Int.reduceLT, Int.reduceLE, Int.reduceEq, Int.reduceNe, Int.reduceBEq, Int.reduceBNe, Int.reduceToNat, Int.reduceGT, Int.reduceGE, ↓reduceIte, decide_true, decide_false, eq_self, Nat.mul_one, Nat.zero_mul, Nat.one_mul, Int.le_refl, Nat.le_refl, Int.cast_ofNat_Int, Tryd.f117, inB]
noncomputable def glWithin : List TV → Option TV
 | [.int .i64 n, .int .i64 a, .int .i64 b] => some (.bool (inB n a b))
 | _ => none
theorem glWithin_ok : ∀ xs r, glWithin xs = some r → PCalls Tryd.prog 117 xs r := by
 intro xs r h
 unfold glWithin at h
 split at h
 ·cases h; exact gWithin_c _ _ _
 ·cases h
attribute [go_sem] glWithin
noncomputable def spU1 : Pm.Spec := noSpec.one 117 glWithin
@[go_sem] theorem spU1_p (f : FuncId) (xs : List TV) : spU1.p f xs = Pm.Spec.p (noSpec.one 117 glWithin) f xs := rfl
@[go_sem] theorem spU1_h (f : FuncId) (ps : List PV) (hl : List PO) : spU1.h f ps hl = Pm.Spec.h (noSpec.one 117 glWithin) f ps hl := rfl
@[go_sem] theorem spU1_y (Y : Pm.YS) (f : FuncId) (ps : List PV) (hl : List PO) : spU1.y Y f ps hl = Pm.Spec.y (noSpec.one 117 glWithin) Y f ps hl := rfl
@[go_sem] theorem spU1_fz (f : FuncId) : spU1.fz f = Pm.Spec.fz (noSpec.one 117 glWithin) f := rfl
@[go_sem] theorem spU1_fr (f : FuncId) : spU1.fr f = Pm.Spec.fr (noSpec.one 117 glWithin) f := rfl
@[go_sem] theorem spU1_yf (f : FuncId) : spU1.yf f = Pm.Spec.yf (noSpec.one 117 glWithin) f := rfl
@[go_sem] theorem spU1_gd : spU1.gd = Pm.Spec.gd (noSpec.one 117 glWithin) := rfl
@[go_sem] theorem spU1_mu (t : TypeId) : spU1.mu t = Pm.Spec.mu (noSpec.one 117 glWithin) t := rfl
@[go_sem] theorem spU1_nf (t : TypeId) : spU1.nf t = Pm.Spec.nf (noSpec.one 117 glWithin) t := rfl
theorem spU1_ok : SpecOk Tryd.prog spU1 := Spec.one_ok glWithin_ok noSpec_ok
theorem gValid_c (s : Span) (lo hi : Int) : PCalls Tryd.prog 151 [s.t, .int .i64 lo, .int .i64 hi] (.bool (spannedB s lo hi)) := by
 refine pcalls_by Tryd.mixes spU1_ok (fn := Tryd.f151) Tryd.func151 rfl (by kernel_rfl) (by show 3 ≤ _; decide) ?_
 simp (decide := true) (maxSteps := 4000000) only [go_sem, Nat.reduceAdd, Nat.reduceSub, Nat.reduceMul, Nat.reduceDiv, Nat.reduceMod, Nat.reduceLT, Nat.reduceLeDiff, Nat.reduceEqDiff, Nat.reduceBEq, Nat.reduceBNe, Nat.reduceGT, Int.reduceAdd, Int.reduceSub, Int.reduceMul, Int.reduceNeg, Int.reduceLT, Int.reduceLE, Int.reduceEq, Int.reduceNe, Int.reduceBEq, Int.reduceBNe, Int.reduceToNat, Int.reduceGT, Int.reduceGE, ↓reduceIte, decide_true, decide_false, eq_self, Nat.mul_one, Nat.zero_mul, Nat.one_mul, Int.le_refl, Nat.le_refl, Int.cast_ofNat_Int, Tryd.f151, Span.t, Span.cs, spannedB]
theorem gHoldsM_c (s : Span) (n : Int) : PCalls Tryd.prog 152 [s.t, .int .i64 n] (.bool (inB n s.lo s.hi)) := by
 refine pcalls_by Tryd.mixes spU1_ok (fn := Tryd.f152) Tryd.func152 rfl (by kernel_rfl) (by show 2 ≤ _; decide) ?_
 simp (decide := true) (maxSteps := 4000000) only [go_sem, Nat.reduceAdd, Nat.reduceSub, Nat.reduceMul, Nat.reduceDiv, Nat.reduceMod, Nat.reduceLT, Nat.reduceLeDiff, Nat.reduceEqDiff, Nat.reduceBEq, Nat.reduceBNe, Nat.reduceGT, Int.reduceAdd, Int.reduceSub, Int.reduceMul, Int.reduceNeg, Int.reduceLT, Int.reduceLE, Int.reduceEq, Int.reduceNe, Int.reduceBEq, Int.reduceBNe, Int.reduceToNat, Int.reduceGT, Int.reduceGE, ↓reduceIte, decide_true, decide_false, eq_self, Nat.mul_one, Nat.zero_mul, Nat.one_mul, Int.le_refl, Nat.le_refl, Int.cast_ofNat_Int, Tryd.f152, Span.t, Span.cs]
noncomputable def glValid : List TV → Option TV
 | [.agg [.int .i64 x, .int .i64 y], .int .i64 a, .int .i64 b] => some (.bool (spannedB ⟨x, y⟩ a b))
 | _ => none
theorem glValid_ok : ∀ xs r, glValid xs = some r → PCalls Tryd.prog 151 xs r := by
 intro xs r h
 unfold glValid at h
 split at h
 ·cases h; exact gValid_c ⟨_, _⟩ _ _
 ·cases h
attribute [go_sem] glValid
noncomputable def glHolds : List TV → Option TV
 | [.agg [.int .i64 x, .int .i64 y], .int .i64 n] => some (.bool (inB n x y))
 | _ => none
theorem glHolds_ok : ∀ xs r, glHolds xs = some r → PCalls Tryd.prog 152 xs r := by
 intro xs r h
 unfold glHolds at h
 split at h
 ·cases h; exact gHoldsM_c ⟨_, _⟩ _
 ·cases h
attribute [go_sem] glHolds
end Go.Proofs.YtlonlnfenbadbaaDoor.Gl

/- Part Gc. -/
namespace Go.Oc.Gl
end Go.Oc.Gl
namespace Go.Proofs.YtlonlnfenbadbaaDoor.Gl
end Go.Proofs.YtlonlnfenbadbaaDoor.Gl
namespace Go.Proofs.YtlonlnfenbadbaaDoor.Gl
open Go.RowKit Go.Pm Go.Oc Go.Oc.Gl
set_option maxRecDepth 100000
set_option linter.unusedVariables false
set_option maxHeartbeats 4000000

noncomputable def glCheck : List TV → Option TV
 | [.agg [sB, sT]] => match rowL unBlanks sB, rowL unSpans sT with
  | some B, some T => if B.length ≤ 5864062014806 ∧ T.length ≤ 9000000000000 then some (.int .i64 (if stockOk B T then 0 else 40)) else none
  | _, _ => none
 | _ => none
attribute [go_sem] glCheck
end Go.Proofs.YtlonlnfenbadbaaDoor.Gl

/- Part Gv. -/
namespace Go.Oc.Gl
end Go.Oc.Gl
namespace Go.Proofs.YtlonlnfenbadbaaDoor.Gl
end Go.Proofs.YtlonlnfenbadbaaDoor.Gl
namespace Go.Oc.Gl
open Go Go.Pm
end Go.Oc.Gl
namespace Go.Proofs.YtlonlnfenbadbaaDoor.Gl
open Go.RowKit Go.Pm Go.Oc Go.Oc.Gl
set_option maxRecDepth 100000
set_option linter.unusedVariables false
set_option maxHeartbeats 4000000



noncomputable def glEnds : List TV → Option TV
 | [.int .i64 a, .sl cs n full] => match unI cs with
  | some l => if n = l.length ∧ l.length ≤ 1000000 then some (.tup [.int .i64 (l.foldl min a), .int .i64 (l.foldl max a)]) else none
  | none => none
 | _ => none
attribute [go_sem] glEnds
end Go.Proofs.YtlonlnfenbadbaaDoor.Gl

/- Part Gw. -/
namespace Go.Oc.Gl
end Go.Oc.Gl
namespace Go.Proofs.YtlonlnfenbadbaaDoor.Gl
end Go.Proofs.YtlonlnfenbadbaaDoor.Gl
namespace Go.Oc.Gl
open Go Go.Pm
end Go.Oc.Gl
namespace Go.Proofs.YtlonlnfenbadbaaDoor.Gl
open Go.RowKit Go.Pm Go.Oc Go.Oc.Gl
set_option maxRecDepth 100000
set_option linter.unusedVariables false
set_option maxHeartbeats 4000000


end Go.Proofs.YtlonlnfenbadbaaDoor.Gl

/- Part Gq. -/
namespace Go.Oc.Gl
end Go.Oc.Gl
namespace Go.Proofs.YtlonlnfenbadbaaDoor.Gl
end Go.Proofs.YtlonlnfenbadbaaDoor.Gl
namespace Go.Oc.Gl
open Go Go.Pm
end Go.Oc.Gl

/- Part Gx. -/
namespace Go.Oc.Gl
end Go.Oc.Gl
namespace Go.Proofs.YtlonlnfenbadbaaDoor.Gl
end Go.Proofs.YtlonlnfenbadbaaDoor.Gl
namespace Go.Proofs.YtlonlnfenbadbaaDoor.Gl
open Go.RowKit Go.Pm Go.Oc Go.Oc.Gl
set_option maxRecDepth 100000
set_option linter.unusedVariables false
set_option maxHeartbeats 4000000

end Go.Proofs.YtlonlnfenbadbaaDoor.Gl

/- Part Gz. -/
namespace Go.Oc.Gl
end Go.Oc.Gl
namespace Go.Proofs.YtlonlnfenbadbaaDoor.Gl
end Go.Proofs.YtlonlnfenbadbaaDoor.Gl
namespace Go.Oc.Gl
open Go Go.Pm
end Go.Oc.Gl
namespace Go.Proofs.YtlonlnfenbadbaaDoor.Gl
open Go.RowKit Go.Pm Go.Oc Go.Oc.Gl
set_option maxRecDepth 100000
set_option linter.unusedVariables false
set_option maxHeartbeats 4000000

end Go.Proofs.YtlonlnfenbadbaaDoor.Gl

/- Part Ga. -/
namespace Go.Oc.Gl
end Go.Oc.Gl
namespace Go.Proofs.YtlonlnfenbadbaaDoor.Gl
end Go.Proofs.YtlonlnfenbadbaaDoor.Gl
namespace Go.Oc.Gl
open Go Go.Pm
theorem updT_same (f : TV → Option TV) (k x : TV) : updT f k x k = some x := by unfold updT; rw [if_pos rfl]
end Go.Oc.Gl
namespace Go.Proofs.YtlonlnfenbadbaaDoor.Gl
open Go.RowKit Go.Pm Go.Oc Go.Oc.Gl
set_option maxRecDepth 100000
set_option linter.unusedVariables false
set_option maxHeartbeats 4000000

end Go.Proofs.YtlonlnfenbadbaaDoor.Gl

/- Part Gk. -/
namespace Go.Oc.Gl
end Go.Oc.Gl
namespace Go.Proofs.YtlonlnfenbadbaaDoor.Gl
end Go.Proofs.YtlonlnfenbadbaaDoor.Gl
namespace Go.Oc.Gl
open Go Go.Pm

structure Tk where
 b0 : Bool
 b1 : Bool
 b2 : Bool
 b3 : Bool
 b4 : Bool
 b5 : Bool
 b6 : Bool
 b7 : Bool
 deriving DecidableEq
def Tk.none : Tk := ⟨false, false, false, false, false, false, false, false⟩
def Tk.at (T : Tk) : Nat → Bool
 | 0 => T.b0 | 1 => T.b1 | 2 => T.b2 | 3 => T.b3 | 4 => T.b4 | 5 => T.b5 | 6 => T.b6 | 7 => T.b7 | _ => false
def Tk.set (T : Tk) (i : Nat) : Tk := ⟨T.b0 || i == 0, T.b1 || i == 1, T.b2 || i == 2, T.b3 || i == 3, T.b4 || i == 4, T.b5 || i == 5, T.b6 || i == 6, T.b7 || i == 7⟩
def Tk.cs (T : Tk) : List TV := [.bool T.b0, .bool T.b1, .bool T.b2, .bool T.b3, .bool T.b4, .bool T.b5, .bool T.b6, .bool T.b7]
def isFor (B : List Blank) (T : List Span) (w : Want) (i j : Int) (o : Ob) : Bool := (min o.f o.s == i) && (max o.f o.s == j) && goodB (spansP B T o) w
def ofO (B : List Blank) (T : List Span) (w : Want) (i j : Int) : Option Ob := (obsA B.length T.length).find? (isFor B T w i j)
def joinStep (rec : Tk → List Ob) (E : Int → Int → Option Ob) (U : Tk) (fr : Nat) (best : List Ob) (k : Nat) : List Ob := match E fr k with
 | none => best
 | some o => if U.at k then best else if (rec ((U.set fr).set k)).length + 1 > best.length then o :: rec ((U.set fr).set k) else best
def joinP (E : Int → Int → Option Ob) (n : Nat) : Nat → Tk → List Ob
 | 0, _ => []
 | d + 1, U => if U.at (n - (d + 1)) then joinP E n d U else (List.range' (n - (d + 1) + 1) d).foldl (joinStep (joinP E n d) E U (n - (d + 1))) (joinP E n d U)
def mostP (B : List Blank) (T : List Span) (w : Want) : List Ob × Int := if stockOk B T = false then ([], 40) else if wantOk w = false then ([], 43) else (joinP (ofO B T w) B.length B.length Tk.none, 0)
end Go.Oc.Gl

/- Part Gb. -/
namespace Go.Oc.Gl
end Go.Oc.Gl
namespace Go.Proofs.YtlonlnfenbadbaaDoor.Gl
end Go.Proofs.YtlonlnfenbadbaaDoor.Gl
namespace Go.Proofs.YtlonlnfenbadbaaDoor.Gl
open Go.RowKit Go.Pm Go.Oc Go.Oc.Gl
set_option maxRecDepth 100000
set_option linter.unusedVariables false
set_option maxHeartbeats 4000000

theorem allO_t : ∀ xs : List TV, allO (List.map PV.toT (List.map PV.t xs)) = some xs
 | [] => rfl
 | x :: xs => by simp only [List.map_cons, allO, PV.toT, allO_t xs, Option.map_some]
end Go.Proofs.YtlonlnfenbadbaaDoor.Gl

/- Part Gf. -/
namespace Go.Oc.Gl
end Go.Oc.Gl
namespace Go.Proofs.YtlonlnfenbadbaaDoor.Gl
end Go.Proofs.YtlonlnfenbadbaaDoor.Gl
namespace Go.Oc.Gl
open Go Go.Pm
structure Fr where
 p : Span
 r : Span
 g : Int
 deriving DecidableEq
def Fr.cs (f : Fr) : List TV := [.int .i64 f.p.lo, .int .i64 f.p.hi, .int .i64 f.r.lo, .int .i64 f.r.hi, .int .i64 f.g]

def frOk (f : Fr) : Bool := spannedB f.p (-1000) 1000 && spannedB f.r 0 1000 && inB f.g (-1) 1
theorem frOk_iff {f : Fr} : frOk f = true ↔ (-1000 ≤ f.p.lo ∧ f.p.lo ≤ f.p.hi ∧ f.p.hi ≤ 1000) ∧ (0 ≤ f.r.lo ∧ f.r.lo ≤ f.r.hi ∧ f.r.hi ≤ 1000) ∧ -1 ≤ f.g ∧ f.g ≤ 1 := by
 simp only [frOk, spannedB, inB, Bool.and_eq_true, decide_eq_true_eq]
 constructor
 ·rintro ⟨⟨a, b⟩, c⟩; omega
 ·rintro ⟨a, b, c⟩; omega
def agB (f : Fr) (c : Int) : Bool := (decide (f.g ≥ 0) && inB c (f.p.lo + f.r.lo) (f.p.hi + f.r.hi)) || (decide (f.g ≤ 0) && inB c (f.p.lo - f.r.hi) (f.p.hi - f.r.lo))
def frsOk (l : List Fr) : Bool := inB l.length 1 12 && l.all frOk
def frAll (l : List Fr) (c : Int) : Bool := l.all fun f => agB f c
def surfStep (l : List Fr) (out : List Span) (c : Int) : List Span := if frAll l c then (match out.getLast? with
 | some s => if s.hi = c - 1 then out.dropLast ++ [⟨s.lo, c⟩] else out ++ [⟨c, c⟩]
 | none => [⟨c, c⟩]) else out
def surfTo (l : List Fr) (k : Nat) : List Span := (List.range k).foldl (fun out (i : Nat) => surfStep l out ((i : Int) - 2000)) []
theorem surfTo_succ (l : List Fr) (k : Nat) : surfTo l (k + 1) = surfStep l (surfTo l k) ((k : Int) - 2000) := by
 unfold surfTo; rw [List.range_succ, List.foldl_append]; rfl
def surfP (l : List Fr) : List Span × Int := if frsOk l = false then ([], 44) else if surfTo l 4001 = [] then ([], 4) else (surfTo l 4001, 0)
theorem surf_len (l : List Fr) : ∀ k, (surfTo l k).length ≤ k
 | 0 => by simp [surfTo]
 | k + 1 => by
  have ih := surf_len l k
  rw [surfTo_succ]
  unfold surfStep
  split
  ·split
   ·split
    ·rename_i s hs _
     have : surfTo l k ≠ [] := by intro h; rw [h] at hs; cases hs
     have hp := List.length_pos_iff.2 this
     simp only [List.length_append, List.length_dropLast, List.length_cons, List.length_nil]; omega
    ·simp only [List.length_append, List.length_cons, List.length_nil]; omega
   ·simp
  ·omega
theorem frsOk_at {l : List Fr} (h : frsOk l = true) : (1 ≤ l.length ∧ l.length ≤ 12) ∧ ∀ f ∈ l, frOk f = true := by
 simp only [frsOk, inB, Bool.and_eq_true, decide_eq_true_eq, List.all_eq_true] at h
 exact ⟨by omega, h.2⟩
theorem snoc_cases {α : Type} (l : List α) : l = [] ∨ ∃ i x, l = i ++ [x] := by
 rcases List.eq_nil_or_concat l with h | ⟨i, x, h⟩
 ·exact .inl h
 ·exact .inr ⟨i, x, by rw [h, List.concat_eq_append]⟩
end Go.Oc.Gl
namespace Go.Proofs.YtlonlnfenbadbaaDoor.Gl
open Go.RowKit Go.Pm Go.Oc Go.Oc.Gl
set_option maxRecDepth 100000
set_option linter.unusedVariables false
set_option maxHeartbeats 4000000

attribute [go_sem] popM
end Go.Proofs.YtlonlnfenbadbaaDoor.Gl

/- Part Hp. -/
namespace Go.Proofs.YtlonlnfenbadbaaDoor.Sx
end Go.Proofs.YtlonlnfenbadbaaDoor.Sx
namespace Go.Oh
open Go Go.Pm Go.Oc

def ic (n : Int) : List TV := [.int .i64 n]
theorem ic_ints (l : List Int) : l.flatMap ic = ints l := by
 induction l with
 | nil => rfl
 | cons x l ih => rw [List.flatMap_cons, ih]; rfl
noncomputable def unI (cs : List TV) : Option (List Int) := unflat ic cs
theorem unI_ic (l : List Int) : unI (l.flatMap ic) = some l := unflat_eq (n := 1) (fun _ => rfl) (by decide) (fun x y h => by simpa [ic] using h) l
theorem unI_eq (l : List Int) : unI (ints l) = some l := by rw [← ic_ints]; exact unI_ic l
theorem unI_nil : unI [] = some [] := unI_ic []
theorem unI_some {cs : List TV} {l : List Int} (h : unI cs = some l) : cs = l.flatMap ic := unflat_some h
noncomputable def unS (cs : List TV) : Option (List Span) := unflat Span.cs cs
theorem unS_eq (l : List Span) : unS (l.flatMap Span.cs) = some l := unflat_eq (n := 2) (fun _ => rfl) (by decide) (fun x y h => by
 obtain ⟨a, b⟩ := x; obtain ⟨c, d⟩ := y
 simp only [Span.cs, List.cons.injEq, TV.int.injEq, true_and, and_true] at h
 rw [h.1, h.2]) l
theorem unS_nil : unS [] = some [] := unS_eq []
theorem unS_some {cs : List TV} {l : List Span} (h : unS cs = some l) : cs = l.flatMap Span.cs := unflat_some h
theorem rowI_is {s : TV} {l : List Int} (h : IsRow ic s l) : rowL unI s = some l := by
 rcases h with ⟨rfl, rfl⟩ | ⟨f, rfl⟩
 ·exact unI_nil
 ·simp [rowL, unI_ic]
attribute [go_sem] unS_eq unI_eq unI_ic unS_nil unI_nil
theorem ints_snoc (l : List Int) (x : Int) : ints (l ++ [x]) = ints l ++ [.int .i64 x] := by simp [ints]
def nth (l : List Int) (i : Int) : Int := l.getD i.toNat 0
theorem nth_eq {l : List Int} {k : Nat} {x : Int} (h : l[k]? = some x) : nth l (k : Int) = x := by
 unfold nth; rw [List.getD_eq_getElem?_getD, Int.toNat_natCast, h]; rfl
def pickI (l : List Int) (n : Int) : Int := if l.length = 0 then 0 else nth l (n % l.length)
theorem before_end : ∀ {a b : List Int}, a = [] ∨ b = [] → before a b = decide (a.length < b.length)
 | [], [], _ => rfl
 | [], _ :: _, _ => by simp [before]
 | _ :: _, [], _ => by simp [before]
 | _ :: _, _ :: _, h => by rcases h with h | h <;> cases h

def nI (S : List Nat) : List Int := S.map Int.ofNat
def bet (a b : List Int) : Prop := a.length < b.length ∨ a.length = b.length ∧ before a b = true
def rowN (n : Nat) (S : List Nat) : Prop := ∃ p : Nat → Bool, S = (List.range n).filter p
structure Least (bad : List Nat → Bool) (n : Nat) (S : List Nat) : Prop where
 row : rowN n S
 ne : S ≠ []
 isBad : bad S = true
 min : ∀ S', rowN n S' → S' ≠ [] → bad S' = true → ¬ bet (nI S') (nI S)
structure More (n fr m : Nat) (J : List Nat) : Prop where
 len : J.length = m
 inc : J.Pairwise (· < ·)
 lo : ∀ x ∈ J, fr ≤ x
 hi : ∀ x ∈ J, x < n
structure Found (bad : List Nat → Bool) (n fr m : Nat) (St out J : List Nat) : Prop where
 more : More n fr m J
 isBad : bad (St ++ J) = true
 out : out = St ++ J
 first : ∀ J', More n fr m J' → bad (St ++ J') = true → before (nI J') (nI J) = false
end Go.Oh

/- Part Hb. -/
namespace Go.Proofs.YtlonlnfenbadbaaDoor.Sx
end Go.Proofs.YtlonlnfenbadbaaDoor.Sx
namespace Go.Proofs.YtlonlnfenbadbaaDoor.Sx
open Go.RowKit Go.Pm Go.Oc Go.Oh
set_option maxRecDepth 100000
set_option linter.unusedVariables false
set_option maxHeartbeats 1000000

@[go_sem] theorem map_ren_t (ids : List Nat) (cs : List TV) : List.map (PV.ren ids) (List.map PV.t cs) = List.map PV.t cs := by rw [List.map_map]; rfl
@[go_sem] theorem map_inv_t (ids : List Nat) (cs : List TV) : List.map (PV.inv ids) (List.map PV.t cs) = List.map PV.t cs := by rw [List.map_map]; rfl
@[go_sem] theorem all_under_t (k : Nat) (cs : List TV) : (List.map PV.t cs).all (PV.under k) = true := by rw [List.all_map, List.all_eq_true]; intro x _; rfl
@[go_sem] theorem cellsW_t (l : List PO) : ∀ cs : List TV, cellsW l (List.map PV.t cs) (List.map PV.t cs) = True
 | [] => by simp [cellsW]
 | c :: cs => by simp [cellsW, cellsW_t l cs, cellW, PV.toT]
@[go_sem] theorem flat_idsG_t (cs : List TV) : List.flatMap idsG (List.map PV.t cs) = [] := by
 induction cs with
 | nil => rfl
 | cons c cs ih => rw [List.map_cons, List.flatMap_cons, ih]; rfl
@[go_sem] theorem flat_idsP_t (cs : List TV) : List.flatMap idsP (List.map PV.t cs) = [] := by
 induction cs with
 | nil => rfl
 | cons c cs ih => rw [List.map_cons, List.flatMap_cons, ih]; rfl
theorem allO_toT : ∀ cs : List TV, allO (List.map PV.toT (List.map PV.t cs)) = some cs
 | [] => rfl
 | c :: cs => by rw [List.map_cons, List.map_cons]; simp only [PV.toT, allO, allO_toT cs]; rfl
theorem allO_thaw (h : Hp) : ∀ cs : List TV, allO (List.map (thawC h) (List.map PV.t cs)) = some cs
 | [] => rfl
 | c :: cs => by rw [List.map_cons, List.map_cons]; simp only [thawC, PV.toT, allO, allO_thaw h cs]; rfl
@[go_sem] theorem allO_thawA (h : Hp) (cs ds : List TV) : allO (List.map (thawC h) (List.map PV.t cs ++ List.map PV.t ds)) = some (cs ++ ds) := by rw [← List.map_append]; exact allO_thaw h _
attribute [go_sem] allO_toT allO_thaw
theorem hIn_c (n lo hi : Int) : PCalls Tryd.prog 55 [.int .i64 n, .int .i64 lo, .int .i64 hi] (.bool (inB n lo hi)) := by
 refine pcalls_by Tryd.mixes noSpec_ok (fn := Tryd.f55) Tryd.func55 rfl (by kernel_rfl) (by show 3 ≤ _; decide) ?_
 simp (decide := true) (maxSteps := 4000000) only [go_sem, Nat.reduceAdd, Nat.reduceSub, Nat.reduceMul, Nat.reduceDiv, Nat.reduceMod, Nat.reduceLT, Nat.reduceLeDiff, Nat.reduceEqDiff, Nat.reduceBEq, Nat.reduceBNe, Nat.reduceGT, Int.reduceAdd, Int.reduceSub, Int.reduceMul, Int.reduceNeg, Int.reduceLT, Int.reduceLE, Int.reduceEq, Int.reduceNe, Int.reduceBEq, Int.reduceBNe, Int.reduceToNat, Int.reduceGT, Int.reduceGE, ↓reduceIte, decide_true, decide_false, Tryd.f55, inB, ge_iff_le]
def hgIn : List TV → Option TV
 | [.int .i64 n, .int .i64 a, .int .i64 b] => some (.bool (inB n a b))
 | _ => none
theorem hgIn_ok : ∀ xs r, hgIn xs = some r → PCalls Tryd.prog 55 xs r := by
 intro xs r h
 unfold hgIn at h
 split at h
 ·cases h; exact hIn_c _ _ _
 ·cases h
noncomputable def spH1 : Pm.Spec := noSpec.one 55 hgIn
theorem spH1_ok : SpecOk Tryd.prog spH1 := Spec.one_ok hgIn_ok noSpec_ok
attribute [go_sem] hgIn
@[go_sem] theorem spH1_p (f : FuncId) (xs : List TV) : spH1.p f xs = Pm.Spec.p (noSpec.one 55 hgIn) f xs := rfl
@[go_sem] theorem spH1_h (f : FuncId) (ps : List PV) (hl : List PO) : spH1.h f ps hl = Pm.Spec.h (noSpec.one 55 hgIn) f ps hl := rfl
@[go_sem] theorem spH1_y (Y : Pm.YS) (f : FuncId) (ps : List PV) (hl : List PO) : spH1.y Y f ps hl = Pm.Spec.y (noSpec.one 55 hgIn) Y f ps hl := rfl
@[go_sem] theorem spH1_fz (f : FuncId) : spH1.fz f = Pm.Spec.fz (noSpec.one 55 hgIn) f := rfl
@[go_sem] theorem spH1_fr (f : FuncId) : spH1.fr f = Pm.Spec.fr (noSpec.one 55 hgIn) f := rfl
@[go_sem] theorem spH1_yf (f : FuncId) : spH1.yf f = Pm.Spec.yf (noSpec.one 55 hgIn) f := rfl
@[go_sem] theorem spH1_gd : spH1.gd = Pm.Spec.gd (noSpec.one 55 hgIn) := rfl
@[go_sem] theorem spH1_mu (t : TypeId) : spH1.mu t = Pm.Spec.mu (noSpec.one 55 hgIn) t := rfl
@[go_sem] theorem spH1_nf (t : TypeId) : spH1.nf t = Pm.Spec.nf (noSpec.one 55 hgIn) t := rfl
theorem hMod_c (n by_ : Int) (h : 0 < by_) (h2 : by_ ≤ 9223372036854775807) : PCalls Tryd.prog 16 [.int .i64 n, .int .i64 by_] (.int .i64 (n % by_)) := by
 refine pcalls_by Tryd.mixes noSpec_ok (fn := Tryd.f16) Tryd.func16 rfl (by kernel_rfl) (by show 2 ≤ _; decide) ?_
 have hne : ¬ by_ = 0 := by omega
 simp (decide := true) (maxSteps := 4000000) only [go_sem, Nat.reduceAdd, Nat.reduceSub, Nat.reduceMul, Nat.reduceDiv, Nat.reduceMod, Nat.reduceLT, Nat.reduceLeDiff, Nat.reduceEqDiff, Nat.reduceBEq, Nat.reduceBNe, Nat.reduceGT, Int.reduceAdd, Int.reduceSub, Int.reduceMul, Int.reduceNeg, Int.reduceLT, Int.reduceLE, Int.reduceEq, Int.reduceNe, Int.reduceBEq, Int.reduceBNe, Int.reduceToNat, Int.reduceGT, Int.reduceGE, ↓reduceIte, decide_true, decide_false, Tryd.f16, hne]
 have e := Int.tmod_eq_emod (a := n) (b := by_)
 have e1 := Int.emod_nonneg n hne
 have e2 := Int.emod_lt_of_pos n h
 by_cases hn : n.tmod by_ < 0
 ·simp (decide := true) (maxSteps := 4000000) only [go_sem, Nat.reduceAdd, Nat.reduceSub, Nat.reduceMul, Nat.reduceDiv, Nat.reduceMod, Nat.reduceLT, Nat.reduceLeDiff, Nat.reduceEqDiff, Nat.reduceBEq, Nat.reduceBNe, Nat.reduceGT, Int.reduceAdd, Int.reduceSub, Int.reduceMul, Int.reduceNeg, Int.reduceLT, Int.reduceLE, Int.reduceEq, Int.reduceNe, Int.reduceBEq, Int.reduceBNe, Int.reduceToNat, Int.reduceGT, Int.reduceGE, ↓reduceIte, decide_true, decide_false, hn]
  have e3 : n.tmod by_ + by_ = n % by_ := by
   rw [e] at hn ⊢
   split at hn
   ·omega
   ·rename_i hc
    rw [if_neg hc]
    have : (by_.natAbs : Int) = by_ := by omega
    omega
  rw [e3, wrap_in (by omega) (by omega)]
 ·simp (decide := true) (maxSteps := 4000000) only [go_sem, Nat.reduceAdd, Nat.reduceSub, Nat.reduceMul, Nat.reduceDiv, Nat.reduceMod, Nat.reduceLT, Nat.reduceLeDiff, Nat.reduceEqDiff, Nat.reduceBEq, Nat.reduceBNe, Nat.reduceGT, Int.reduceAdd, Int.reduceSub, Int.reduceMul, Int.reduceNeg, Int.reduceLT, Int.reduceLE, Int.reduceEq, Int.reduceNe, Int.reduceBEq, Int.reduceBNe, Int.reduceToNat, Int.reduceGT, Int.reduceGE, ↓reduceIte, decide_true, decide_false, hn]
  rw [e] at hn ⊢
  split at hn
  ·rename_i hc; rw [if_pos hc]; simp
  ·rename_i hc
   have : (by_.natAbs : Int) = by_ := by omega
   omega
def hgMod : List TV → Option TV
 | [.int .i64 n, .int .i64 b] => if 0 < b ∧ b ≤ 9223372036854775807 then some (.int .i64 (n % b)) else none
 | _ => none
theorem hgMod_ok : ∀ xs r, hgMod xs = some r → PCalls Tryd.prog 16 xs r := by
 intro xs r h
 unfold hgMod at h
 split at h
 ·split at h
  ·rename_i hc; cases h; exact hMod_c _ _ hc.1 hc.2
  ·cases h
 ·cases h
noncomputable def spH2 : Pm.Spec := spH1.one 16 hgMod
theorem spH2_ok : SpecOk Tryd.prog spH2 := Spec.one_ok hgMod_ok spH1_ok
attribute [go_sem] hgMod
@[go_sem] theorem spH2_p (f : FuncId) (xs : List TV) : spH2.p f xs = Pm.Spec.p (spH1.one 16 hgMod) f xs := rfl
@[go_sem] theorem spH2_h (f : FuncId) (ps : List PV) (hl : List PO) : spH2.h f ps hl = Pm.Spec.h (spH1.one 16 hgMod) f ps hl := rfl
@[go_sem] theorem spH2_y (Y : Pm.YS) (f : FuncId) (ps : List PV) (hl : List PO) : spH2.y Y f ps hl = Pm.Spec.y (spH1.one 16 hgMod) Y f ps hl := rfl
@[go_sem] theorem spH2_fz (f : FuncId) : spH2.fz f = Pm.Spec.fz (spH1.one 16 hgMod) f := rfl
@[go_sem] theorem spH2_fr (f : FuncId) : spH2.fr f = Pm.Spec.fr (spH1.one 16 hgMod) f := rfl
@[go_sem] theorem spH2_yf (f : FuncId) : spH2.yf f = Pm.Spec.yf (spH1.one 16 hgMod) f := rfl
@[go_sem] theorem spH2_gd : spH2.gd = Pm.Spec.gd (spH1.one 16 hgMod) := rfl
@[go_sem] theorem spH2_mu (t : TypeId) : spH2.mu t = Pm.Spec.mu (spH1.one 16 hgMod) t := rfl
@[go_sem] theorem spH2_nf (t : TypeId) : spH2.nf t = Pm.Spec.nf (spH1.one 16 hgMod) t := rfl
theorem hAbs_c (n : Int) : PCalls Tryd.prog 27 [.int .i64 n] (.int .i64 (max n (IntKind.i64.wrap (0 - n)))) := by
 refine pcalls_by Tryd.mixes noSpec_ok (fn := Tryd.f27) Tryd.func27 rfl (by kernel_rfl) (by show 1 ≤ _; decide) ?_
 simp (decide := true) (maxSteps := 4000000) only [go_sem, Nat.reduceAdd, Nat.reduceSub, Nat.reduceMul, Nat.reduceDiv, Nat.reduceMod, Nat.reduceLT, Nat.reduceLeDiff, Nat.reduceEqDiff, Nat.reduceBEq, Nat.reduceBNe, Nat.reduceGT, Int.reduceAdd, Int.reduceSub, Int.reduceMul, Int.reduceNeg, Int.reduceLT, Int.reduceLE, Int.reduceEq, Int.reduceNe, Int.reduceBEq, Int.reduceBNe, Int.reduceToNat, Int.reduceGT, Int.reduceGE, ↓reduceIte, decide_true, decide_false, Tryd.f27]
def hgAbs : List TV → Option TV
 | [.int .i64 n] => some (.int .i64 (max n (IntKind.i64.wrap (0 - n))))
 | _ => none
theorem hgAbs_ok : ∀ xs r, hgAbs xs = some r → PCalls Tryd.prog 27 xs r := by
 intro xs r h
 unfold hgAbs at h
 split at h
 ·cases h; exact hAbs_c _
 ·cases h
noncomputable def spH3 : Pm.Spec := spH2.one 27 hgAbs
theorem spH3_ok : SpecOk Tryd.prog spH3 := Spec.one_ok hgAbs_ok spH2_ok
attribute [go_sem] hgAbs
@[go_sem] theorem spH3_p (f : FuncId) (xs : List TV) : spH3.p f xs = Pm.Spec.p (spH2.one 27 hgAbs) f xs := rfl
@[go_sem] theorem spH3_h (f : FuncId) (ps : List PV) (hl : List PO) : spH3.h f ps hl = Pm.Spec.h (spH2.one 27 hgAbs) f ps hl := rfl
@[go_sem] theorem spH3_y (Y : Pm.YS) (f : FuncId) (ps : List PV) (hl : List PO) : spH3.y Y f ps hl = Pm.Spec.y (spH2.one 27 hgAbs) Y f ps hl := rfl
@[go_sem] theorem spH3_fz (f : FuncId) : spH3.fz f = Pm.Spec.fz (spH2.one 27 hgAbs) f := rfl
@[go_sem] theorem spH3_fr (f : FuncId) : spH3.fr f = Pm.Spec.fr (spH2.one 27 hgAbs) f := rfl
@[go_sem] theorem spH3_yf (f : FuncId) : spH3.yf f = Pm.Spec.yf (spH2.one 27 hgAbs) f := rfl
@[go_sem] theorem spH3_gd : spH3.gd = Pm.Spec.gd (spH2.one 27 hgAbs) := rfl
@[go_sem] theorem spH3_mu (t : TypeId) : spH3.mu t = Pm.Spec.mu (spH2.one 27 hgAbs) t := rfl
@[go_sem] theorem spH3_nf (t : TypeId) : spH3.nf t = Pm.Spec.nf (spH2.one 27 hgAbs) t := rfl
theorem hHolds_c (s : Span) (n : Int) : PCalls Tryd.prog 24 [s.t, .int .i64 n] (.bool (inB n s.lo s.hi)) := by
 refine pcalls_by Tryd.mixes spH3_ok (fn := Tryd.f24) Tryd.func24 rfl (by kernel_rfl) (by show 2 ≤ _; decide) ?_
 simp (decide := true) (maxSteps := 4000000) only [go_sem, Nat.reduceAdd, Nat.reduceSub, Nat.reduceMul, Nat.reduceDiv, Nat.reduceMod, Nat.reduceLT, Nat.reduceLeDiff, Nat.reduceEqDiff, Nat.reduceBEq, Nat.reduceBNe, Nat.reduceGT, Int.reduceAdd, Int.reduceSub, Int.reduceMul, Int.reduceNeg, Int.reduceLT, Int.reduceLE, Int.reduceEq, Int.reduceNe, Int.reduceBEq, Int.reduceBNe, Int.reduceToNat, Int.reduceGT, Int.reduceGE, ↓reduceIte, decide_true, decide_false, Tryd.f24, Span.t, Span.cs]
def hgHolds : List TV → Option TV
 | [.agg [.int .i64 x, .int .i64 y], .int .i64 n] => some (.bool (inB n x y))
 | _ => none
theorem hgHolds_ok : ∀ xs r, hgHolds xs = some r → PCalls Tryd.prog 24 xs r := by
 intro xs r h
 unfold hgHolds at h
 split at h
 ·cases h; exact hHolds_c ⟨_, _⟩ _
 ·cases h
noncomputable def spH5 : Pm.Spec := spH3.one 24 hgHolds
theorem spH5_ok : SpecOk Tryd.prog spH5 := Spec.one_ok hgHolds_ok spH3_ok
attribute [go_sem] hgHolds
@[go_sem] theorem spH5_p (f : FuncId) (xs : List TV) : spH5.p f xs = Pm.Spec.p (spH3.one 24 hgHolds) f xs := rfl
@[go_sem] theorem spH5_h (f : FuncId) (ps : List PV) (hl : List PO) : spH5.h f ps hl = Pm.Spec.h (spH3.one 24 hgHolds) f ps hl := rfl
@[go_sem] theorem spH5_y (Y : Pm.YS) (f : FuncId) (ps : List PV) (hl : List PO) : spH5.y Y f ps hl = Pm.Spec.y (spH3.one 24 hgHolds) Y f ps hl := rfl
@[go_sem] theorem spH5_fz (f : FuncId) : spH5.fz f = Pm.Spec.fz (spH3.one 24 hgHolds) f := rfl
@[go_sem] theorem spH5_fr (f : FuncId) : spH5.fr f = Pm.Spec.fr (spH3.one 24 hgHolds) f := rfl
@[go_sem] theorem spH5_yf (f : FuncId) : spH5.yf f = Pm.Spec.yf (spH3.one 24 hgHolds) f := rfl
@[go_sem] theorem spH5_gd : spH5.gd = Pm.Spec.gd (spH3.one 24 hgHolds) := rfl
@[go_sem] theorem spH5_mu (t : TypeId) : spH5.mu t = Pm.Spec.mu (spH3.one 24 hgHolds) t := rfl
@[go_sem] theorem spH5_nf (t : TypeId) : spH5.nf t = Pm.Spec.nf (spH3.one 24 hgHolds) t := rfl
theorem hSame_c {a b : List Int} {s t : TV} (hs : IsRow ic s a) (ht : IsRow ic t b) (ha : a.length ≤ 9223372036854775806) : PCalls Tryd.prog 21 [s, t] (.bool (decide (a = b))) := by
 refine pcalls_by Tryd.mixes noSpec_ok (fn := Tryd.f21) Tryd.func21 rfl (by kernel_rfl) (by show 2 ≤ _; decide) ?_
 by_cases hl : a.length = b.length
 ·by_cases h0 : a.length = 0
  ·have ea : a = [] := List.length_eq_zero_iff.1 h0
   have eb : b = [] := List.length_eq_zero_iff.1 (by omega)
   subst ea; subst eb
   rcases hs with ⟨rfl, _⟩ | ⟨f1, rfl⟩ <;> rcases ht with ⟨rfl, _⟩ | ⟨f2, rfl⟩
   all_goals
    simp (decide := true) (maxSteps := 4000000) only [go_sem, Nat.reduceAdd, Nat.reduceSub, Nat.reduceMul, Nat.reduceDiv, Nat.reduceMod, Nat.reduceLT, Nat.reduceLeDiff, Nat.reduceEqDiff, Nat.reduceBEq, Nat.reduceBNe, Nat.reduceGT, Int.reduceAdd, Int.reduceSub, Int.reduceMul, Int.reduceNeg, Int.reduceLT, Int.reduceLE, Int.reduceEq, Int.reduceNe, Int.reduceBEq, Int.reduceBNe, Int.reduceToNat, Int.reduceGT, Int.reduceGE, ↓reduceIte, decide_true, decide_false, eq_self, Nat.mul_one, Nat.zero_mul, Nat.one_mul, Int.le_refl, Nat.le_refl, Int.cast_ofNat_Int, Tryd.f21, List.length_nil, bne_self_eq_false]
    refine pwpC_loopU (A := Unit) [0, 1] (fun _ => [(5, .t (.int .i64 0))]) (fun _ => []) (fun _ => 0) () (by decide) (fun _ => by rfl) ?_ fun Q1 hQ1 _ I1 hI1 => ?_
    ·simp (decide := true) (maxSteps := 4000000) only [go_sem, Nat.reduceAdd, Nat.reduceSub, Nat.reduceMul, Nat.reduceDiv, Nat.reduceMod, Nat.reduceLT, Nat.reduceLeDiff, Nat.reduceEqDiff, Nat.reduceBEq, Nat.reduceBNe, Nat.reduceGT, Int.reduceAdd, Int.reduceSub, Int.reduceMul, Int.reduceNeg, Int.reduceLT, Int.reduceLE, Int.reduceEq, Int.reduceNe, Int.reduceBEq, Int.reduceBNe, Int.reduceToNat, Int.reduceGT, Int.reduceGE, ↓reduceIte, decide_true, decide_false, eq_self, Nat.mul_one, Nat.zero_mul, Nat.one_mul, Int.le_refl, Nat.le_refl, Int.cast_ofNat_Int]
    ·simp (decide := true) (maxSteps := 4000000) only [go_sem, Nat.reduceAdd, Nat.reduceSub, Nat.reduceMul, Nat.reduceDiv, Nat.reduceMod, Nat.reduceLT, Nat.reduceLeDiff, Nat.reduceEqDiff, Nat.reduceBEq, Nat.reduceBNe, Nat.reduceGT, Int.reduceAdd, Int.reduceSub, Int.reduceMul, Int.reduceNeg, Int.reduceLT, Int.reduceLE, Int.reduceEq, Int.reduceNe, Int.reduceBEq, Int.reduceBNe, Int.reduceToNat, Int.reduceGT, Int.reduceGE, ↓reduceIte, decide_true, decide_false, eq_self, Nat.mul_one, Nat.zero_mul, Nat.one_mul, Int.le_refl, Nat.le_refl, Int.cast_ofNat_Int, List.length_nil]
     refine hQ1 _ _ ?_
     simp (decide := true) (maxSteps := 4000000) only [go_sem, Nat.reduceAdd, Nat.reduceSub, Nat.reduceMul, Nat.reduceDiv, Nat.reduceMod, Nat.reduceLT, Nat.reduceLeDiff, Nat.reduceEqDiff, Nat.reduceBEq, Nat.reduceBNe, Nat.reduceGT, Int.reduceAdd, Int.reduceSub, Int.reduceMul, Int.reduceNeg, Int.reduceLT, Int.reduceLE, Int.reduceEq, Int.reduceNe, Int.reduceBEq, Int.reduceBNe, Int.reduceToNat, Int.reduceGT, Int.reduceGE, ↓reduceIte, decide_true, decide_false, eq_self, Nat.mul_one, Nat.zero_mul, Nat.one_mul, Int.le_refl, Nat.le_refl, Int.cast_ofNat_Int]
  ·obtain ⟨f1, rfl⟩ := hs.ne (by omega)
   obtain ⟨f2, rfl⟩ := ht.ne (by omega)
   rw [ic_ints, ic_ints]
   have hl' : ((a.length : Int) != (b.length : Int)) = false := bne_int_f (by omega)
   simp (decide := true) (maxSteps := 4000000) only [go_sem, Nat.reduceAdd, Nat.reduceSub, Nat.reduceMul, Nat.reduceDiv, Nat.reduceMod, Nat.reduceLT, Nat.reduceLeDiff, Nat.reduceEqDiff, Nat.reduceBEq, Nat.reduceBNe, Nat.reduceGT, Int.reduceAdd, Int.reduceSub, Int.reduceMul, Int.reduceNeg, Int.reduceLT, Int.reduceLE, Int.reduceEq, Int.reduceNe, Int.reduceBEq, Int.reduceBNe, Int.reduceToNat, Int.reduceGT, Int.reduceGE, ↓reduceIte, decide_true, decide_false, eq_self, Nat.mul_one, Nat.zero_mul, Nat.one_mul, Int.le_refl, Nat.le_refl, Int.cast_ofNat_Int, Tryd.f21, hl']
   refine pwpC_loopU (A := { k : Nat // a.take k = b.take k ∧ k ≤ a.length }) [0, 1] (fun k => [(5, .t (.int .i64 k.1))]) (fun k => []) (fun k => a.length - k.1) ⟨0, by simp⟩ (by decide) (fun _ => by rfl) ?_ fun Q1 hQ1 ⟨k, hk, hka⟩ I1 hI1 => ?_
   ·simp (decide := true) (maxSteps := 4000000) only [go_sem, Nat.reduceAdd, Nat.reduceSub, Nat.reduceMul, Nat.reduceDiv, Nat.reduceMod, Nat.reduceLT, Nat.reduceLeDiff, Nat.reduceEqDiff, Nat.reduceBEq, Nat.reduceBNe, Nat.reduceGT, Int.reduceAdd, Int.reduceSub, Int.reduceMul, Int.reduceNeg, Int.reduceLT, Int.reduceLE, Int.reduceEq, Int.reduceNe, Int.reduceBEq, Int.reduceBNe, Int.reduceToNat, Int.reduceGT, Int.reduceGE, ↓reduceIte, decide_true, decide_false, eq_self, Nat.mul_one, Nat.zero_mul, Nat.one_mul, Int.le_refl, Nat.le_refl, Int.cast_ofNat_Int]
   ·by_cases hlt : (k : Int) < a.length
    ·have hltb : (k : Int) < b.length := by omega
     obtain ⟨x, hx⟩ := get_lt hlt
     obtain ⟨y, hy⟩ := get_lt hltb
     have d1 := ints_at hx
     have d2 := ints_at hy
     rw [Nat.mul_one] at d1 d2
     have hc1 : IntKind.i64.wrap (k + 1) = ((k + 1 : Nat) : Int) := by rw [wrap_in (by omega) (by omega)]; omega
     by_cases hxy : x = y
     ·subst hxy
      simp (decide := true) (maxSteps := 4000000) only [go_sem, Nat.reduceAdd, Nat.reduceSub, Nat.reduceMul, Nat.reduceDiv, Nat.reduceMod, Nat.reduceLT, Nat.reduceLeDiff, Nat.reduceEqDiff, Nat.reduceBEq, Nat.reduceBNe, Nat.reduceGT, Int.reduceAdd, Int.reduceSub, Int.reduceMul, Int.reduceNeg, Int.reduceLT, Int.reduceLE, Int.reduceEq, Int.reduceNe, Int.reduceBEq, Int.reduceBNe, Int.reduceToNat, Int.reduceGT, Int.reduceGE, ↓reduceIte, decide_true, decide_false, eq_self, Nat.mul_one, Nat.zero_mul, Nat.one_mul, Int.le_refl, Nat.le_refl, Int.cast_ofNat_Int, hlt, hltb, d1, d2, bne_self_eq_false]
      refine hI1 _ ⟨k + 1, by rw [take_snoc hx, take_snoc hy, hk], by omega⟩ (by simp only; omega) ?_
      simp (decide := true) (maxSteps := 4000000) only [go_sem, Nat.reduceAdd, Nat.reduceSub, Nat.reduceMul, Nat.reduceDiv, Nat.reduceMod, Nat.reduceLT, Nat.reduceLeDiff, Nat.reduceEqDiff, Nat.reduceBEq, Nat.reduceBNe, Nat.reduceGT, Int.reduceAdd, Int.reduceSub, Int.reduceMul, Int.reduceNeg, Int.reduceLT, Int.reduceLE, Int.reduceEq, Int.reduceNe, Int.reduceBEq, Int.reduceBNe, Int.reduceToNat, Int.reduceGT, Int.reduceGE, ↓reduceIte, decide_true, decide_false, eq_self, Nat.mul_one, Nat.zero_mul, Nat.one_mul, Int.le_refl, Nat.le_refl, Int.cast_ofNat_Int, hc1]
     ·have hb : (x != y) = true := bne_int_t hxy
      simp (decide := true) (maxSteps := 4000000) only [go_sem, Nat.reduceAdd, Nat.reduceSub, Nat.reduceMul, Nat.reduceDiv, Nat.reduceMod, Nat.reduceLT, Nat.reduceLeDiff, Nat.reduceEqDiff, Nat.reduceBEq, Nat.reduceBNe, Nat.reduceGT, Int.reduceAdd, Int.reduceSub, Int.reduceMul, Int.reduceNeg, Int.reduceLT, Int.reduceLE, Int.reduceEq, Int.reduceNe, Int.reduceBEq, Int.reduceBNe, Int.reduceToNat, Int.reduceGT, Int.reduceGE, ↓reduceIte, decide_true, decide_false, eq_self, Nat.mul_one, Nat.zero_mul, Nat.one_mul, Int.le_refl, Nat.le_refl, Int.cast_ofNat_Int, hlt, hltb, d1, d2, hb]
      refine hQ1 _ _ ?_
      have : decide (a = b) = false := by
       rw [decide_eq_false_iff_not]
       rintro rfl
       rw [hx] at hy; cases hy; exact hxy rfl
      simp (decide := true) (maxSteps := 4000000) only [go_sem, Nat.reduceAdd, Nat.reduceSub, Nat.reduceMul, Nat.reduceDiv, Nat.reduceMod, Nat.reduceLT, Nat.reduceLeDiff, Nat.reduceEqDiff, Nat.reduceBEq, Nat.reduceBNe, Nat.reduceGT, Int.reduceAdd, Int.reduceSub, Int.reduceMul, Int.reduceNeg, Int.reduceLT, Int.reduceLE, Int.reduceEq, Int.reduceNe, Int.reduceBEq, Int.reduceBNe, Int.reduceToNat, Int.reduceGT, Int.reduceGE, ↓reduceIte, decide_true, decide_false, eq_self, Nat.mul_one, Nat.zero_mul, Nat.one_mul, Int.le_refl, Nat.le_refl, Int.cast_ofNat_Int, this]
    ·have hke : k = a.length := by omega
     subst hke
     simp (decide := true) (maxSteps := 4000000) only [go_sem, Nat.reduceAdd, Nat.reduceSub, Nat.reduceMul, Nat.reduceDiv, Nat.reduceMod, Nat.reduceLT, Nat.reduceLeDiff, Nat.reduceEqDiff, Nat.reduceBEq, Nat.reduceBNe, Nat.reduceGT, Int.reduceAdd, Int.reduceSub, Int.reduceMul, Int.reduceNeg, Int.reduceLT, Int.reduceLE, Int.reduceEq, Int.reduceNe, Int.reduceBEq, Int.reduceBNe, Int.reduceToNat, Int.reduceGT, Int.reduceGE, ↓reduceIte, decide_true, decide_false, eq_self, Nat.mul_one, Nat.zero_mul, Nat.one_mul, Int.le_refl, Nat.le_refl, Int.cast_ofNat_Int, hlt]
     refine hQ1 _ _ ?_
     have : decide (a = b) = true := by
      rw [decide_eq_true_eq]
      rwa [List.take_length, List.take_of_length_le (by omega)] at hk
     simp (decide := true) (maxSteps := 4000000) only [go_sem, Nat.reduceAdd, Nat.reduceSub, Nat.reduceMul, Nat.reduceDiv, Nat.reduceMod, Nat.reduceLT, Nat.reduceLeDiff, Nat.reduceEqDiff, Nat.reduceBEq, Nat.reduceBNe, Nat.reduceGT, Int.reduceAdd, Int.reduceSub, Int.reduceMul, Int.reduceNeg, Int.reduceLT, Int.reduceLE, Int.reduceEq, Int.reduceNe, Int.reduceBEq, Int.reduceBNe, Int.reduceToNat, Int.reduceGT, Int.reduceGE, ↓reduceIte, decide_true, decide_false, eq_self, Nat.mul_one, Nat.zero_mul, Nat.one_mul, Int.le_refl, Nat.le_refl, Int.cast_ofNat_Int, this]
 ·have hl' : ((a.length : Int) != (b.length : Int)) = true := bne_int_t (by omega)
  have hd : decide (a = b) = false := by
   rw [decide_eq_false_iff_not]
   rintro rfl; exact hl rfl
  rcases hs with ⟨rfl, rfl⟩ | ⟨f1, rfl⟩ <;> rcases ht with ⟨rfl, rfl⟩ | ⟨f2, rfl⟩
  ·exact absurd rfl hl
  all_goals
   try simp only [List.length_nil, Int.cast_ofNat_Int] at hl'
   simp (decide := true) (maxSteps := 4000000) only [go_sem, Nat.reduceAdd, Nat.reduceSub, Nat.reduceMul, Nat.reduceDiv, Nat.reduceMod, Nat.reduceLT, Nat.reduceLeDiff, Nat.reduceEqDiff, Nat.reduceBEq, Nat.reduceBNe, Nat.reduceGT, Int.reduceAdd, Int.reduceSub, Int.reduceMul, Int.reduceNeg, Int.reduceLT, Int.reduceLE, Int.reduceEq, Int.reduceNe, Int.reduceBEq, Int.reduceBNe, Int.reduceToNat, Int.reduceGT, Int.reduceGE, ↓reduceIte, decide_true, decide_false, eq_self, Nat.mul_one, Nat.zero_mul, Nat.one_mul, Int.le_refl, Nat.le_refl, Int.cast_ofNat_Int, Tryd.f21, hl', hd]
noncomputable def hgSame : List TV → Option TV
 | [s, t] => match rowL unI s, rowL unI t with
  | some a, some b => if a.length ≤ 9223372036854775806 then some (.bool (decide (a = b))) else none
  | _, _ => none
 | _ => none
theorem hgSame_ok : ∀ xs r, hgSame xs = some r → PCalls Tryd.prog 21 xs r := by
 intro xs r h
 unfold hgSame at h
 split at h
 ·split at h
  ·rename_i a b ha hb
   split at h
   ·rename_i hc; cases h
    exact hSame_c (rowL_some (un := unI) unI_nil (@unI_some) ha) (rowL_some (un := unI) unI_nil (@unI_some) hb) hc
   ·cases h
  ·cases h
 ·cases h
noncomputable def spH11 : Pm.Spec := spH5.one 21 hgSame
theorem spH11_ok : SpecOk Tryd.prog spH11 := Spec.one_ok hgSame_ok spH5_ok
attribute [go_sem] hgSame
@[go_sem] theorem spH11_p (f : FuncId) (xs : List TV) : spH11.p f xs = Pm.Spec.p (spH5.one 21 hgSame) f xs := rfl
@[go_sem] theorem spH11_h (f : FuncId) (ps : List PV) (hl : List PO) : spH11.h f ps hl = Pm.Spec.h (spH5.one 21 hgSame) f ps hl := rfl
@[go_sem] theorem spH11_y (Y : Pm.YS) (f : FuncId) (ps : List PV) (hl : List PO) : spH11.y Y f ps hl = Pm.Spec.y (spH5.one 21 hgSame) Y f ps hl := rfl
@[go_sem] theorem spH11_fz (f : FuncId) : spH11.fz f = Pm.Spec.fz (spH5.one 21 hgSame) f := rfl
@[go_sem] theorem spH11_fr (f : FuncId) : spH11.fr f = Pm.Spec.fr (spH5.one 21 hgSame) f := rfl
@[go_sem] theorem spH11_yf (f : FuncId) : spH11.yf f = Pm.Spec.yf (spH5.one 21 hgSame) f := rfl
@[go_sem] theorem spH11_gd : spH11.gd = Pm.Spec.gd (spH5.one 21 hgSame) := rfl
@[go_sem] theorem spH11_mu (t : TypeId) : spH11.mu t = Pm.Spec.mu (spH5.one 21 hgSame) t := rfl
@[go_sem] theorem spH11_nf (t : TypeId) : spH11.nf t = Pm.Spec.nf (spH5.one 21 hgSame) t := rfl
theorem hSameSpans_c {a b : List Span} {s t : TV} (hs : IsRow Span.cs s a) (ht : IsRow Span.cs t b) (ha : a.length ≤ 9223372036854775806) : PCalls Tryd.prog 70 [s, t] (.bool (decide (a = b))) := by
 refine pcalls_by Tryd.mixes noSpec_ok (fn := Tryd.f70) Tryd.func70 rfl (by kernel_rfl) (by show 2 ≤ _; decide) ?_
 by_cases hl : a.length = b.length
 ·by_cases h0 : a.length = 0
  ·have ea : a = [] := List.length_eq_zero_iff.1 h0
   have eb : b = [] := List.length_eq_zero_iff.1 (by omega)
   subst ea; subst eb
   rcases hs with ⟨rfl, _⟩ | ⟨f1, rfl⟩ <;> rcases ht with ⟨rfl, _⟩ | ⟨f2, rfl⟩
   all_goals
    simp (decide := true) (maxSteps := 4000000) only [go_sem, Nat.reduceAdd, Nat.reduceSub, Nat.reduceMul, Nat.reduceDiv, Nat.reduceMod, Nat.reduceLT, Nat.reduceLeDiff, Nat.reduceEqDiff, Nat.reduceBEq, Nat.reduceBNe, Nat.reduceGT, Int.reduceAdd, Int.reduceSub, Int.reduceMul, Int.reduceNeg, Int.reduceLT, Int.reduceLE, Int.reduceEq, Int.reduceNe, Int.reduceBEq, Int.reduceBNe, Int.reduceToNat, Int.reduceGT, Int.reduceGE, ↓reduceIte, decide_true, decide_false, eq_self, Nat.mul_one, Nat.zero_mul, Nat.one_mul, Int.le_refl, Nat.le_refl, Int.cast_ofNat_Int, Tryd.f70, List.length_nil, bne_self_eq_false]
    refine pwpC_loopU (A := Unit) [0, 1] (fun _ => [(5, .t (.int .i64 0))]) (fun _ => []) (fun _ => 0) () (by decide) (fun _ => by rfl) ?_ fun Q1 hQ1 _ I1 hI1 => ?_
    ·simp (decide := true) (maxSteps := 4000000) only [go_sem, Nat.reduceAdd, Nat.reduceSub, Nat.reduceMul, Nat.reduceDiv, Nat.reduceMod, Nat.reduceLT, Nat.reduceLeDiff, Nat.reduceEqDiff, Nat.reduceBEq, Nat.reduceBNe, Nat.reduceGT, Int.reduceAdd, Int.reduceSub, Int.reduceMul, Int.reduceNeg, Int.reduceLT, Int.reduceLE, Int.reduceEq, Int.reduceNe, Int.reduceBEq, Int.reduceBNe, Int.reduceToNat, Int.reduceGT, Int.reduceGE, ↓reduceIte, decide_true, decide_false, eq_self, Nat.mul_one, Nat.zero_mul, Nat.one_mul, Int.le_refl, Nat.le_refl, Int.cast_ofNat_Int]
    ·simp (decide := true) (maxSteps := 4000000) only [go_sem, Nat.reduceAdd, Nat.reduceSub, Nat.reduceMul, Nat.reduceDiv, Nat.reduceMod, Nat.reduceLT, Nat.reduceLeDiff, Nat.reduceEqDiff, Nat.reduceBEq, Nat.reduceBNe, Nat.reduceGT, Int.reduceAdd, Int.reduceSub, Int.reduceMul, Int.reduceNeg, Int.reduceLT, Int.reduceLE, Int.reduceEq, Int.reduceNe, Int.reduceBEq, Int.reduceBNe, Int.reduceToNat, Int.reduceGT, Int.reduceGE, ↓reduceIte, decide_true, decide_false, eq_self, Nat.mul_one, Nat.zero_mul, Nat.one_mul, Int.le_refl, Nat.le_refl, Int.cast_ofNat_Int, List.length_nil]
     refine hQ1 _ _ ?_
     simp (decide := true) (maxSteps := 4000000) only [go_sem, Nat.reduceAdd, Nat.reduceSub, Nat.reduceMul, Nat.reduceDiv, Nat.reduceMod, Nat.reduceLT, Nat.reduceLeDiff, Nat.reduceEqDiff, Nat.reduceBEq, Nat.reduceBNe, Nat.reduceGT, Int.reduceAdd, Int.reduceSub, Int.reduceMul, Int.reduceNeg, Int.reduceLT, Int.reduceLE, Int.reduceEq, Int.reduceNe, Int.reduceBEq, Int.reduceBNe, Int.reduceToNat, Int.reduceGT, Int.reduceGE, ↓reduceIte, decide_true, decide_false, eq_self, Nat.mul_one, Nat.zero_mul, Nat.one_mul, Int.le_refl, Nat.le_refl, Int.cast_ofNat_Int]
  ·obtain ⟨f1, rfl⟩ := hs.ne (by omega)
   obtain ⟨f2, rfl⟩ := ht.ne (by omega)
   have hl' : ((a.length : Int) != (b.length : Int)) = false := bne_int_f (by omega)
   simp (decide := true) (maxSteps := 4000000) only [go_sem, Nat.reduceAdd, Nat.reduceSub, Nat.reduceMul, Nat.reduceDiv, Nat.reduceMod, Nat.reduceLT, Nat.reduceLeDiff, Nat.reduceEqDiff, Nat.reduceBEq, Nat.reduceBNe, Nat.reduceGT, Int.reduceAdd, Int.reduceSub, Int.reduceMul, Int.reduceNeg, Int.reduceLT, Int.reduceLE, Int.reduceEq, Int.reduceNe, Int.reduceBEq, Int.reduceBNe, Int.reduceToNat, Int.reduceGT, Int.reduceGE, ↓reduceIte, decide_true, decide_false, eq_self, Nat.mul_one, Nat.zero_mul, Nat.one_mul, Int.le_refl, Nat.le_refl, Int.cast_ofNat_Int, Tryd.f70, hl']
   refine pwpC_loopU (A := { k : Nat // a.take k = b.take k ∧ k ≤ a.length }) [0, 1] (fun k => [(5, .t (.int .i64 k.1))]) (fun _ => []) (fun k => a.length - k.1) ⟨0, by simp⟩ (by decide) (fun _ => by rfl) ?_ fun Q1 hQ1 ⟨k, hk, hka⟩ I1 hI1 => ?_
   ·simp (decide := true) (maxSteps := 4000000) only [go_sem, Nat.reduceAdd, Nat.reduceSub, Nat.reduceMul, Nat.reduceDiv, Nat.reduceMod, Nat.reduceLT, Nat.reduceLeDiff, Nat.reduceEqDiff, Nat.reduceBEq, Nat.reduceBNe, Nat.reduceGT, Int.reduceAdd, Int.reduceSub, Int.reduceMul, Int.reduceNeg, Int.reduceLT, Int.reduceLE, Int.reduceEq, Int.reduceNe, Int.reduceBEq, Int.reduceBNe, Int.reduceToNat, Int.reduceGT, Int.reduceGE, ↓reduceIte, decide_true, decide_false, eq_self, Nat.mul_one, Nat.zero_mul, Nat.one_mul, Int.le_refl, Nat.le_refl, Int.cast_ofNat_Int]
   ·by_cases hlt : (k : Int) < a.length
    ·have hltb : (k : Int) < b.length := by omega
     obtain ⟨x, hx⟩ := get_lt hlt
     obtain ⟨y, hy⟩ := get_lt hltb
     have d1 := flat_at Span.cs (n := 2) (fun _ => rfl) hx
     have d2 := flat_at Span.cs (n := 2) (fun _ => rfl) hy
     have hc1 : IntKind.i64.wrap (k + 1) = ((k + 1 : Nat) : Int) := by rw [wrap_in (by omega) (by omega)]; omega
     obtain ⟨x0, x1⟩ := x
     obtain ⟨y0, y1⟩ := y
     by_cases hxy : x0 = y0 ∧ x1 = y1
     ·obtain ⟨rfl, rfl⟩ := hxy
      simp (decide := true) (maxSteps := 4000000) only [go_sem, Nat.reduceAdd, Nat.reduceSub, Nat.reduceMul, Nat.reduceDiv, Nat.reduceMod, Nat.reduceLT, Nat.reduceLeDiff, Nat.reduceEqDiff, Nat.reduceBEq, Nat.reduceBNe, Nat.reduceGT, Int.reduceAdd, Int.reduceSub, Int.reduceMul, Int.reduceNeg, Int.reduceLT, Int.reduceLE, Int.reduceEq, Int.reduceNe, Int.reduceBEq, Int.reduceBNe, Int.reduceToNat, Int.reduceGT, Int.reduceGE, ↓reduceIte, decide_true, decide_false, eq_self, Nat.mul_one, Nat.zero_mul, Nat.one_mul, Int.le_refl, Nat.le_refl, Int.cast_ofNat_Int, hlt, hltb, d1, d2, Span.cs, beq_self_eq_true]
      refine hI1 _ ⟨k + 1, by rw [take_snoc hx, take_snoc hy, hk], by omega⟩ (by simp only; omega) ?_
      simp (decide := true) (maxSteps := 4000000) only [go_sem, Nat.reduceAdd, Nat.reduceSub, Nat.reduceMul, Nat.reduceDiv, Nat.reduceMod, Nat.reduceLT, Nat.reduceLeDiff, Nat.reduceEqDiff, Nat.reduceBEq, Nat.reduceBNe, Nat.reduceGT, Int.reduceAdd, Int.reduceSub, Int.reduceMul, Int.reduceNeg, Int.reduceLT, Int.reduceLE, Int.reduceEq, Int.reduceNe, Int.reduceBEq, Int.reduceBNe, Int.reduceToNat, Int.reduceGT, Int.reduceGE, ↓reduceIte, decide_true, decide_false, eq_self, Nat.mul_one, Nat.zero_mul, Nat.one_mul, Int.le_refl, Nat.le_refl, Int.cast_ofNat_Int, hc1]
     ·have hb : (x0 == y0 && x1 == y1) = false := by simpa using hxy
      simp (decide := true) (maxSteps := 4000000) only [go_sem, Nat.reduceAdd, Nat.reduceSub, Nat.reduceMul, Nat.reduceDiv, Nat.reduceMod, Nat.reduceLT, Nat.reduceLeDiff, Nat.reduceEqDiff, Nat.reduceBEq, Nat.reduceBNe, Nat.reduceGT, Int.reduceAdd, Int.reduceSub, Int.reduceMul, Int.reduceNeg, Int.reduceLT, Int.reduceLE, Int.reduceEq, Int.reduceNe, Int.reduceBEq, Int.reduceBNe, Int.reduceToNat, Int.reduceGT, Int.reduceGE, ↓reduceIte, decide_true, decide_false, eq_self, Nat.mul_one, Nat.zero_mul, Nat.one_mul, Int.le_refl, Nat.le_refl, Int.cast_ofNat_Int, hlt, hltb, d1, d2, Span.cs, hb]
      refine hQ1 _ _ ?_
      have : decide (a = b) = false := by
       rw [decide_eq_false_iff_not]
       rintro rfl
       rw [hx] at hy; cases hy; exact hxy ⟨rfl, rfl⟩
      simp (decide := true) (maxSteps := 4000000) only [go_sem, Nat.reduceAdd, Nat.reduceSub, Nat.reduceMul, Nat.reduceDiv, Nat.reduceMod, Nat.reduceLT, Nat.reduceLeDiff, Nat.reduceEqDiff, Nat.reduceBEq, Nat.reduceBNe, Nat.reduceGT, Int.reduceAdd, Int.reduceSub, Int.reduceMul, Int.reduceNeg, Int.reduceLT, Int.reduceLE, Int.reduceEq, Int.reduceNe, Int.reduceBEq, Int.reduceBNe, Int.reduceToNat, Int.reduceGT, Int.reduceGE, ↓reduceIte, decide_true, decide_false, eq_self, Nat.mul_one, Nat.zero_mul, Nat.one_mul, Int.le_refl, Nat.le_refl, Int.cast_ofNat_Int, this]
    ·have hke : k = a.length := by omega
     subst hke
     simp (decide := true) (maxSteps := 4000000) only [go_sem, Nat.reduceAdd, Nat.reduceSub, Nat.reduceMul, Nat.reduceDiv, Nat.reduceMod, Nat.reduceLT, Nat.reduceLeDiff, Nat.reduceEqDiff, Nat.reduceBEq, Nat.reduceBNe, Nat.reduceGT, Int.reduceAdd, Int.reduceSub, Int.reduceMul, Int.reduceNeg, Int.reduceLT, Int.reduceLE, Int.reduceEq, Int.reduceNe, Int.reduceBEq, Int.reduceBNe, Int.reduceToNat, Int.reduceGT, Int.reduceGE, ↓reduceIte, decide_true, decide_false, eq_self, Nat.mul_one, Nat.zero_mul, Nat.one_mul, Int.le_refl, Nat.le_refl, Int.cast_ofNat_Int, hlt]
     refine hQ1 _ _ ?_
     have : decide (a = b) = true := by
      rw [decide_eq_true_eq]
      rwa [List.take_length, List.take_of_length_le (by omega)] at hk
     simp (decide := true) (maxSteps := 4000000) only [go_sem, Nat.reduceAdd, Nat.reduceSub, Nat.reduceMul, Nat.reduceDiv, Nat.reduceMod, Nat.reduceLT, Nat.reduceLeDiff, Nat.reduceEqDiff, Nat.reduceBEq, Nat.reduceBNe, Nat.reduceGT, Int.reduceAdd, Int.reduceSub, Int.reduceMul, Int.reduceNeg, Int.reduceLT, Int.reduceLE, Int.reduceEq, Int.reduceNe, Int.reduceBEq, Int.reduceBNe, Int.reduceToNat, Int.reduceGT, Int.reduceGE, ↓reduceIte, decide_true, decide_false, eq_self, Nat.mul_one, Nat.zero_mul, Nat.one_mul, Int.le_refl, Nat.le_refl, Int.cast_ofNat_Int, this]
 ·have hl' : ((a.length : Int) != (b.length : Int)) = true := bne_int_t (by omega)
  have hd : decide (a = b) = false := by
   rw [decide_eq_false_iff_not]
   rintro rfl; exact hl rfl
  rcases hs with ⟨rfl, rfl⟩ | ⟨f1, rfl⟩ <;> rcases ht with ⟨rfl, rfl⟩ | ⟨f2, rfl⟩
  ·exact absurd rfl hl
  all_goals
   try simp only [List.length_nil, Int.cast_ofNat_Int] at hl'
   simp (decide := true) (maxSteps := 4000000) only [go_sem, Nat.reduceAdd, Nat.reduceSub, Nat.reduceMul, Nat.reduceDiv, Nat.reduceMod, Nat.reduceLT, Nat.reduceLeDiff, Nat.reduceEqDiff, Nat.reduceBEq, Nat.reduceBNe, Nat.reduceGT, Int.reduceAdd, Int.reduceSub, Int.reduceMul, Int.reduceNeg, Int.reduceLT, Int.reduceLE, Int.reduceEq, Int.reduceNe, Int.reduceBEq, Int.reduceBNe, Int.reduceToNat, Int.reduceGT, Int.reduceGE, ↓reduceIte, decide_true, decide_false, eq_self, Nat.mul_one, Nat.zero_mul, Nat.one_mul, Int.le_refl, Nat.le_refl, Int.cast_ofNat_Int, Tryd.f70, hl', hd]
noncomputable def hgSameSpans : List TV → Option TV
 | [s, t] => match rowL unS s, rowL unS t with
  | some a, some b => if a.length ≤ 9223372036854775806 then some (.bool (decide (a = b))) else none
  | _, _ => none
 | _ => none
theorem hgSameSpans_ok : ∀ xs r, hgSameSpans xs = some r → PCalls Tryd.prog 70 xs r := by
 intro xs r h
 unfold hgSameSpans at h
 split at h
 ·split at h
  ·rename_i a b ha hb
   split at h
   ·rename_i hc; cases h
    exact hSameSpans_c (rowL_some (un := unS) unS_nil (@unS_some) ha) (rowL_some (un := unS) unS_nil (@unS_some) hb) hc
   ·cases h
  ·cases h
 ·cases h
noncomputable def spH12 : Pm.Spec := spH11.one 70 hgSameSpans
theorem spH12_ok : SpecOk Tryd.prog spH12 := Spec.one_ok hgSameSpans_ok spH11_ok
attribute [go_sem] hgSameSpans
@[go_sem] theorem spH12_p (f : FuncId) (xs : List TV) : spH12.p f xs = Pm.Spec.p (spH11.one 70 hgSameSpans) f xs := rfl
@[go_sem] theorem spH12_h (f : FuncId) (ps : List PV) (hl : List PO) : spH12.h f ps hl = Pm.Spec.h (spH11.one 70 hgSameSpans) f ps hl := rfl
@[go_sem] theorem spH12_y (Y : Pm.YS) (f : FuncId) (ps : List PV) (hl : List PO) : spH12.y Y f ps hl = Pm.Spec.y (spH11.one 70 hgSameSpans) Y f ps hl := rfl
@[go_sem] theorem spH12_fz (f : FuncId) : spH12.fz f = Pm.Spec.fz (spH11.one 70 hgSameSpans) f := rfl
@[go_sem] theorem spH12_fr (f : FuncId) : spH12.fr f = Pm.Spec.fr (spH11.one 70 hgSameSpans) f := rfl
@[go_sem] theorem spH12_yf (f : FuncId) : spH12.yf f = Pm.Spec.yf (spH11.one 70 hgSameSpans) f := rfl
@[go_sem] theorem spH12_gd : spH12.gd = Pm.Spec.gd (spH11.one 70 hgSameSpans) := rfl
@[go_sem] theorem spH12_mu (t : TypeId) : spH12.mu t = Pm.Spec.mu (spH11.one 70 hgSameSpans) t := rfl
@[go_sem] theorem spH12_nf (t : TypeId) : spH12.nf t = Pm.Spec.nf (spH11.one 70 hgSameSpans) t := rfl
theorem hPick_c {l : List Int} {s : TV} (hs : IsRow ic s l) (hl : l.length ≤ 9223372036854775806) (n : Int) : PCalls Tryd.prog 47 [s, .int .i64 n] (.int .i64 (pickI l n)) := by
 have hI := rowI_is hs
 refine pcalls_by Tryd.mixes spH12_ok (fn := Tryd.f47) Tryd.func47 rfl (by kernel_rfl) (by show 2 ≤ _; decide) ?_
 unfold pickI
 by_cases h0 : l.length = 0
 ·have h0' : ((l.length : Int) == 0) = true := beq_int_t (by omega)
  rcases hs with ⟨rfl, rfl⟩ | ⟨full, rfl⟩ <;> simp (decide := true) (maxSteps := 4000000) only [go_sem, Nat.reduceAdd, Nat.reduceSub, Nat.reduceMul, Nat.reduceDiv, Nat.reduceMod, Nat.reduceLT, Nat.reduceLeDiff, Nat.reduceEqDiff, Nat.reduceBEq, Nat.reduceBNe, Nat.reduceGT, Int.reduceAdd, Int.reduceSub, Int.reduceMul, Int.reduceNeg, Int.reduceLT, Int.reduceLE, Int.reduceEq, Int.reduceNe, Int.reduceBEq, Int.reduceBNe, Int.reduceToNat, Int.reduceGT, Int.reduceGE, ↓reduceIte, decide_true, decide_false, eq_self, Nat.mul_one, Nat.zero_mul, Nat.one_mul, Int.le_refl, Nat.le_refl, Int.cast_ofNat_Int, Tryd.f47, h0, h0', List.length_nil]
 ·have h0' : ((l.length : Int) == 0) = false := beq_int_f (by omega)
  obtain ⟨full, rfl⟩ := hs.ne (by omega)
  have hc : 0 < (l.length : Int) ∧ (l.length : Int) ≤ 9223372036854775807 := by omega
  have m1 := Int.emod_nonneg n (show (l.length : Int) ≠ 0 by omega)
  have m2 := Int.emod_lt_of_pos n (show 0 < (l.length : Int) by omega)
  obtain ⟨k, hk⟩ := Int.eq_ofNat_of_zero_le m1
  rw [hk] at m2
  obtain ⟨x, hx⟩ := get_lt m2
  have d := flat_at ic (n := 1) (fun _ => rfl) hx
  rw [Nat.mul_one] at d
  simp (decide := true) (maxSteps := 4000000) only [go_sem, Nat.reduceAdd, Nat.reduceSub, Nat.reduceMul, Nat.reduceDiv, Nat.reduceMod, Nat.reduceLT, Nat.reduceLeDiff, Nat.reduceEqDiff, Nat.reduceBEq, Nat.reduceBNe, Nat.reduceGT, Int.reduceAdd, Int.reduceSub, Int.reduceMul, Int.reduceNeg, Int.reduceLT, Int.reduceLE, Int.reduceEq, Int.reduceNe, Int.reduceBEq, Int.reduceBNe, Int.reduceToNat, Int.reduceGT, Int.reduceGE, ↓reduceIte, decide_true, decide_false, eq_self, Nat.mul_one, Nat.zero_mul, Nat.one_mul, Int.le_refl, Nat.le_refl, Int.cast_ofNat_Int, Tryd.f47, h0, h0', hc, hk, m2, d, ic, Int.toNat_natCast, nth_eq hx]
noncomputable def hgPick : List TV → Option TV
 | [s, .int .i64 n] => match rowL unI s with
  | some l => if l.length ≤ 9223372036854775806 then some (.int .i64 (pickI l n)) else none
  | none => none
 | _ => none
theorem hgPick_ok : ∀ xs r, hgPick xs = some r → PCalls Tryd.prog 47 xs r := by
 intro xs r h
 unfold hgPick at h
 split at h
 ·split at h
  ·rename_i l hl
   split at h
   ·rename_i hc; cases h
    exact hPick_c (rowL_some (un := unI) unI_nil (@unI_some) hl) hc _
   ·cases h
  ·cases h
 ·cases h
noncomputable def spH13 : Pm.Spec := spH12.one 47 hgPick
theorem spH13_ok : SpecOk Tryd.prog spH13 := Spec.one_ok hgPick_ok spH12_ok
attribute [go_sem] hgPick
@[go_sem] theorem spH13_p (f : FuncId) (xs : List TV) : spH13.p f xs = Pm.Spec.p (spH12.one 47 hgPick) f xs := rfl
@[go_sem] theorem spH13_h (f : FuncId) (ps : List PV) (hl : List PO) : spH13.h f ps hl = Pm.Spec.h (spH12.one 47 hgPick) f ps hl := rfl
@[go_sem] theorem spH13_y (Y : Pm.YS) (f : FuncId) (ps : List PV) (hl : List PO) : spH13.y Y f ps hl = Pm.Spec.y (spH12.one 47 hgPick) Y f ps hl := rfl
@[go_sem] theorem spH13_fz (f : FuncId) : spH13.fz f = Pm.Spec.fz (spH12.one 47 hgPick) f := rfl
@[go_sem] theorem spH13_fr (f : FuncId) : spH13.fr f = Pm.Spec.fr (spH12.one 47 hgPick) f := rfl
@[go_sem] theorem spH13_yf (f : FuncId) : spH13.yf f = Pm.Spec.yf (spH12.one 47 hgPick) f := rfl
@[go_sem] theorem spH13_gd : spH13.gd = Pm.Spec.gd (spH12.one 47 hgPick) := rfl
@[go_sem] theorem spH13_mu (t : TypeId) : spH13.mu t = Pm.Spec.mu (spH12.one 47 hgPick) t := rfl
@[go_sem] theorem spH13_nf (t : TypeId) : spH13.nf t = Pm.Spec.nf (spH12.one 47 hgPick) t := rfl
theorem hBefore_c (a b : List Int) (fa fb : Bool) (ha : a.length ≤ 9223372036854775806) (hb : b.length ≤ 9223372036854775806) : PCalls Tryd.prog 53 [.sl (ints a) a.length fa, .sl (ints b) b.length fb] (.bool (before a b)) := by
 refine pcalls_by Tryd.mixes noSpec_ok (fn := Tryd.f53) Tryd.func53 rfl (by kernel_rfl) (by show 2 ≤ _; decide) ?_
 simp (decide := true) (maxSteps := 4000000) only [go_sem, Nat.reduceAdd, Nat.reduceSub, Nat.reduceMul, Nat.reduceDiv, Nat.reduceMod, Nat.reduceLT, Nat.reduceLeDiff, Nat.reduceEqDiff, Nat.reduceBEq, Nat.reduceBNe, Nat.reduceGT, Int.reduceAdd, Int.reduceSub, Int.reduceMul, Int.reduceNeg, Int.reduceLT, Int.reduceLE, Int.reduceEq, Int.reduceNe, Int.reduceBEq, Int.reduceBNe, Int.reduceToNat, Int.reduceGT, Int.reduceGE, ↓reduceIte, decide_true, decide_false, eq_self, Nat.mul_one, Nat.zero_mul, Nat.one_mul, Int.le_refl, Nat.le_refl, Int.cast_ofNat_Int, Tryd.f53]
 refine pwpC_loopU (A := { k : Nat // k ≤ min a.length b.length ∧ before a b = before (a.drop k) (b.drop k) }) [0, 1] (fun k => [(5, .t (.int .i64 k.1))]) (fun k => []) (fun k => min a.length b.length - k.1) ⟨0, by omega, rfl⟩ (by decide) (fun _ => by rfl) ?_ fun Q1 hQ1 ⟨k, hk, hbf⟩ I1 hI1 => ?_
 ·simp (decide := true) (maxSteps := 4000000) only [go_sem, Nat.reduceAdd, Nat.reduceSub, Nat.reduceMul, Nat.reduceDiv, Nat.reduceMod, Nat.reduceLT, Nat.reduceLeDiff, Nat.reduceEqDiff, Nat.reduceBEq, Nat.reduceBNe, Nat.reduceGT, Int.reduceAdd, Int.reduceSub, Int.reduceMul, Int.reduceNeg, Int.reduceLT, Int.reduceLE, Int.reduceEq, Int.reduceNe, Int.reduceBEq, Int.reduceBNe, Int.reduceToNat, Int.reduceGT, Int.reduceGE, ↓reduceIte, decide_true, decide_false, eq_self, Nat.mul_one, Nat.zero_mul, Nat.one_mul, Int.le_refl, Nat.le_refl, Int.cast_ofNat_Int]
 ·by_cases hlt : (k : Int) < min (a.length : Int) b.length
  ·have hc1 : IntKind.i64.wrap (k + 1) = ((k + 1 : Nat) : Int) := by rw [wrap_in (by omega) (by omega)]; omega
   have hka : (k : Int) < a.length := by omega
   have hkb : (k : Int) < b.length := by omega
   obtain ⟨x, hx⟩ := get_lt hka
   obtain ⟨y, hy⟩ := get_lt hkb
   have da : a.drop k = x :: a.drop (k + 1) := by rw [List.drop_eq_getElem_cons (by omega)]; rw [List.getElem?_eq_getElem (by omega)] at hx; cases hx; rfl
   have db : b.drop k = y :: b.drop (k + 1) := by rw [List.drop_eq_getElem_cons (by omega)]; rw [List.getElem?_eq_getElem (by omega)] at hy; cases hy; rfl
   have ia := ints_at hx
   have ib := ints_at hy
   rw [Nat.mul_one] at ia ib
   rw [da, db] at hbf
   simp only [before] at hbf
   by_cases h1 : x < y
   ·rw [if_pos h1] at hbf
    simp (decide := true) (maxSteps := 4000000) only [go_sem, Nat.reduceAdd, Nat.reduceSub, Nat.reduceMul, Nat.reduceDiv, Nat.reduceMod, Nat.reduceLT, Nat.reduceLeDiff, Nat.reduceEqDiff, Nat.reduceBEq, Nat.reduceBNe, Nat.reduceGT, Int.reduceAdd, Int.reduceSub, Int.reduceMul, Int.reduceNeg, Int.reduceLT, Int.reduceLE, Int.reduceEq, Int.reduceNe, Int.reduceBEq, Int.reduceBNe, Int.reduceToNat, Int.reduceGT, Int.reduceGE, ↓reduceIte, decide_true, decide_false, eq_self, Nat.mul_one, Nat.zero_mul, Nat.one_mul, Int.le_refl, Nat.le_refl, Int.cast_ofNat_Int, hlt, hka, hkb, ia, ib, h1, hbf]
    try (refine hQ1 _ _ ?_; simp (decide := true) (maxSteps := 4000000) only [go_sem, Nat.reduceAdd, Nat.reduceSub, Nat.reduceMul, Nat.reduceDiv, Nat.reduceMod, Nat.reduceLT, Nat.reduceLeDiff, Nat.reduceEqDiff, Nat.reduceBEq, Nat.reduceBNe, Nat.reduceGT, Int.reduceAdd, Int.reduceSub, Int.reduceMul, Int.reduceNeg, Int.reduceLT, Int.reduceLE, Int.reduceEq, Int.reduceNe, Int.reduceBEq, Int.reduceBNe, Int.reduceToNat, Int.reduceGT, Int.reduceGE, ↓reduceIte, decide_true, decide_false, eq_self, Nat.mul_one, Nat.zero_mul, Nat.one_mul, Int.le_refl, Nat.le_refl, Int.cast_ofNat_Int, hbf])
   ·rw [if_neg h1] at hbf
    by_cases h2 : y < x
    ·rw [if_pos h2] at hbf
     have h2' : x > y := h2
     simp (decide := true) (maxSteps := 4000000) only [go_sem, Nat.reduceAdd, Nat.reduceSub, Nat.reduceMul, Nat.reduceDiv, Nat.reduceMod, Nat.reduceLT, Nat.reduceLeDiff, Nat.reduceEqDiff, Nat.reduceBEq, Nat.reduceBNe, Nat.reduceGT, Int.reduceAdd, Int.reduceSub, Int.reduceMul, Int.reduceNeg, Int.reduceLT, Int.reduceLE, Int.reduceEq, Int.reduceNe, Int.reduceBEq, Int.reduceBNe, Int.reduceToNat, Int.reduceGT, Int.reduceGE, ↓reduceIte, decide_true, decide_false, eq_self, Nat.mul_one, Nat.zero_mul, Nat.one_mul, Int.le_refl, Nat.le_refl, Int.cast_ofNat_Int, hlt, hka, hkb, ia, ib, h1, h2', hbf]
     try (refine hQ1 _ _ ?_; simp (decide := true) (maxSteps := 4000000) only [go_sem, Nat.reduceAdd, Nat.reduceSub, Nat.reduceMul, Nat.reduceDiv, Nat.reduceMod, Nat.reduceLT, Nat.reduceLeDiff, Nat.reduceEqDiff, Nat.reduceBEq, Nat.reduceBNe, Nat.reduceGT, Int.reduceAdd, Int.reduceSub, Int.reduceMul, Int.reduceNeg, Int.reduceLT, Int.reduceLE, Int.reduceEq, Int.reduceNe, Int.reduceBEq, Int.reduceBNe, Int.reduceToNat, Int.reduceGT, Int.reduceGE, ↓reduceIte, decide_true, decide_false, eq_self, Nat.mul_one, Nat.zero_mul, Nat.one_mul, Int.le_refl, Nat.le_refl, Int.cast_ofNat_Int, hbf])
    ·rw [if_neg h2] at hbf
     have h2' : ¬ x > y := h2
     simp (decide := true) (maxSteps := 4000000) only [go_sem, Nat.reduceAdd, Nat.reduceSub, Nat.reduceMul, Nat.reduceDiv, Nat.reduceMod, Nat.reduceLT, Nat.reduceLeDiff, Nat.reduceEqDiff, Nat.reduceBEq, Nat.reduceBNe, Nat.reduceGT, Int.reduceAdd, Int.reduceSub, Int.reduceMul, Int.reduceNeg, Int.reduceLT, Int.reduceLE, Int.reduceEq, Int.reduceNe, Int.reduceBEq, Int.reduceBNe, Int.reduceToNat, Int.reduceGT, Int.reduceGE, ↓reduceIte, decide_true, decide_false, eq_self, Nat.mul_one, Nat.zero_mul, Nat.one_mul, Int.le_refl, Nat.le_refl, Int.cast_ofNat_Int, hlt, hka, hkb, ia, ib, h1, h2']
     refine hI1 _ ⟨k + 1, by omega, hbf⟩ (by simp only; omega) ?_
     simp (decide := true) (maxSteps := 4000000) only [go_sem, Nat.reduceAdd, Nat.reduceSub, Nat.reduceMul, Nat.reduceDiv, Nat.reduceMod, Nat.reduceLT, Nat.reduceLeDiff, Nat.reduceEqDiff, Nat.reduceBEq, Nat.reduceBNe, Nat.reduceGT, Int.reduceAdd, Int.reduceSub, Int.reduceMul, Int.reduceNeg, Int.reduceLT, Int.reduceLE, Int.reduceEq, Int.reduceNe, Int.reduceBEq, Int.reduceBNe, Int.reduceToNat, Int.reduceGT, Int.reduceGE, ↓reduceIte, decide_true, decide_false, eq_self, Nat.mul_one, Nat.zero_mul, Nat.one_mul, Int.le_refl, Nat.le_refl, Int.cast_ofNat_Int, hc1]
  ·simp (decide := true) (maxSteps := 4000000) only [go_sem, Nat.reduceAdd, Nat.reduceSub, Nat.reduceMul, Nat.reduceDiv, Nat.reduceMod, Nat.reduceLT, Nat.reduceLeDiff, Nat.reduceEqDiff, Nat.reduceBEq, Nat.reduceBNe, Nat.reduceGT, Int.reduceAdd, Int.reduceSub, Int.reduceMul, Int.reduceNeg, Int.reduceLT, Int.reduceLE, Int.reduceEq, Int.reduceNe, Int.reduceBEq, Int.reduceBNe, Int.reduceToNat, Int.reduceGT, Int.reduceGE, ↓reduceIte, decide_true, decide_false, eq_self, Nat.mul_one, Nat.zero_mul, Nat.one_mul, Int.le_refl, Nat.le_refl, Int.cast_ofNat_Int, hlt]
   refine hQ1 _ _ ?_
   have e : before a b = decide ((a.length : Int) < b.length) := by
    rw [hbf, before_end]
    ·simp only [List.length_drop]
     rw [decide_eq_decide]
     omega
    ·rcases Nat.le_total a.length b.length with h | h
     ·exact .inl (List.drop_eq_nil_of_le (by omega))
     ·exact .inr (List.drop_eq_nil_of_le (by omega))
   simp (decide := true) (maxSteps := 4000000) only [go_sem, Nat.reduceAdd, Nat.reduceSub, Nat.reduceMul, Nat.reduceDiv, Nat.reduceMod, Nat.reduceLT, Nat.reduceLeDiff, Nat.reduceEqDiff, Nat.reduceBEq, Nat.reduceBNe, Nat.reduceGT, Int.reduceAdd, Int.reduceSub, Int.reduceMul, Int.reduceNeg, Int.reduceLT, Int.reduceLE, Int.reduceEq, Int.reduceNe, Int.reduceBEq, Int.reduceBNe, Int.reduceToNat, Int.reduceGT, Int.reduceGE, ↓reduceIte, decide_true, decide_false, eq_self, Nat.mul_one, Nat.zero_mul, Nat.one_mul, Int.le_refl, Nat.le_refl, Int.cast_ofNat_Int, e]
noncomputable def hgBefore : List TV → Option TV
 | [.sl cs n f, .sl cs' n' f'] => match unI cs, unI cs' with
  | some a, some b => if n = a.length ∧ n' = b.length ∧ a.length ≤ 62 ∧ b.length ≤ 62 then some (.bool (before a b)) else none
  | _, _ => none
 | _ => none
theorem hgBefore_ok : ∀ xs r, hgBefore xs = some r → PCalls Tryd.prog 53 xs r := by
 intro xs r h
 unfold hgBefore at h
 split at h
 ·split at h
  ·rename_i a b ha hb
   split at h
   ·rename_i hc; cases h
    have e1 := unI_some ha
    have e2 := unI_some hb
    rw [ic_ints] at e1 e2
    obtain ⟨rfl, rfl, h1, h2⟩ := hc
    rw [e1, e2]
    exact hBefore_c a b _ _ (by omega) (by omega)
   ·cases h
  ·cases h
 ·cases h
noncomputable def spH14 : Pm.Spec := spH13.one 53 hgBefore
theorem spH14_ok : SpecOk Tryd.prog spH14 := Spec.one_ok hgBefore_ok spH13_ok
attribute [go_sem] hgBefore
@[go_sem] theorem spH14_p (f : FuncId) (xs : List TV) : spH14.p f xs = Pm.Spec.p (spH13.one 53 hgBefore) f xs := rfl
@[go_sem] theorem spH14_h (f : FuncId) (ps : List PV) (hl : List PO) : spH14.h f ps hl = Pm.Spec.h (spH13.one 53 hgBefore) f ps hl := rfl
@[go_sem] theorem spH14_y (Y : Pm.YS) (f : FuncId) (ps : List PV) (hl : List PO) : spH14.y Y f ps hl = Pm.Spec.y (spH13.one 53 hgBefore) Y f ps hl := rfl
@[go_sem] theorem spH14_fz (f : FuncId) : spH14.fz f = Pm.Spec.fz (spH13.one 53 hgBefore) f := rfl
@[go_sem] theorem spH14_fr (f : FuncId) : spH14.fr f = Pm.Spec.fr (spH13.one 53 hgBefore) f := rfl
@[go_sem] theorem spH14_yf (f : FuncId) : spH14.yf f = Pm.Spec.yf (spH13.one 53 hgBefore) f := rfl
@[go_sem] theorem spH14_gd : spH14.gd = Pm.Spec.gd (spH13.one 53 hgBefore) := rfl
@[go_sem] theorem spH14_mu (t : TypeId) : spH14.mu t = Pm.Spec.mu (spH13.one 53 hgBefore) t := rfl
@[go_sem] theorem spH14_nf (t : TypeId) : spH14.nf t = Pm.Spec.nf (spH13.one 53 hgBefore) t := rfl
end Go.Proofs.YtlonlnfenbadbaaDoor.Sx

/- Part Ibp. -/
namespace Go.Oc.Ix
end Go.Oc.Ix
namespace Go.Proofs.YtlonlnfenbadbaaDoor.Ix
end Go.Proofs.YtlonlnfenbadbaaDoor.Ix
namespace Go.Oc.Ix
open Go Go.Pm
def ic (n : Int) : List TV := [.int .i64 n]
theorem ic_ints (l : List Int) : l.flatMap ic = ints l := by
 induction l with
 | nil => rfl
 | cons x l ih => simp only [List.flatMap_cons, ih]; rfl
def unI : List TV → Option (List Int)
 | [] => some []
 | .int .i64 a :: r => (unI r).map (a :: ·)
 | _ => none
theorem unI_eq : ∀ l : List Int, unI (ints l) = some l
 | [] => rfl
 | x :: l => by
  show (unI (ints l)).map (x :: ·) = some (x :: l)
  rw [unI_eq l]; rfl
theorem unI_some : ∀ {cs : List TV} {l : List Int}, unI cs = some l → cs = l.flatMap ic := by
 intro cs
 induction cs using unI.induct with
 | case1 => intro l h; simp [unI] at h; subst h; rfl
 | case2 a r ih =>
  intro l h
  simp only [unI, Option.map_eq_some_iff] at h
  obtain ⟨l', h1, rfl⟩ := h
  rw [ih h1]; rfl
 | case3 r h1 h2 =>
  intro l h
  unfold unI at h
  split at h
  ·exact absurd rfl h1
  ·exact absurd rfl (h2 _ _)
  ·cases h
attribute [go_sem] unI_eq
theorem before_end : ∀ {a b : List Int}, a = [] ∨ b = [] → before a b = decide (a.length < b.length)
 | [], [], _ => rfl
 | [], _ :: _, _ => by simp [before]
 | _ :: _, [], _ => by simp [before]
 | _ :: _, _ :: _, h => by rcases h with h | h <;> cases h
theorem rowL_is {α : Type} {un : List TV → Option (List α)} {c : α → List TV} (hu : ∀ l : List α, un (l.flatMap c) = some l) {s : TV} {l : List α} (h : IsRow c s l) : rowL un s = some l := by
 rcases h with ⟨rfl, rfl⟩ | ⟨full, rfl⟩
 ·exact hu []
 ·simp only [rowL, hu, if_true]
theorem rowI_is {s : TV} {l : List Int} (h : IsRow ic s l) : rowL unI s = some l := rowL_is (fun l => by rw [ic_ints]; exact unI_eq l) h
theorem mulB {a b A B : Int} (ha : 0 ≤ a) (hb : 0 ≤ b) (h1 : a ≤ A) (h2 : b ≤ B) : 0 ≤ a * b ∧ a * b ≤ A * B :=
 ⟨Int.mul_nonneg ha hb, Int.mul_le_mul h1 h2 hb (by omega)⟩
end Go.Oc.Ix

/- Part Ib. -/
namespace Go.Oc.Ix
end Go.Oc.Ix
namespace Go.Proofs.YtlonlnfenbadbaaDoor.Ix
end Go.Proofs.YtlonlnfenbadbaaDoor.Ix
namespace Go.Proofs.YtlonlnfenbadbaaDoor.Ix
open Go.RowKit Go.Pm Go.Oc Go.Oc.Ix
set_option maxRecDepth 100000
set_option linter.unusedVariables false
set_option maxHeartbeats 4000000





end Go.Proofs.YtlonlnfenbadbaaDoor.Ix

/- Part Ia. -/
namespace Go.Oc.Ix
end Go.Oc.Ix
namespace Go.Proofs.YtlonlnfenbadbaaDoor.Ix
end Go.Proofs.YtlonlnfenbadbaaDoor.Ix
namespace Go.Proofs.YtlonlnfenbadbaaDoor.Ix
open Go.RowKit Go.Pm Go.Oc Go.Oc.Ix
set_option maxRecDepth 100000
set_option linter.unusedVariables false

theorem intArg {x : TV} (h : argOk Tryd.prog 3 x) : ∃ n, x = .int .i64 n ∧ In64 n := argOk_i64 (by kernel_rfl) h
end Go.Proofs.YtlonlnfenbadbaaDoor.Ix

/- Part Ip. -/
namespace Go.Oc.Ix
end Go.Oc.Ix
namespace Go.Proofs.YtlonlnfenbadbaaDoor.Ix
end Go.Proofs.YtlonlnfenbadbaaDoor.Ix
namespace Go.Oc.Ix
open Go Go.Pm
set_option maxRecDepth 100000
set_option linter.unusedVariables false
def nthI (l : List Int) (i : Int) : Int := l.getD i.toNat 0
theorem nthI_at {l : List Int} {k : Nat} {x : Int} (h : l[k]? = some x) : nthI l k = x := by
 unfold nthI; rw [Int.toNat_natCast, List.getD_eq_getElem?_getD, h]; rfl
structure Pl where
 c : Int
 t : Int
 h : Int
 deriving DecidableEq
def Pl.cs (p : Pl) : List TV := [.int .i64 p.c, .int .i64 p.t, .int .i64 p.h]
def Pl.tv (p : Pl) : TV := .agg p.cs
structure Pr where
 a : Int
 b : Int
 x : Int
 y : Int
 deriving DecidableEq
def Pr.cs (p : Pr) : List TV := [.int .i64 p.a, .int .i64 p.b, .int .i64 p.x, .int .i64 p.y]
def Pr.tv (p : Pr) : TV := .agg p.cs
structure Tn where
 a : Int
 b : Int
 c : Int
 d : Int
 deriving DecidableEq
def Tn.cs (p : Tn) : List TV := [.int .i64 p.a, .int .i64 p.b, .int .i64 p.c, .int .i64 p.d]
def Tn.tv (p : Tn) : TV := .agg p.cs
def stockOk1 (st : List Int) : Bool := inB st.length 2 10 && st.all fun n => inB n 10 200
def drvL (st : List Int) : Bool → Int → Int → List Int → Int × Int
 | _, x, y, [] => (x, y)
 | true, x, y, w :: l => drvL st false (x * nthI st w) y l
 | false, x, y, w :: l => drvL st true x (y * nthI st w) l
def fitsL (st : List Int) (p q : Int) (l : List Int) : Bool := (drvL st true q p l).1 == (drvL st true q p l).2
def tnOf : List Int → Tn
 | [a, b] => ⟨a, b, -1, -1⟩
 | [a, b, c, d] => ⟨a, b, c, d⟩
 | _ => ⟨-1, -1, -1, -1⟩
def srch (st : List Int) (p q : Int) : Nat → List Int → Option (List Int)
 | 0, l => if fitsL st p q l = true then some l else none
 | d + 1, l => (List.range st.length).findSome? fun i : Nat => if l.contains (i : Int) then none else srch st p q d (l ++ [(i : Int)])
def trainP (st : List Int) (p q : Int) : Option Tn := match srch st p q 2 [] with
 | some l => some (tnOf l)
 | none => (srch st p q 4 []).map tnOf
def trainE (st : List Int) (p q : Int) : Tn × Int :=
 if (stockOk1 st && inB p 1 100000 && inB q 1 100000) = false then (⟨0, 0, 0, 0⟩, 13) else match trainP st p q with
  | none => (⟨0, 0, 0, 0⟩, 4)
  | some t => (t, 0)
structure Df where
 m : Int
 p : Pl
 t : Tn
 on : Bool
 deriving DecidableEq
def Df.cs (x : Df) : List TV := .int .i64 x.m :: (x.p.cs ++ (x.t.cs ++ [.bool x.on]))
def Df.tv (x : Df) : TV := .agg x.cs
def fsTo {α : Type} (f : Nat → Option α) (k : Nat) : Option α := (List.range k).findSome? f
theorem fsTo_succ {α : Type} (f : Nat → Option α) (k : Nat) : fsTo f (k + 1) = match fsTo f k with
  | some x => some x
  | none => f k := by
 unfold fsTo
 rw [List.range_succ, List.findSome?_append]
 cases (List.range k).findSome? f with
 | some x => rfl
 | none => simp
theorem fsTo_hit {α : Type} {f : Nat → Option α} {n k : Nat} {x : α} (h0 : fsTo f k = none) (hk : k < n) (h1 : f k = some x) : fsTo f n = some x := by
 have h2 : fsTo f (k + 1) = some x := by rw [fsTo_succ, h0]; exact h1
 clear h0 h1
 induction n with
 | zero => omega
 | succ n ih =>
  by_cases hkn : k = n
  ·subst hkn; exact h2
  ·rw [fsTo_succ, ih (by omega)]
theorem fsTo_some {α : Type} {f : Nat → Option α} {n : Nat} {x : α} (h : fsTo f n = some x) : ∃ k, k < n ∧ fsTo f k = none ∧ f k = some x := by
 induction n with
 | zero => simp [fsTo] at h
 | succ n ih =>
  rw [fsTo_succ] at h
  cases h' : fsTo f n with
  | some y =>
   rw [h'] at h
   obtain ⟨k, h1, h2, h3⟩ := ih (by rw [h']; exact h)
   exact ⟨k, by omega, h2, h3⟩
  | none => rw [h'] at h; exact ⟨n, by omega, h', h⟩
theorem fsTo_none {α : Type} {f : Nat → Option α} {n : Nat} : fsTo f n = none ↔ ∀ k, k < n → f k = none := by
 unfold fsTo
 rw [List.findSome?_eq_none_iff]
 simp
def r2 (st : List Int) (p q : Int) (a b : Nat) : Option Tn := if a ≠ b ∧ nthI st a * q = nthI st b * p then some ⟨a, b, -1, -1⟩ else none
def r4 (st : List Int) (p q : Int) (a b c d : Nat) : Option Tn :=
 if (a ≠ b ∧ a ≠ c ∧ a ≠ d ∧ b ≠ c ∧ b ≠ d ∧ c ≠ d) ∧ nthI st a * nthI st c * q = nthI st b * nthI st d * p then some ⟨a, b, c, d⟩ else none
def trainR (st : List Int) (p q : Int) : Option Tn := match fsTo (fun a => fsTo (r2 st p q a) st.length) st.length with
 | some t => some t
 | none => fsTo (fun a => fsTo (fun b => fsTo (fun c => fsTo (r4 st p q a b c) st.length) st.length) st.length) st.length
theorem srch_map (st : List Int) (p q : Int) (d : Nat) (l : List Int) : (srch st p q (d + 1) l).map tnOf = fsTo (fun i => if l.contains (i : Int) then none else (srch st p q d (l ++ [(i : Int)])).map tnOf) st.length := by
 unfold fsTo
 rw [srch, List.map_findSome?]
 congr 1
 funext i
 simp only [Function.comp]
 split <;> rfl
theorem fsTo_congr {α : Type} {f g : Nat → Option α} {n : Nat} (h : ∀ k, k < n → f k = g k) : fsTo f n = fsTo g n := by
 induction n with
 | zero => rfl
 | succ n ih => rw [fsTo_succ, fsTo_succ, ih fun k hk => h k (by omega), h n (by omega)]
theorem srch0 (st : List Int) (p q : Int) (l : List Int) : (srch st p q 0 l).map tnOf = if fitsL st p q l = true then some (tnOf l) else none := by
 unfold srch; split <;> rfl
theorem train_ref (st : List Int) (p q : Int) : trainR st p q = trainP st p q := by
 have h2 : (srch st p q 2 []).map tnOf = fsTo (fun a => fsTo (r2 st p q a) st.length) st.length := by
  rw [srch_map]
  refine fsTo_congr fun a _ => ?_
  rw [if_neg (by simp), srch_map]
  refine fsTo_congr fun b _ => ?_
  rw [srch0]
  simp only [List.nil_append, List.cons_append, List.contains_cons, List.contains_nil, Bool.or_false, fitsL, drvL, tnOf, r2, beq_iff_eq]
  rw [Int.mul_comm q, Int.mul_comm p]
  by_cases hab : a = b
  ·subst hab; simp
  ·have hab' : ¬ (b : Int) = a := by omega
   simp [hab, hab']
 have h4 : (srch st p q 4 []).map tnOf = fsTo (fun a => fsTo (fun b => fsTo (fun c => fsTo (r4 st p q a b c) st.length) st.length) st.length) st.length := by
  rw [srch_map]
  refine fsTo_congr fun a _ => ?_
  rw [if_neg (by simp), srch_map]
  refine fsTo_congr fun b _ => ?_
  by_cases hab : a = b
  ·subst hab
   simp only [List.nil_append, List.contains_cons, List.contains_nil, Bool.or_false, beq_self_eq_true, if_true]
   symm
   rw [fsTo_none]; intro c _
   rw [fsTo_none]; intro d _
   simp [r4]
  ·have hab' : ¬ (b : Int) = a := by omega
   rw [if_neg (by simpa using hab'), srch_map]
   refine fsTo_congr fun c _ => ?_
   by_cases hc : c = a ∨ c = b
   ·rw [if_pos (by rcases hc with rfl | rfl <;> simp)]
    symm
    rw [fsTo_none]; intro d _
    unfold r4; rw [if_neg]; rintro ⟨h, _⟩; omega
   ·rw [if_neg (by simp; omega), srch_map]
    refine fsTo_congr fun d _ => ?_
    by_cases hd : d = a ∨ d = b ∨ d = c
    ·rw [if_pos (by rcases hd with rfl | rfl | rfl <;> simp)]
     symm
     unfold r4; rw [if_neg]; rintro ⟨h, _⟩; omega
    ·rw [if_neg (by simp; omega), srch0]
     simp only [List.nil_append, List.cons_append, fitsL, drvL, tnOf, r4, beq_iff_eq]
     have e : (nthI st a * nthI st c * q = nthI st b * nthI st d * p) ↔ (q * nthI st a * nthI st c = p * nthI st b * nthI st d) := by
      rw [Int.mul_comm _ q, Int.mul_comm _ p, Int.mul_assoc, Int.mul_assoc]
     have hx : (a ≠ b ∧ a ≠ c ∧ a ≠ d ∧ b ≠ c ∧ b ≠ d ∧ c ≠ d) := by omega
     by_cases hp : q * nthI st a * nthI st c = p * nthI st b * nthI st d
     ·rw [if_pos hp, if_pos ⟨hx, e.2 hp⟩]
     ·rw [if_neg hp, if_neg fun h => hp (e.1 h.2)]
 unfold trainR trainP
 rw [← h2, ← h4]
 cases srch st p q 2 [] <;> rfl
end Go.Oc.Ix

/- Part Iu0. -/
namespace Go.Oc.Ix
end Go.Oc.Ix
namespace Go.Proofs.YtlonlnfenbadbaaDoor.Ix
end Go.Proofs.YtlonlnfenbadbaaDoor.Ix
namespace Go.Oc.Ix
open Go Go.Pm
end Go.Oc.Ix
namespace Go.Proofs.YtlonlnfenbadbaaDoor.Ix
open Go.RowKit Go.Pm Go.Oc Go.Oc.Ix
set_option maxRecDepth 100000
set_option linter.unusedVariables false
set_option maxHeartbeats 4000000

@[go_sem] theorem glob_noTrain : globP 0 = .t (.cptr [.int .i64 (-1), .int .i64 (-1), .int .i64 (-1), .int .i64 (-1)]) := rfl
theorem iWithin_c (n lo hi : Int) : PCalls Tryd.prog 61 [.int .i64 n, .int .i64 lo, .int .i64 hi] (.bool (inB n lo hi)) := by
 refine pcalls_by Tryd.mixes noSpec_ok (fn := Tryd.f61) Tryd.func61 rfl (by kernel_rfl) (by show 3 ≤ _; decide) ?_
 simp (decide := true) (maxSteps := 4000000) only [go_sem, Nat.reduceAdd, Nat.reduceSub, Nat.reduceMul, Nat.reduceDiv, Nat.reduceMod, Nat.reduceLT, Nat.reduceLeDiff, Nat.reduceEqDiff, Nat.reduceBEq, Nat.reduceBNe, Nat.reduceGT, Int.reduceAdd, Int.reduceSub, Int.reduceMul, Int.reduceNeg, Int.reduceLT, Int.reduceLE, Int.reduceEq, Int.reduceNe, Int.reduceBEq, Int.reduceBNe, Int.reduceToNat, Int.reduceGT, Int.reduceGE, ↓reduceIte, decide_true, decide_false, eq_self, Nat.mul_one, Nat.zero_mul, Nat.one_mul, Int.le_refl, Nat.le_refl, Int.cast_ofNat_Int, Tryd.f61, inB]
noncomputable def ixWithin : List TV → Option TV
 | [.int .i64 n, .int .i64 a, .int .i64 b] => some (.bool (inB n a b))
 | _ => none
theorem ixWithin_ok : ∀ xs r, ixWithin xs = some r → PCalls Tryd.prog 61 xs r := by
 intro xs r h
 unfold ixWithin at h
 split at h
 ·cases h; exact iWithin_c _ _ _
 ·cases h
attribute [go_sem] ixWithin
noncomputable def spU1 : Pm.Spec := noSpec.one 61 ixWithin
@[go_sem] theorem spU1_p (f : FuncId) (xs : List TV) : spU1.p f xs = Pm.Spec.p (noSpec.one 61 ixWithin) f xs := rfl
@[go_sem] theorem spU1_h (f : FuncId) (ps : List PV) (hl : List PO) : spU1.h f ps hl = Pm.Spec.h (noSpec.one 61 ixWithin) f ps hl := rfl
@[go_sem] theorem spU1_y (Y : Pm.YS) (f : FuncId) (ps : List PV) (hl : List PO) : spU1.y Y f ps hl = Pm.Spec.y (noSpec.one 61 ixWithin) Y f ps hl := rfl
@[go_sem] theorem spU1_fz (f : FuncId) : spU1.fz f = Pm.Spec.fz (noSpec.one 61 ixWithin) f := rfl
@[go_sem] theorem spU1_fr (f : FuncId) : spU1.fr f = Pm.Spec.fr (noSpec.one 61 ixWithin) f := rfl
@[go_sem] theorem spU1_yf (f : FuncId) : spU1.yf f = Pm.Spec.yf (noSpec.one 61 ixWithin) f := rfl
@[go_sem] theorem spU1_gd : spU1.gd = Pm.Spec.gd (noSpec.one 61 ixWithin) := rfl
@[go_sem] theorem spU1_mu (t : TypeId) : spU1.mu t = Pm.Spec.mu (noSpec.one 61 ixWithin) t := rfl
@[go_sem] theorem spU1_nf (t : TypeId) : spU1.nf t = Pm.Spec.nf (noSpec.one 61 ixWithin) t := rfl
theorem spU1_ok : SpecOk Tryd.prog spU1 := Spec.one_ok ixWithin_ok noSpec_ok

end Go.Proofs.YtlonlnfenbadbaaDoor.Ix

/- Part Iz. -/
namespace Go.Oc.Ix
end Go.Oc.Ix
namespace Go.Proofs.YtlonlnfenbadbaaDoor.Ix
end Go.Proofs.YtlonlnfenbadbaaDoor.Ix
namespace Go.Oc.Ix
open Go Go.Pm
set_option maxRecDepth 100000
theorem ints_snoc (l : List Int) (x : Int) : ints (l ++ [x]) = ints l ++ [.int .i64 x] := by simp [ints]
end Go.Oc.Ix
namespace Go.Proofs.YtlonlnfenbadbaaDoor.Ix
open Go.RowKit Go.Pm Go.Oc Go.Oc.Ix
set_option maxRecDepth 100000
set_option linter.unusedVariables false
set_option maxHeartbeats 4000000



end Go.Proofs.YtlonlnfenbadbaaDoor.Ix

/- Part Ic. -/
namespace Go.Oc.Ix
end Go.Oc.Ix
namespace Go.Proofs.YtlonlnfenbadbaaDoor.Ix
end Go.Proofs.YtlonlnfenbadbaaDoor.Ix
namespace Go.Oc.Ix
open Go Go.Pm
set_option maxRecDepth 100000
def badW (x : Int) : Bool := !inB x 10 200
def idxBad (l : List Int) : Int := (fsTo (fun i => if badW (nthI l i) then some (i : Int) else none) l.length).getD (-1)
theorem stockOk1_iff {st : List Int} : stockOk1 st = true ↔ (2 ≤ st.length ∧ st.length ≤ 10) ∧ ∀ x ∈ st, 10 ≤ x ∧ x ≤ 200 := by
 simp only [stockOk1, Bool.and_eq_true, inB_iff, List.all_eq_true]
 constructor
 ·rintro ⟨h, h2⟩; exact ⟨by omega, h2⟩
 ·rintro ⟨h, h2⟩; exact ⟨by omega, h2⟩
theorem idxBad_iff (l : List Int) : decide (idxBad l ≥ 0) = !(l.all fun n => inB n 10 200) := by
 unfold idxBad
 cases h : fsTo (fun i => if badW (nthI l i) then some (i : Int) else none) l.length with
 | some k =>
  obtain ⟨i, hi, _, hk⟩ := fsTo_some h
  split at hk
  ·rename_i hb
   cases hk
   have e : (l.all fun n => inB n 10 200) = false := by
    rw [List.all_eq_false]
    have hx : l[i]? = some l[i] := List.getElem?_eq_getElem hi
    refine ⟨l[i], List.getElem_mem _, ?_⟩
    rw [nthI_at hx] at hb
    simpa [badW] using hb
   rw [e]; simp
  ·cases hk
 | none =>
  have e : (l.all fun n => inB n 10 200) = true := by
   rw [List.all_eq_true]
   intro x hx
   obtain ⟨i, hi⟩ := List.mem_iff_getElem?.1 hx
   have := fsTo_none.1 h i (List.getElem?_eq_some_iff.1 hi).1
   rw [nthI_at hi] at this
   split at this
   ·cases this
   ·rename_i hb; simpa [badW] using hb
  rw [e]; rfl
end Go.Oc.Ix
namespace Go.Proofs.YtlonlnfenbadbaaDoor.Ix
open Go.RowKit Go.Pm Go.Oc Go.Oc.Ix
set_option maxRecDepth 100000
set_option linter.unusedVariables false
set_option maxHeartbeats 4000000

end Go.Proofs.YtlonlnfenbadbaaDoor.Ix

/- Part Id. -/
namespace Go.Oc.Ix
end Go.Oc.Ix
namespace Go.Proofs.YtlonlnfenbadbaaDoor.Ix
end Go.Proofs.YtlonlnfenbadbaaDoor.Ix
namespace Go.Oc.Ix
open Go Go.Pm
set_option maxRecDepth 100000
def drvTo (st : List Int) (p q : Int) (l : List Int) : Nat → Int × Int
 | 0 => (q, p)
 | k + 1 => if k % 2 = 0 then ((drvTo st p q l k).1 * nthI st (nthI l k), (drvTo st p q l k).2) else ((drvTo st p q l k).1, (drvTo st p q l k).2 * nthI st (nthI l k))
theorem drv_all (st : List Int) (p q : Int) {l : List Int} (h : l.length = 2 ∨ l.length = 4) : fitsL st p q l = ((drvTo st p q l l.length).1 == (drvTo st p q l l.length).2) := by
 match l, h with
 | [a, b], _ => rfl
 | [a, b, c, d], _ => simp [fitsL, drvL, drvTo, nthI]
theorem drv_bound {st : List Int} {p q : Int} {l : List Int} (hst : ∀ i : Int, 0 ≤ i → i < st.length → 0 ≤ nthI st i ∧ nthI st i ≤ 200) (hl : ∀ k : Nat, k < l.length → 0 ≤ nthI l k ∧ nthI l k < st.length) (hp : 0 ≤ p ∧ p ≤ 100000) (hq : 0 ≤ q ∧ q ≤ 100000) (k : Nat) (hk : k ≤ l.length) :
  (0 ≤ (drvTo st p q l k).1 ∧ (drvTo st p q l k).1 ≤ 100000 * 200 ^ k) ∧ 0 ≤ (drvTo st p q l k).2 ∧ (drvTo st p q l k).2 ≤ 100000 * 200 ^ k := by
 induction k with
 | zero => simp [drvTo]; omega
 | succ k ih =>
  have ih := ih (by omega)
  have h1 := hl k (by omega)
  have h2 := hst _ h1.1 h1.2
  have e : (100000 : Int) * 200 ^ (k + 1) = (100000 * 200 ^ k) * 200 := by rw [Int.pow_succ, Int.mul_assoc]
  have h0 : (0 : Int) ≤ 100000 * 200 ^ k := Int.mul_nonneg (by omega) (Int.pow_nonneg (by omega))
  rw [drvTo, e]
  generalize (100000 : Int) * 200 ^ k = X at *
  split
  ·have := mulB ih.1.1 h2.1 ih.1.2 h2.2
   simp only; omega
  ·have := mulB ih.2.1 h2.1 ih.2.2 h2.2
   simp only; omega
theorem pow4 {k : Nat} (h : k ≤ 4) : (100000 : Int) * 200 ^ k ≤ 160000000000000 := by
 rcases (show k = 0 ∨ k = 1 ∨ k = 2 ∨ k = 3 ∨ k = 4 by omega) with rfl | rfl | rfl | rfl | rfl <;> decide
end Go.Oc.Ix
namespace Go.Proofs.YtlonlnfenbadbaaDoor.Ix
open Go.RowKit Go.Pm Go.Oc Go.Oc.Ix
set_option maxRecDepth 100000
set_option linter.unusedVariables false
set_option maxHeartbeats 4000000

theorem iBad_c (n : Int) : PCalls Tryd.prog 109 [.int .i64 n] (.bool (badW n)) := by
 refine pcalls_by Tryd.mixes spU1_ok (fn := Tryd.f109) Tryd.func109 rfl (by kernel_rfl) (by show 1 ≤ _; decide) ?_
 simp (decide := true) (maxSteps := 4000000) only [go_sem, Nat.reduceAdd, Nat.reduceSub, Nat.reduceMul, Nat.reduceDiv, Nat.reduceMod, Nat.reduceLT, Nat.reduceLeDiff, Nat.reduceEqDiff, Nat.reduceBEq, Nat.reduceBNe, Nat.reduceGT, Int.reduceAdd, Int.reduceSub, Int.reduceMul, Int.reduceNeg, Int.reduceLT, Int.reduceLE, Int.reduceEq, Int.reduceNe, Int.reduceBEq, Int.reduceBNe, Int.reduceToNat, Int.reduceGT, Int.reduceGE, ↓reduceIte, decide_true, decide_false, eq_self, Nat.mul_one, Nat.zero_mul, Nat.one_mul, Int.le_refl, Nat.le_refl, Int.cast_ofNat_Int, Tryd.f109, badW]
noncomputable def ixBad : List TV → Option TV
 | [.int .i64 n] => some (.bool (badW n))
 | _ => none
theorem ixBad_ok : ∀ xs r, ixBad xs = some r → PCalls Tryd.prog 109 xs r := by
 intro xs r h
 unfold ixBad at h
 split at h
 ·cases h; exact iBad_c _
 ·cases h
attribute [go_sem] ixBad
noncomputable def spD1 : Pm.Spec := spU1.one 109 ixBad
@[go_sem] theorem spD1_p (f : FuncId) (xs : List TV) : spD1.p f xs = Pm.Spec.p (spU1.one 109 ixBad) f xs := rfl
@[go_sem] theorem spD1_h (f : FuncId) (ps : List PV) (hl : List PO) : spD1.h f ps hl = Pm.Spec.h (spU1.one 109 ixBad) f ps hl := rfl
@[go_sem] theorem spD1_y (Y : Pm.YS) (f : FuncId) (ps : List PV) (hl : List PO) : spD1.y Y f ps hl = Pm.Spec.y (spU1.one 109 ixBad) Y f ps hl := rfl
@[go_sem] theorem spD1_fz (f : FuncId) : spD1.fz f = Pm.Spec.fz (spU1.one 109 ixBad) f := rfl
@[go_sem] theorem spD1_fr (f : FuncId) : spD1.fr f = Pm.Spec.fr (spU1.one 109 ixBad) f := rfl
@[go_sem] theorem spD1_yf (f : FuncId) : spD1.yf f = Pm.Spec.yf (spU1.one 109 ixBad) f := rfl
@[go_sem] theorem spD1_gd : spD1.gd = Pm.Spec.gd (spU1.one 109 ixBad) := rfl
@[go_sem] theorem spD1_mu (t : TypeId) : spD1.mu t = Pm.Spec.mu (spU1.one 109 ixBad) t := rfl
@[go_sem] theorem spD1_nf (t : TypeId) : spD1.nf t = Pm.Spec.nf (spU1.one 109 ixBad) t := rfl
theorem spD1_ok : SpecOk Tryd.prog spD1 := Spec.one_ok ixBad_ok spU1_ok
theorem iIndexFunc_c {l : List Int} {s : TV} (hl : IsRow ic s l) (hll : l.length ≤ 17592186044415) : PCalls Tryd.prog 148 [s, .fn 109 [] []] (.int .i64 (idxBad l)) := by
 have hz : idxBad l = (fsTo (fun i => if badW (nthI l i) then some (i : Int) else none) l.length).getD (-1) := rfl
 refine pcalls_by Tryd.mixes spD1_ok (fn := Tryd.f148) Tryd.func148 rfl (by kernel_rfl) (by show 2 ≤ _; decide) ?_
 rcases hl with ⟨rfl, rfl⟩ | ⟨f, rfl⟩
 ·simp (decide := true) (maxSteps := 4000000) only [go_sem, Nat.reduceAdd, Nat.reduceSub, Nat.reduceMul, Nat.reduceDiv, Nat.reduceMod, Nat.reduceLT, Nat.reduceLeDiff, Nat.reduceEqDiff, Nat.reduceBEq, Nat.reduceBNe, Nat.reduceGT, Int.reduceAdd, Int.reduceSub, Int.reduceMul, Int.reduceNeg, Int.reduceLT, Int.reduceLE, Int.reduceEq, Int.reduceNe, Int.reduceBEq, Int.reduceBNe, Int.reduceToNat, Int.reduceGT, Int.reduceGE, ↓reduceIte, decide_true, decide_false, eq_self, Nat.mul_one, Nat.zero_mul, Nat.one_mul, Int.le_refl, Nat.le_refl, Int.cast_ofNat_Int, Tryd.f148]
  refine pwpC_loopU (A := Unit) [0, 1, 4, 7] (fun _ => [(8, .t (.int .i64 0))]) (fun _ => []) (fun _ => 0) () (by decide) (fun _ => by rfl) ?_ fun Q1 hQ1 _ I1 hI1 => ?_
  ·simp (decide := true) (maxSteps := 4000000) only [go_sem, Nat.reduceAdd, Nat.reduceSub, Nat.reduceMul, Nat.reduceDiv, Nat.reduceMod, Nat.reduceLT, Nat.reduceLeDiff, Nat.reduceEqDiff, Nat.reduceBEq, Nat.reduceBNe, Nat.reduceGT, Int.reduceAdd, Int.reduceSub, Int.reduceMul, Int.reduceNeg, Int.reduceLT, Int.reduceLE, Int.reduceEq, Int.reduceNe, Int.reduceBEq, Int.reduceBNe, Int.reduceToNat, Int.reduceGT, Int.reduceGE, ↓reduceIte, decide_true, decide_false, eq_self, Nat.mul_one, Nat.zero_mul, Nat.one_mul, Int.le_refl, Nat.le_refl, Int.cast_ofNat_Int]
  ·simp (decide := true) (maxSteps := 4000000) only [go_sem, Nat.reduceAdd, Nat.reduceSub, Nat.reduceMul, Nat.reduceDiv, Nat.reduceMod, Nat.reduceLT, Nat.reduceLeDiff, Nat.reduceEqDiff, Nat.reduceBEq, Nat.reduceBNe, Nat.reduceGT, Int.reduceAdd, Int.reduceSub, Int.reduceMul, Int.reduceNeg, Int.reduceLT, Int.reduceLE, Int.reduceEq, Int.reduceNe, Int.reduceBEq, Int.reduceBNe, Int.reduceToNat, Int.reduceGT, Int.reduceGE, ↓reduceIte, decide_true, decide_false, eq_self, Nat.mul_one, Nat.zero_mul, Nat.one_mul, Int.le_refl, Nat.le_refl, Int.cast_ofNat_Int]
   refine hQ1 _ _ ?_
   simp (decide := true) (maxSteps := 4000000) only [go_sem, Nat.reduceAdd, Nat.reduceSub, Nat.reduceMul, Nat.reduceDiv, Nat.reduceMod, Nat.reduceLT, Nat.reduceLeDiff, Nat.reduceEqDiff, Nat.reduceBEq, Nat.reduceBNe, Nat.reduceGT, Int.reduceAdd, Int.reduceSub, Int.reduceMul, Int.reduceNeg, Int.reduceLT, Int.reduceLE, Int.reduceEq, Int.reduceNe, Int.reduceBEq, Int.reduceBNe, Int.reduceToNat, Int.reduceGT, Int.reduceGE, ↓reduceIte, decide_true, decide_false, eq_self, Nat.mul_one, Nat.zero_mul, Nat.one_mul, Int.le_refl, Nat.le_refl, Int.cast_ofNat_Int]
   first | done | rfl
 ·rw [ic_ints]
  simp (decide := true) (maxSteps := 4000000) only [go_sem, Nat.reduceAdd, Nat.reduceSub, Nat.reduceMul, Nat.reduceDiv, Nat.reduceMod, Nat.reduceLT, Nat.reduceLeDiff, Nat.reduceEqDiff, Nat.reduceBEq, Nat.reduceBNe, Nat.reduceGT, Int.reduceAdd, Int.reduceSub, Int.reduceMul, Int.reduceNeg, Int.reduceLT, Int.reduceLE, Int.reduceEq, Int.reduceNe, Int.reduceBEq, Int.reduceBNe, Int.reduceToNat, Int.reduceGT, Int.reduceGE, ↓reduceIte, decide_true, decide_false, eq_self, Nat.mul_one, Nat.zero_mul, Nat.one_mul, Int.le_refl, Nat.le_refl, Int.cast_ofNat_Int, Tryd.f148]
  refine pwpC_loopU (A := { k : Nat // k ≤ l.length ∧ fsTo (fun i => if badW (nthI l i) then some (i : Int) else none) k = none }) [0, 1, 4, 7] (fun k => [(8, .t (.int .i64 k.1))]) (fun _ => []) (fun k => l.length - k.1) ⟨0, by omega, rfl⟩ (by decide) (fun _ => by rfl) ?_ fun Q1 hQ1 ⟨k, hk, hno⟩ I1 hI1 => ?_
  ·simp (decide := true) (maxSteps := 4000000) only [go_sem, Nat.reduceAdd, Nat.reduceSub, Nat.reduceMul, Nat.reduceDiv, Nat.reduceMod, Nat.reduceLT, Nat.reduceLeDiff, Nat.reduceEqDiff, Nat.reduceBEq, Nat.reduceBNe, Nat.reduceGT, Int.reduceAdd, Int.reduceSub, Int.reduceMul, Int.reduceNeg, Int.reduceLT, Int.reduceLE, Int.reduceEq, Int.reduceNe, Int.reduceBEq, Int.reduceBNe, Int.reduceToNat, Int.reduceGT, Int.reduceGE, ↓reduceIte, decide_true, decide_false, eq_self, Nat.mul_one, Nat.zero_mul, Nat.one_mul, Int.le_refl, Nat.le_refl, Int.cast_ofNat_Int]
  ·by_cases hlt : (k : Int) < l.length
   ·obtain ⟨x, hx⟩ := get_lt hlt
    have hd := ints_at hx
    rw [Nat.mul_one] at hd
    have hnx := nthI_at hx
    have hc1 : IntKind.i64.wrap (k + 1) = ((k + 1 : Nat) : Int) := by rw [wrap_in (by omega) (by omega)]; omega
    cases hb : badW x with
    | true =>
     have e : idxBad l = k := by
      rw [hz, fsTo_hit hno (show k < l.length by omega) (by rw [hnx, hb]; rfl)]; rfl
     simp (decide := true) (maxSteps := 4000000) only [go_sem, Nat.reduceAdd, Nat.reduceSub, Nat.reduceMul, Nat.reduceDiv, Nat.reduceMod, Nat.reduceLT, Nat.reduceLeDiff, Nat.reduceEqDiff, Nat.reduceBEq, Nat.reduceBNe, Nat.reduceGT, Int.reduceAdd, Int.reduceSub, Int.reduceMul, Int.reduceNeg, Int.reduceLT, Int.reduceLE, Int.reduceEq, Int.reduceNe, Int.reduceBEq, Int.reduceBNe, Int.reduceToNat, Int.reduceGT, Int.reduceGE, ↓reduceIte, decide_true, decide_false, eq_self, Nat.mul_one, Nat.zero_mul, Nat.one_mul, Int.le_refl, Nat.le_refl, Int.cast_ofNat_Int, hlt, hd, hb]
     try (refine hQ1 _ _ ?_)
     try simp (decide := true) (maxSteps := 4000000) only [go_sem, Nat.reduceAdd, Nat.reduceSub, Nat.reduceMul, Nat.reduceDiv, Nat.reduceMod, Nat.reduceLT, Nat.reduceLeDiff, Nat.reduceEqDiff, Nat.reduceBEq, Nat.reduceBNe, Nat.reduceGT, Int.reduceAdd, Int.reduceSub, Int.reduceMul, Int.reduceNeg, Int.reduceLT, Int.reduceLE, Int.reduceEq, Int.reduceNe, Int.reduceBEq, Int.reduceBNe, Int.reduceToNat, Int.reduceGT, Int.reduceGE, ↓reduceIte, decide_true, decide_false, eq_self, Nat.mul_one, Nat.zero_mul, Nat.one_mul, Int.le_refl, Nat.le_refl, Int.cast_ofNat_Int, e]
    | false =>
     simp (decide := true) (maxSteps := 4000000) only [go_sem, Nat.reduceAdd, Nat.reduceSub, Nat.reduceMul, Nat.reduceDiv, Nat.reduceMod, Nat.reduceLT, Nat.reduceLeDiff, Nat.reduceEqDiff, Nat.reduceBEq, Nat.reduceBNe, Nat.reduceGT, Int.reduceAdd, Int.reduceSub, Int.reduceMul, Int.reduceNeg, Int.reduceLT, Int.reduceLE, Int.reduceEq, Int.reduceNe, Int.reduceBEq, Int.reduceBNe, Int.reduceToNat, Int.reduceGT, Int.reduceGE, ↓reduceIte, decide_true, decide_false, eq_self, Nat.mul_one, Nat.zero_mul, Nat.one_mul, Int.le_refl, Nat.le_refl, Int.cast_ofNat_Int, hlt, hd, hb]
     refine hI1 _ ⟨k + 1, by omega, by rw [fsTo_succ, hno, hnx, hb]; rfl⟩ (by simp only; omega) ?_
     simp (decide := true) (maxSteps := 4000000) only [go_sem, Nat.reduceAdd, Nat.reduceSub, Nat.reduceMul, Nat.reduceDiv, Nat.reduceMod, Nat.reduceLT, Nat.reduceLeDiff, Nat.reduceEqDiff, Nat.reduceBEq, Nat.reduceBNe, Nat.reduceGT, Int.reduceAdd, Int.reduceSub, Int.reduceMul, Int.reduceNeg, Int.reduceLT, Int.reduceLE, Int.reduceEq, Int.reduceNe, Int.reduceBEq, Int.reduceBNe, Int.reduceToNat, Int.reduceGT, Int.reduceGE, ↓reduceIte, decide_true, decide_false, eq_self, Nat.mul_one, Nat.zero_mul, Nat.one_mul, Int.le_refl, Nat.le_refl, Int.cast_ofNat_Int, hc1]
   ·have hke : k = l.length := by omega
    subst hke
    have e : idxBad l = -1 := by rw [hz, hno]; rfl
    simp (decide := true) (maxSteps := 4000000) only [go_sem, Nat.reduceAdd, Nat.reduceSub, Nat.reduceMul, Nat.reduceDiv, Nat.reduceMod, Nat.reduceLT, Nat.reduceLeDiff, Nat.reduceEqDiff, Nat.reduceBEq, Nat.reduceBNe, Nat.reduceGT, Int.reduceAdd, Int.reduceSub, Int.reduceMul, Int.reduceNeg, Int.reduceLT, Int.reduceLE, Int.reduceEq, Int.reduceNe, Int.reduceBEq, Int.reduceBNe, Int.reduceToNat, Int.reduceGT, Int.reduceGE, ↓reduceIte, decide_true, decide_false, eq_self, Nat.mul_one, Nat.zero_mul, Nat.one_mul, Int.le_refl, Nat.le_refl, Int.cast_ofNat_Int, hlt]
    refine hQ1 _ _ ?_
    simp (decide := true) (maxSteps := 4000000) only [go_sem, Nat.reduceAdd, Nat.reduceSub, Nat.reduceMul, Nat.reduceDiv, Nat.reduceMod, Nat.reduceLT, Nat.reduceLeDiff, Nat.reduceEqDiff, Nat.reduceBEq, Nat.reduceBNe, Nat.reduceGT, Int.reduceAdd, Int.reduceSub, Int.reduceMul, Int.reduceNeg, Int.reduceLT, Int.reduceLE, Int.reduceEq, Int.reduceNe, Int.reduceBEq, Int.reduceBNe, Int.reduceToNat, Int.reduceGT, Int.reduceGE, ↓reduceIte, decide_true, decide_false, eq_self, Nat.mul_one, Nat.zero_mul, Nat.one_mul, Int.le_refl, Nat.le_refl, Int.cast_ofNat_Int, e]
noncomputable def ixIndexFunc : List TV → Option TV
 | [s, .fn F [] []] => match rowL unI s with
  | some l => if l.length ≤ 17592186044415 ∧ F = 109 then some (.int .i64 (idxBad l)) else none
  | none => none
 | _ => none
theorem ixIndexFunc_ok : ∀ xs r, ixIndexFunc xs = some r → PCalls Tryd.prog 148 xs r := by
 intro xs r h
 unfold ixIndexFunc at h
 split at h
 ·split at h
  ·rename_i l hl
   have hl := rowL_some (un := unI) rfl (@unI_some) hl
   split at h
   ·rename_i hc; cases h
    obtain ⟨h1, rfl⟩ := hc
    exact iIndexFunc_c hl h1
   ·cases h
  ·cases h
 ·cases h
attribute [go_sem] ixIndexFunc
noncomputable def spD2 : Pm.Spec := spU1.one 148 ixIndexFunc
@[go_sem] theorem spD2_p (f : FuncId) (xs : List TV) : spD2.p f xs = Pm.Spec.p (spU1.one 148 ixIndexFunc) f xs := rfl
@[go_sem] theorem spD2_h (f : FuncId) (ps : List PV) (hl : List PO) : spD2.h f ps hl = Pm.Spec.h (spU1.one 148 ixIndexFunc) f ps hl := rfl
@[go_sem] theorem spD2_y (Y : Pm.YS) (f : FuncId) (ps : List PV) (hl : List PO) : spD2.y Y f ps hl = Pm.Spec.y (spU1.one 148 ixIndexFunc) Y f ps hl := rfl
@[go_sem] theorem spD2_fz (f : FuncId) : spD2.fz f = Pm.Spec.fz (spU1.one 148 ixIndexFunc) f := rfl
@[go_sem] theorem spD2_fr (f : FuncId) : spD2.fr f = Pm.Spec.fr (spU1.one 148 ixIndexFunc) f := rfl
@[go_sem] theorem spD2_yf (f : FuncId) : spD2.yf f = Pm.Spec.yf (spU1.one 148 ixIndexFunc) f := rfl
@[go_sem] theorem spD2_gd : spD2.gd = Pm.Spec.gd (spU1.one 148 ixIndexFunc) := rfl
@[go_sem] theorem spD2_mu (t : TypeId) : spD2.mu t = Pm.Spec.mu (spU1.one 148 ixIndexFunc) t := rfl
@[go_sem] theorem spD2_nf (t : TypeId) : spD2.nf t = Pm.Spec.nf (spU1.one 148 ixIndexFunc) t := rfl
theorem spD2_ok : SpecOk Tryd.prog spD2 := Spec.one_ok ixIndexFunc_ok spU1_ok
theorem iContains_c {l : List Int} {s : TV} (hl : IsRow ic s l) (hll : l.length ≤ 17592186044415) : PCalls Tryd.prog 108 [s, .fn 109 [] []] (.bool (!(l.all fun n => inB n 10 200))) := by
 have rI := rowI_is hl
 unfold rowL at rI
 have hb := idxBad_iff l
 refine pcalls_by Tryd.mixes spD2_ok (fn := Tryd.f108) Tryd.func108 rfl (by kernel_rfl) (by show 2 ≤ _; decide) ?_
 simp (decide := true) (maxSteps := 4000000) only [go_sem, Nat.reduceAdd, Nat.reduceSub, Nat.reduceMul, Nat.reduceDiv, Nat.reduceMod, Nat.reduceLT, Nat.reduceLeDiff, Nat.reduceEqDiff, Nat.reduceBEq, Nat.reduceBNe, Nat.reduceGT, Int.reduceAdd, Int.reduceSub, Int.reduceMul, Int.reduceNeg, Int.reduceLT, Int.reduceLE, Int.reduceEq, Int.reduceNe, Int.reduceBEq, Int.reduceBNe, Int.reduceToNat, Int.reduceGT, Int.reduceGE, ↓reduceIte, decide_true, decide_false, eq_self, Nat.mul_one, Nat.zero_mul, Nat.one_mul, Int.le_refl, Nat.le_refl, Int.cast_ofNat_Int, Tryd.f108, rI, hll, hb]
noncomputable def ixContains : List TV → Option TV
 | [s, .fn F [] []] => match rowL unI s with
  | some l => if l.length ≤ 17592186044415 ∧ F = 109 then some (.bool (!(l.all fun n => inB n 10 200))) else none
  | none => none
 | _ => none
theorem ixContains_ok : ∀ xs r, ixContains xs = some r → PCalls Tryd.prog 108 xs r := by
 intro xs r h
 unfold ixContains at h
 split at h
 ·split at h
  ·rename_i l hl
   have hl := rowL_some (un := unI) rfl (@unI_some) hl
   split at h
   ·rename_i hc; cases h
    obtain ⟨h1, rfl⟩ := hc
    exact iContains_c hl h1
   ·cases h
  ·cases h
 ·cases h
attribute [go_sem] ixContains
noncomputable def spD3 : Pm.Spec := spU1.one 108 ixContains
@[go_sem] theorem spD3_p (f : FuncId) (xs : List TV) : spD3.p f xs = Pm.Spec.p (spU1.one 108 ixContains) f xs := rfl
@[go_sem] theorem spD3_h (f : FuncId) (ps : List PV) (hl : List PO) : spD3.h f ps hl = Pm.Spec.h (spU1.one 108 ixContains) f ps hl := rfl
@[go_sem] theorem spD3_y (Y : Pm.YS) (f : FuncId) (ps : List PV) (hl : List PO) : spD3.y Y f ps hl = Pm.Spec.y (spU1.one 108 ixContains) Y f ps hl := rfl
@[go_sem] theorem spD3_fz (f : FuncId) : spD3.fz f = Pm.Spec.fz (spU1.one 108 ixContains) f := rfl
@[go_sem] theorem spD3_fr (f : FuncId) : spD3.fr f = Pm.Spec.fr (spU1.one 108 ixContains) f := rfl
@[go_sem] theorem spD3_yf (f : FuncId) : spD3.yf f = Pm.Spec.yf (spU1.one 108 ixContains) f := rfl
@[go_sem] theorem spD3_gd : spD3.gd = Pm.Spec.gd (spU1.one 108 ixContains) := rfl
@[go_sem] theorem spD3_mu (t : TypeId) : spD3.mu t = Pm.Spec.mu (spU1.one 108 ixContains) t := rfl
@[go_sem] theorem spD3_nf (t : TypeId) : spD3.nf t = Pm.Spec.nf (spU1.one 108 ixContains) t := rfl
theorem spD3_ok : SpecOk Tryd.prog spD3 := Spec.one_ok ixContains_ok spU1_ok
theorem iIsStock_c {l : List Int} {s : TV} (hl : IsRow ic s l) (hll : l.length ≤ 17592186044415) : PCalls Tryd.prog 60 [s] (.bool (stockOk1 l)) := by
 have rI := rowI_is hl
 unfold rowL at rI
 have e : stockOk1 l = (inB l.length 2 10 && l.all fun n => inB n 10 200) := rfl
 refine pcalls_by Tryd.mixes spD3_ok (fn := Tryd.f60) Tryd.func60 rfl (by kernel_rfl) (by show 1 ≤ _; decide) ?_
 rcases hl with ⟨rfl, rfl⟩ | ⟨f, rfl⟩
 ·have h0 : inB 0 2 10 = false := rfl
  have e' : stockOk1 [] = false := rfl
  simp (decide := true) (maxSteps := 4000000) only [go_sem, Nat.reduceAdd, Nat.reduceSub, Nat.reduceMul, Nat.reduceDiv, Nat.reduceMod, Nat.reduceLT, Nat.reduceLeDiff, Nat.reduceEqDiff, Nat.reduceBEq, Nat.reduceBNe, Nat.reduceGT, Int.reduceAdd, Int.reduceSub, Int.reduceMul, Int.reduceNeg, Int.reduceLT, Int.reduceLE, Int.reduceEq, Int.reduceNe, Int.reduceBEq, Int.reduceBNe, Int.reduceToNat, Int.reduceGT, Int.reduceGE, ↓reduceIte, decide_true, decide_false, eq_self, Nat.mul_one, Nat.zero_mul, Nat.one_mul, Int.le_refl, Nat.le_refl, Int.cast_ofNat_Int, Tryd.f60, rI, h0, e']
 ·rw [ic_ints] at rI ⊢
  simp only [unI_eq, if_true] at rI
  cases h1 : inB (l.length : Int) 2 10 <;> cases h2 : (l.all fun n => inB n 10 200) <;> rw [h1, h2] at e <;> simp (decide := true) (maxSteps := 4000000) only [go_sem, Nat.reduceAdd, Nat.reduceSub, Nat.reduceMul, Nat.reduceDiv, Nat.reduceMod, Nat.reduceLT, Nat.reduceLeDiff, Nat.reduceEqDiff, Nat.reduceBEq, Nat.reduceBNe, Nat.reduceGT, Int.reduceAdd, Int.reduceSub, Int.reduceMul, Int.reduceNeg, Int.reduceLT, Int.reduceLE, Int.reduceEq, Int.reduceNe, Int.reduceBEq, Int.reduceBNe, Int.reduceToNat, Int.reduceGT, Int.reduceGE, ↓reduceIte, decide_true, decide_false, eq_self, Nat.mul_one, Nat.zero_mul, Nat.one_mul, Int.le_refl, Nat.le_refl, Int.cast_ofNat_Int, Tryd.f60, unI_eq, hll, h1, h2, e]
noncomputable def ixIsStock : List TV → Option TV
 | [s] => match rowL unI s with
  | some l => if l.length ≤ 17592186044415 then some (.bool (stockOk1 l)) else none
  | none => none
 | _ => none
theorem ixIsStock_ok : ∀ xs r, ixIsStock xs = some r → PCalls Tryd.prog 60 xs r := by
 intro xs r h
 unfold ixIsStock at h
 split at h
 ·split at h
  ·rename_i l hl
   have hl := rowL_some (un := unI) (by first | rfl | exact unI_nil) (@unI_some) hl
   split at h
   ·rename_i hc; cases h; exact iIsStock_c hl hc
   ·cases h
  ·cases h
 ·cases h
attribute [go_sem] ixIsStock
theorem iFits_c {st : List Int} {p q : Int} {l : List Int} {s : TV} (f : TV → Option TV) (tt : Nat) (ht : tt = 202) (hf : ∀ i : Nat, i < st.length → f (.int .i64 i) = some (.int .i64 (nthI st i)))
  (hst : ∀ i : Int, 0 ≤ i → i < st.length → 0 ≤ nthI st i ∧ nthI st i ≤ 200) (hl : ∀ k : Nat, k < l.length → 0 ≤ nthI l k ∧ nthI l k < st.length) (hp : 0 ≤ p ∧ p ≤ 100000) (hq : 0 ≤ q ∧ q ≤ 100000) (h4 : l.length = 2 ∨ l.length = 4) (hs : IsRow ic s l) :
  HCalls Tryd.prog 110 [.t s, .ptr 0 0, .ptr 1 0, .ptr 2 0] (getL [.box [.t (.int .i64 q)], .box [.t (.int .i64 p)], .box [.mapr 3], .mp tt f]) (.t (.bool (fitsL st p q l))) (getL [.box [.t (.int .i64 q)], .box [.t (.int .i64 p)], .box [.mapr 3], .mp tt f]) := by
 obtain ⟨full, rfl⟩ := hs.ne (by omega)
 subst ht
 rw [ic_ints, drv_all st p q h4]
 refine hcalls_by Tryd.mixes noSpec_ok (fn := Tryd.f110) Tryd.func110 rfl (by kernel_rfl) (by show 4 ≤ _; decide) ?_
 simp (decide := true) (maxSteps := 4000000) only [go_sem, Nat.reduceAdd, Nat.reduceSub, Nat.reduceMul, Nat.reduceDiv, Nat.reduceMod, Nat.reduceLT, Nat.reduceLeDiff, Nat.reduceEqDiff, Nat.reduceBEq, Nat.reduceBNe, Nat.reduceGT, Int.reduceAdd, Int.reduceSub, Int.reduceMul, Int.reduceNeg, Int.reduceLT, Int.reduceLE, Int.reduceEq, Int.reduceNe, Int.reduceBEq, Int.reduceBNe, Int.reduceToNat, Int.reduceGT, Int.reduceGE, ↓reduceIte, decide_true, decide_false, eq_self, Nat.mul_one, Nat.zero_mul, Nat.one_mul, Int.le_refl, Nat.le_refl, Int.cast_ofNat_Int, Tryd.f110]
 refine pwpC_loopU (A := { k : Nat // k ≤ l.length }) [0, 1, 2, 3, 12, 13] (fun k => [(14, .t (.int .i64 k.1)), (6, .t (.int .i64 (drvTo st p q l k.1).1)), (7, .t (.int .i64 (drvTo st p q l k.1).2))]) (fun _ => []) (fun k => l.length - k.1) ⟨0, by omega⟩ (by decide) (fun _ => by rfl) ?_ fun Q1 hQ1 ⟨k, hk⟩ I1 hI1 => ?_
 ·simp (decide := true) (maxSteps := 4000000) only [go_sem, Nat.reduceAdd, Nat.reduceSub, Nat.reduceMul, Nat.reduceDiv, Nat.reduceMod, Nat.reduceLT, Nat.reduceLeDiff, Nat.reduceEqDiff, Nat.reduceBEq, Nat.reduceBNe, Nat.reduceGT, Int.reduceAdd, Int.reduceSub, Int.reduceMul, Int.reduceNeg, Int.reduceLT, Int.reduceLE, Int.reduceEq, Int.reduceNe, Int.reduceBEq, Int.reduceBNe, Int.reduceToNat, Int.reduceGT, Int.reduceGE, ↓reduceIte, decide_true, decide_false, eq_self, Nat.mul_one, Nat.zero_mul, Nat.one_mul, Int.le_refl, Nat.le_refl, Int.cast_ofNat_Int, drvTo]
 ·by_cases hlt : (k : Int) < l.length
  ·obtain ⟨x, hx⟩ := get_lt hlt
   have hd := ints_at hx
   rw [Nat.mul_one] at hd
   have hnx := nthI_at hx
   have hc1 : IntKind.i64.wrap (k + 1) = ((k + 1 : Nat) : Int) := by rw [wrap_in (by omega) (by omega)]; omega
   have hxb := hl k (by omega)
   rw [hnx] at hxb
   obtain ⟨j, rfl⟩ := Int.eq_ofNat_of_zero_le hxb.1
   have hfj := hf j (by omega)
   have hsj := hst j hxb.1 hxb.2
   have hdb := drv_bound (p := p) (q := q) hst hl hp hq k hk
   have h4k := pow4 (show k ≤ 4 by omega)
   have hsu : drvTo st p q l (k + 1) = if k % 2 = 0 then ((drvTo st p q l k).1 * nthI st j, (drvTo st p q l k).2) else ((drvTo st p q l k).1, (drvTo st p q l k).2 * nthI st j) := by rw [drvTo, hnx]
   generalize (100000 : Int) * 200 ^ k = X at *
   have m1 := mulB hdb.1.1 hsj.1 hdb.1.2 hsj.2
   have m2 := mulB hdb.2.1 hsj.1 hdb.2.2 hsj.2
   have w1 : IntKind.i64.wrap ((drvTo st p q l k).1 * nthI st j) = (drvTo st p q l k).1 * nthI st j := wrap_in (by omega) (by omega)
   have w2 : IntKind.i64.wrap ((drvTo st p q l k).2 * nthI st j) = (drvTo st p q l k).2 * nthI st j := wrap_in (by omega) (by omega)
   have hmod : ((k : Int).tmod 2) = ((k % 2 : Nat) : Int) := (Int.ofNat_tmod k 2).symm
   by_cases hk2 : k % 2 = 0
   ·rw [if_pos hk2] at hsu
    have e1 : (((k % 2 : Nat) : Int) == 0) = true := beq_int_t (by omega)
    simp (decide := true) (maxSteps := 4000000) only [go_sem, Nat.reduceAdd, Nat.reduceSub, Nat.reduceMul, Nat.reduceDiv, Nat.reduceMod, Nat.reduceLT, Nat.reduceLeDiff, Nat.reduceEqDiff, Nat.reduceBEq, Nat.reduceBNe, Nat.reduceGT, Int.reduceAdd, Int.reduceSub, Int.reduceMul, Int.reduceNeg, Int.reduceLT, Int.reduceLE, Int.reduceEq, Int.reduceNe, Int.reduceBEq, Int.reduceBNe, Int.reduceToNat, Int.reduceGT, Int.reduceGE, ↓reduceIte, decide_true, decide_false, eq_self, Nat.mul_one, Nat.zero_mul, Nat.one_mul, Int.le_refl, Nat.le_refl, Int.cast_ofNat_Int, hlt, hd, hmod, e1, hfj, Option.getD_some, w1]
    refine hI1 _ ⟨k + 1, by omega⟩ (by simp only; omega) ?_
    simp (decide := true) (maxSteps := 4000000) only [go_sem, Nat.reduceAdd, Nat.reduceSub, Nat.reduceMul, Nat.reduceDiv, Nat.reduceMod, Nat.reduceLT, Nat.reduceLeDiff, Nat.reduceEqDiff, Nat.reduceBEq, Nat.reduceBNe, Nat.reduceGT, Int.reduceAdd, Int.reduceSub, Int.reduceMul, Int.reduceNeg, Int.reduceLT, Int.reduceLE, Int.reduceEq, Int.reduceNe, Int.reduceBEq, Int.reduceBNe, Int.reduceToNat, Int.reduceGT, Int.reduceGE, ↓reduceIte, decide_true, decide_false, eq_self, Nat.mul_one, Nat.zero_mul, Nat.one_mul, Int.le_refl, Nat.le_refl, Int.cast_ofNat_Int, hc1, hsu]
   ·rw [if_neg hk2] at hsu
    have e1 : (((k % 2 : Nat) : Int) == 0) = false := beq_int_f (by omega)
    simp (decide := true) (maxSteps := 4000000) only [go_sem, Nat.reduceAdd, Nat.reduceSub, Nat.reduceMul, Nat.reduceDiv, Nat.reduceMod, Nat.reduceLT, Nat.reduceLeDiff, Nat.reduceEqDiff, Nat.reduceBEq, Nat.reduceBNe, Nat.reduceGT, Int.reduceAdd, Int.reduceSub, Int.reduceMul, Int.reduceNeg, Int.reduceLT, Int.reduceLE, Int.reduceEq, Int.reduceNe, Int.reduceBEq, Int.reduceBNe, Int.reduceToNat, Int.reduceGT, Int.reduceGE, ↓reduceIte, decide_true, decide_false, eq_self, Nat.mul_one, Nat.zero_mul, Nat.one_mul, Int.le_refl, Nat.le_refl, Int.cast_ofNat_Int, hlt, hd, hmod, e1, hfj, Option.getD_some, w2]
    refine hI1 _ ⟨k + 1, by omega⟩ (by simp only; omega) ?_
    simp (decide := true) (maxSteps := 4000000) only [go_sem, Nat.reduceAdd, Nat.reduceSub, Nat.reduceMul, Nat.reduceDiv, Nat.reduceMod, Nat.reduceLT, Nat.reduceLeDiff, Nat.reduceEqDiff, Nat.reduceBEq, Nat.reduceBNe, Nat.reduceGT, Int.reduceAdd, Int.reduceSub, Int.reduceMul, Int.reduceNeg, Int.reduceLT, Int.reduceLE, Int.reduceEq, Int.reduceNe, Int.reduceBEq, Int.reduceBNe, Int.reduceToNat, Int.reduceGT, Int.reduceGE, ↓reduceIte, decide_true, decide_false, eq_self, Nat.mul_one, Nat.zero_mul, Nat.one_mul, Int.le_refl, Nat.le_refl, Int.cast_ofNat_Int, hc1, hsu]
  ·have hke : k = l.length := by omega
   subst hke
   simp (decide := true) (maxSteps := 4000000) only [go_sem, Nat.reduceAdd, Nat.reduceSub, Nat.reduceMul, Nat.reduceDiv, Nat.reduceMod, Nat.reduceLT, Nat.reduceLeDiff, Nat.reduceEqDiff, Nat.reduceBEq, Nat.reduceBNe, Nat.reduceGT, Int.reduceAdd, Int.reduceSub, Int.reduceMul, Int.reduceNeg, Int.reduceLT, Int.reduceLE, Int.reduceEq, Int.reduceNe, Int.reduceBEq, Int.reduceBNe, Int.reduceToNat, Int.reduceGT, Int.reduceGE, ↓reduceIte, decide_true, decide_false, eq_self, Nat.mul_one, Nat.zero_mul, Nat.one_mul, Int.le_refl, Nat.le_refl, Int.cast_ofNat_Int, hlt]
   refine hQ1 _ _ ?_
   simp (decide := true) (maxSteps := 4000000) only [go_sem, Nat.reduceAdd, Nat.reduceSub, Nat.reduceMul, Nat.reduceDiv, Nat.reduceMod, Nat.reduceLT, Nat.reduceLeDiff, Nat.reduceEqDiff, Nat.reduceBEq, Nat.reduceBNe, Nat.reduceGT, Int.reduceAdd, Int.reduceSub, Int.reduceMul, Int.reduceNeg, Int.reduceLT, Int.reduceLE, Int.reduceEq, Int.reduceNe, Int.reduceBEq, Int.reduceBNe, Int.reduceToNat, Int.reduceGT, Int.reduceGE, ↓reduceIte, decide_true, decide_false, eq_self, Nat.mul_one, Nat.zero_mul, Nat.one_mul, Int.le_refl, Nat.le_refl, Int.cast_ofNat_Int]
   exact ⟨_, rfl, rfl⟩
end Go.Proofs.YtlonlnfenbadbaaDoor.Ix

/- Part Ie. -/
namespace Go.Oc.Ix
end Go.Oc.Ix
namespace Go.Proofs.YtlonlnfenbadbaaDoor.Ix
end Go.Proofs.YtlonlnfenbadbaaDoor.Ix
namespace Go.Oc.Ix
open Go Go.Pm
set_option maxRecDepth 100000
def noTn : Tn := ⟨-1, -1, -1, -1⟩
theorem allO_t (xs ys : List TV) : allO (List.map PV.toT (List.map PV.t xs ++ List.map PV.t ys)) = some (xs ++ ys) := by
 rw [← List.map_append, List.map_map]
 generalize xs ++ ys = zs
 induction zs with
 | nil => rfl
 | cons z zs ih => simp only [List.map_cons, Function.comp, PV.toT, allO, ih, Option.map_some]
theorem allO_t1 (xs : List TV) (y : TV) : allO (List.map PV.toT (List.map PV.t xs ++ [PV.t y])) = some (xs ++ [y]) := allO_t xs [y]
noncomputable def tMap (st : List Int) (k : Nat) : TV → Option TV := (List.range k).foldl (fun g (i : Nat) => updT g (.int .i64 i) (.int .i64 (nthI st i))) fun _ => none
theorem tMap_succ (st : List Int) (k : Nat) : tMap st (k + 1) = updT (tMap st k) (.int .i64 k) (.int .i64 (nthI st k)) := by
 unfold tMap; rw [List.range_succ, List.foldl_append]; rfl
theorem tMap_at (st : List Int) : ∀ {k i : Nat}, i < k → tMap st k (.int .i64 i) = some (.int .i64 (nthI st i))
 | k + 1, i, h => by
  rw [tMap_succ]
  unfold updT
  by_cases hik : i = k
  ·subst hik; rw [if_pos rfl]
  ·rw [if_neg (by intro e; simp only [TV.int.injEq, true_and] at e; omega)]
   exact tMap_at st (by omega)
def idxOk (st l : List Int) : Bool := l.all fun x => inB x 0 ((st.length : Int) - 1)
theorem idxOk_at {st l : List Int} (h : idxOk st l = true) (k : Nat) (hk : k < l.length) : 0 ≤ nthI l k ∧ nthI l k < st.length := by
 have hx : l[k]? = some l[k] := List.getElem?_eq_getElem hk
 rw [nthI_at hx]
 have := inB_iff.1 (List.all_eq_true.1 h l[k] (List.getElem_mem _))
 omega
def srchF (st : List Int) (p q : Int) (d : Nat) (l : List Int) (i : Nat) : Option (List Int) := if l.contains (i : Int) then none else srch st p q d (l ++ [(i : Int)])
theorem srch_succ (st : List Int) (p q : Int) (d : Nat) (l : List Int) : srch st p q (d + 1) l = fsTo (srchF st p q d l) st.length := rfl
def resT (o : Option (List Int)) : Tn := (o.map tnOf).getD noTn
end Go.Oc.Ix
namespace Go.Proofs.YtlonlnfenbadbaaDoor.Ix
open Go.RowKit Go.Pm Go.Oc Go.Oc.Ix
set_option maxRecDepth 100000
set_option linter.unusedVariables false
set_option maxHeartbeats 4000000

def chH (st : List Int) (full : Bool) (p q : Int) (f : TV → Option TV) (t : Tn) : List PO :=
 [.box [.fnc 110 [4, 5, 6]], .box [.t (.int .i64 t.a), .t (.int .i64 t.b), .t (.int .i64 t.c), .t (.int .i64 t.d)], .box [.t (.sl (ints st) st.length full)], .box [.fnc 111 [0, 1, 2, 3]], .box [.t (.int .i64 q)], .box [.t (.int .i64 p)], .box [.mapr 7], .mp 202 f]
open Classical in
noncomputable def gFits (st : List Int) : List PV → List PO → Option (PV × List PO)
 | [.t s, .ptr 0 0, .ptr 1 0, .ptr 2 0], [.box [.t (.int .i64 q)], .box [.t (.int .i64 p)], .box [.mapr 3], .mp tt f] => match rowL unI s with
  | some l => if tt = 202 ∧ (∀ i : Nat, i < st.length → f (.int .i64 i) = some (.int .i64 (nthI st i))) ∧ idxOk st l = true ∧ ((0 ≤ p ∧ p ≤ 100000) ∧ 0 ≤ q ∧ q ≤ 100000) ∧ (l.length = 2 ∨ l.length = 4) then
    some (.t (.bool (fitsL st p q l)), [.box [.t (.int .i64 q)], .box [.t (.int .i64 p)], .box [.mapr 3], .mp tt f]) else none
  | none => none
 | _, _ => none
theorem gFits_ok {st : List Int} (hst : ∀ i : Int, 0 ≤ i → i < st.length → 0 ≤ nthI st i ∧ nthI st i ≤ 200) : ∀ xs hl r hl', gFits st xs hl = some (r, hl') → HCalls Tryd.prog 110 xs (getL hl) r (getL hl') := by
 intro xs hl r hl' h
 unfold gFits at h
 split at h
 ·split at h
  ·rename_i l hr
   have hr := rowL_some (un := unI) rfl (@unI_some) hr
   split at h
   ·rename_i hc
    simp only [Option.some.injEq, Prod.mk.injEq] at h
    obtain ⟨rfl, rfl⟩ := h
    exact iFits_c _ _ hc.1 hc.2.1 hst (idxOk_at hc.2.2.1) hc.2.2.2.1.1 hc.2.2.2.1.2 hc.2.2.2.2 hr
   ·cases h
  ·cases h
 ·cases h
def ChooseC (st : List Int) (full : Bool) (p q : Int) (f : TV → Option TV) (d : Nat) : Prop := ∀ (l : List Int) (s : TV) (many : Nat), IsRow ic s l → l.length + d = many → (many = 2 ∨ many = 4) → idxOk st l = true →
 HCalls Tryd.prog 111 [.t s, .t (.int .i64 many), .ptr 0 0, .ptr 1 0, .ptr 2 0, .ptr 3 0] (getL (chH st full p q f noTn)) (.t (.bool (srch st p q d l).isSome)) (getL (chH st full p q f (resT (srch st p q d l))))
open Classical in
noncomputable def gChoose (st : List Int) (full : Bool) (p q : Int) (f : TV → Option TV) (d : Nat) : List PV → List PO → Option (PV × List PO)
 | [.t s, .t (.int .i64 m), .ptr 0 0, .ptr 1 0, .ptr 2 0, .ptr 3 0], hl => match rowL unI s with
  | some l => if hl = chH st full p q f noTn ∧ m = ((l.length + d : Nat) : Int) ∧ (l.length + d = 2 ∨ l.length + d = 4) ∧ idxOk st l = true then
    some (.t (.bool (srch st p q d l).isSome), chH st full p q f (resT (srch st p q d l))) else none
  | none => none
 | _, _ => none
theorem gChoose_ok {st : List Int} {full : Bool} {p q : Int} {f : TV → Option TV} {d : Nat} (h : ChooseC st full p q f d) : ∀ xs hl r hl', gChoose st full p q f d xs hl = some (r, hl') → HCalls Tryd.prog 111 xs (getL hl) r (getL hl') := by
 intro xs hl r hl' hg
 unfold gChoose at hg
 split at hg
 ·split at hg
  ·rename_i l hr
   have hr := rowL_some (un := unI) rfl (@unI_some) hr
   split at hg
   ·rename_i hc
    simp only [Option.some.injEq, Prod.mk.injEq] at hg
    obtain ⟨rfl, rfl⟩ := hg
    obtain ⟨rfl, rfl, h2, h3⟩ := hc
    exact h l _ _ hr rfl h2 h3
   ·cases hg
  ·cases hg
 ·cases hg
theorem choose_zero {st : List Int} (full : Bool) {p q : Int} {f : TV → Option TV} (hf : ∀ i : Nat, i < st.length → f (.int .i64 i) = some (.int .i64 (nthI st i)))
  (hst : ∀ i : Int, 0 ≤ i → i < st.length → 0 ≤ nthI st i ∧ nthI st i ≤ 200) (hp : 0 ≤ p ∧ p ≤ 100000) (hq : 0 ≤ q ∧ q ≤ 100000) : ChooseC st full p q f 0 := by
 intro l s many hs hm h24 hidx
 have hm : l.length = many := by omega
 subst hm
 obtain ⟨fl, rfl⟩ := hs.ne (by omega)
 rw [ic_ints]
 have hfT : (∀ i : Nat, i < st.length → f (.int .i64 i) = some (.int .i64 (nthI st i))) = True := eq_true hf
 have hsr : srch st p q 0 l = if fitsL st p q l = true then some l else none := rfl
 rw [hsr]
 refine hcalls_by Tryd.mixes (Spec.oneH_ok (gFits_ok hst) noSpec_ok) (fn := Tryd.f111) Tryd.func111 rfl (by kernel_rfl) (by show 6 ≤ _; decide) ?_
 cases hft : fitsL st p q l with
 | false =>
  simp (decide := true) (maxSteps := 4000000) only [go_sem, Nat.reduceAdd, Nat.reduceSub, Nat.reduceMul, Nat.reduceDiv, Nat.reduceMod, Nat.reduceLT, Nat.reduceLeDiff, Nat.reduceEqDiff, Nat.reduceBEq, Nat.reduceBNe, Nat.reduceGT, Int.reduceAdd, Int.reduceSub, Int.reduceMul, Int.reduceNeg, Int.reduceLT, Int.reduceLE, Int.reduceEq, Int.reduceNe, Int.reduceBEq, Int.reduceBNe, Int.reduceToNat, Int.reduceGT, Int.reduceGE, ↓reduceIte, decide_true, decide_false, eq_self, Nat.mul_one, Nat.zero_mul, Nat.one_mul, Int.le_refl, Nat.le_refl, Int.cast_ofNat_Int, Tryd.f111, chH, noTn, resT, beq_self_eq_true, gFits, unI_eq, hfT, hidx, hp, hq, h24, hft, Option.map_none, Option.getD_none]
  first | done | exact ⟨_, rfl, rfl⟩
 | true =>
  match l, h24, hft, hidx with
  | [a, b], _, hft, hidx =>
   simp (decide := true) (maxSteps := 4000000) only [go_sem, Nat.reduceAdd, Nat.reduceSub, Nat.reduceMul, Nat.reduceDiv, Nat.reduceMod, Nat.reduceLT, Nat.reduceLeDiff, Nat.reduceEqDiff, Nat.reduceBEq, Nat.reduceBNe, Nat.reduceGT, Int.reduceAdd, Int.reduceSub, Int.reduceMul, Int.reduceNeg, Int.reduceLT, Int.reduceLE, Int.reduceEq, Int.reduceNe, Int.reduceBEq, Int.reduceBNe, Int.reduceToNat, Int.reduceGT, Int.reduceGE, ↓reduceIte, decide_true, decide_false, eq_self, Nat.mul_one, Nat.zero_mul, Nat.one_mul, Int.le_refl, Nat.le_refl, Int.cast_ofNat_Int, Tryd.f111, chH, noTn, resT, beq_self_eq_true, gFits, unI_eq, hfT, hidx, hp, hq, hft, ints, unI, tnOf]
   first | done | exact ⟨_, rfl, rfl⟩
  | [a, b, c, d], _, hft, hidx =>
   simp (decide := true) (maxSteps := 4000000) only [go_sem, Nat.reduceAdd, Nat.reduceSub, Nat.reduceMul, Nat.reduceDiv, Nat.reduceMod, Nat.reduceLT, Nat.reduceLeDiff, Nat.reduceEqDiff, Nat.reduceBEq, Nat.reduceBNe, Nat.reduceGT, Int.reduceAdd, Int.reduceSub, Int.reduceMul, Int.reduceNeg, Int.reduceLT, Int.reduceLE, Int.reduceEq, Int.reduceNe, Int.reduceBEq, Int.reduceBNe, Int.reduceToNat, Int.reduceGT, Int.reduceGE, ↓reduceIte, decide_true, decide_false, eq_self, Nat.mul_one, Nat.zero_mul, Nat.one_mul, Int.le_refl, Nat.le_refl, Int.cast_ofNat_Int, Tryd.f111, chH, noTn, resT, beq_self_eq_true, gFits, unI_eq, hfT, hidx, hp, hq, hft, ints, unI, tnOf]
   first | done | exact ⟨_, rfl, rfl⟩
theorem unI_snoc (l : List Int) (x : Int) : unI (ints l ++ [.int .i64 x]) = some (l ++ [x]) := by rw [← ints_snoc]; exact unI_eq _
theorem choose_succ {st : List Int} (full : Bool) {p q : Int} {f : TV → Option TV} (hs10 : st.length ≤ 10) {d : Nat} (ih : ChooseC st full p q f d) : ChooseC st full p q f (d + 1) := by
 intro l s many hs hm h24 hidx
 have hne : ((l.length : Int) == (many : Int)) = false := beq_int_f (by omega)
 have hl4 : l.length ≤ 3 := by omega
 rw [srch_succ]
 have hmE : ((many : Int) = ((l.length + 1 + d : Nat) : Int)) = True := eq_true (by omega)
 have h2E : (l.length + 1 + d = 2 ∨ l.length + 1 + d = 4) = True := eq_true (by omega)
 refine hcalls_by Tryd.mixes (Spec.oneH_ok (gChoose_ok ih) noSpec_ok) (fn := Tryd.f111) Tryd.func111 rfl (by kernel_rfl) (by show 6 ≤ _; decide) ?_
 have inv : ∀ i : Nat, i < st.length → idxOk st (l ++ [(i : Int)]) = true := fun i hi => by
  unfold idxOk at hidx ⊢
  rw [List.all_append, hidx]
  simp [inB]; omega
 rcases hs with ⟨rfl, rfl⟩ | ⟨fl, rfl⟩
 ·simp only [List.length_nil, Int.cast_ofNat_Int, Nat.zero_add] at hne hmE h2E
  simp (decide := true) (maxSteps := 4000000) only [go_sem, Nat.reduceAdd, Nat.reduceSub, Nat.reduceMul, Nat.reduceDiv, Nat.reduceMod, Nat.reduceLT, Nat.reduceLeDiff, Nat.reduceEqDiff, Nat.reduceBEq, Nat.reduceBNe, Nat.reduceGT, Int.reduceAdd, Int.reduceSub, Int.reduceMul, Int.reduceNeg, Int.reduceLT, Int.reduceLE, Int.reduceEq, Int.reduceNe, Int.reduceBEq, Int.reduceBNe, Int.reduceToNat, Int.reduceGT, Int.reduceGE, ↓reduceIte, decide_true, decide_false, eq_self, Nat.mul_one, Nat.zero_mul, Nat.one_mul, Int.le_refl, Nat.le_refl, Int.cast_ofNat_Int, Tryd.f111, chH, noTn, hne]
  refine pwpC_loopU (A := { i : Nat // i ≤ st.length ∧ fsTo (srchF st p q d []) i = none }) [0, 1, 2, 3, 4, 5, 8, 39] (fun i => [(40, .t (.int .i64 i.1))]) (fun _ => []) (fun i => st.length - i.1) ⟨0, by omega, rfl⟩ (by decide) (fun _ => by rfl) ?_ fun Q1 hQ1 ⟨i, hi, hno⟩ I1 hI1 => ?_
  ·simp (decide := true) (maxSteps := 4000000) only [go_sem, Nat.reduceAdd, Nat.reduceSub, Nat.reduceMul, Nat.reduceDiv, Nat.reduceMod, Nat.reduceLT, Nat.reduceLeDiff, Nat.reduceEqDiff, Nat.reduceBEq, Nat.reduceBNe, Nat.reduceGT, Int.reduceAdd, Int.reduceSub, Int.reduceMul, Int.reduceNeg, Int.reduceLT, Int.reduceLE, Int.reduceEq, Int.reduceNe, Int.reduceBEq, Int.reduceBNe, Int.reduceToNat, Int.reduceGT, Int.reduceGE, ↓reduceIte, decide_true, decide_false, eq_self, Nat.mul_one, Nat.zero_mul, Nat.one_mul, Int.le_refl, Nat.le_refl, Int.cast_ofNat_Int]
  ·by_cases hlt : (i : Int) < st.length
   ·have hi1 : IntKind.i64.wrap (i + 1) = ((i + 1 : Nat) : Int) := by rw [wrap_in (by omega) (by omega)]; omega
    simp (decide := true) (maxSteps := 4000000) only [go_sem, Nat.reduceAdd, Nat.reduceSub, Nat.reduceMul, Nat.reduceDiv, Nat.reduceMod, Nat.reduceLT, Nat.reduceLeDiff, Nat.reduceEqDiff, Nat.reduceBEq, Nat.reduceBNe, Nat.reduceGT, Int.reduceAdd, Int.reduceSub, Int.reduceMul, Int.reduceNeg, Int.reduceLT, Int.reduceLE, Int.reduceEq, Int.reduceNe, Int.reduceBEq, Int.reduceBNe, Int.reduceToNat, Int.reduceGT, Int.reduceGE, ↓reduceIte, decide_true, decide_false, eq_self, Nat.mul_one, Nat.zero_mul, Nat.one_mul, Int.le_refl, Nat.le_refl, Int.cast_ofNat_Int, hlt]
    refine pwpC_loopU (A := Unit) [0, 1, 2, 3, 4, 5, 8, 9, 39, 40, 43, 44] (fun _ => [(45, .t (.int .i64 0))]) (fun _ => []) (fun _ => 0) () (by decide) (fun _ => by rfl) ?_ fun Q2 hQ2 _ I2 hI2 => ?_
    ·simp (decide := true) (maxSteps := 4000000) only [go_sem, Nat.reduceAdd, Nat.reduceSub, Nat.reduceMul, Nat.reduceDiv, Nat.reduceMod, Nat.reduceLT, Nat.reduceLeDiff, Nat.reduceEqDiff, Nat.reduceBEq, Nat.reduceBNe, Nat.reduceGT, Int.reduceAdd, Int.reduceSub, Int.reduceMul, Int.reduceNeg, Int.reduceLT, Int.reduceLE, Int.reduceEq, Int.reduceNe, Int.reduceBEq, Int.reduceBNe, Int.reduceToNat, Int.reduceGT, Int.reduceGE, ↓reduceIte, decide_true, decide_false, eq_self, Nat.mul_one, Nat.zero_mul, Nat.one_mul, Int.le_refl, Nat.le_refl, Int.cast_ofNat_Int]
    ·simp (decide := true) (maxSteps := 4000000) only [go_sem, Nat.reduceAdd, Nat.reduceSub, Nat.reduceMul, Nat.reduceDiv, Nat.reduceMod, Nat.reduceLT, Nat.reduceLeDiff, Nat.reduceEqDiff, Nat.reduceBEq, Nat.reduceBNe, Nat.reduceGT, Int.reduceAdd, Int.reduceSub, Int.reduceMul, Int.reduceNeg, Int.reduceLT, Int.reduceLE, Int.reduceEq, Int.reduceNe, Int.reduceBEq, Int.reduceBNe, Int.reduceToNat, Int.reduceGT, Int.reduceGE, ↓reduceIte, decide_true, decide_false, eq_self, Nat.mul_one, Nat.zero_mul, Nat.one_mul, Int.le_refl, Nat.le_refl, Int.cast_ofNat_Int]
     refine hQ2 _ _ ?_
     have hsf : srchF st p q d [] i = srch st p q d [(i : Int)] := by unfold srchF; rw [if_neg (by simp)]; rfl
     have hii := inv i (by omega)
     rw [List.nil_append] at hii
     cases hsr : srch st p q d [(i : Int)] with
     | none =>
      rw [hsr] at hsf
      simp (decide := true) (maxSteps := 4000000) only [go_sem, Nat.reduceAdd, Nat.reduceSub, Nat.reduceMul, Nat.reduceDiv, Nat.reduceMod, Nat.reduceLT, Nat.reduceLeDiff, Nat.reduceEqDiff, Nat.reduceBEq, Nat.reduceBNe, Nat.reduceGT, Int.reduceAdd, Int.reduceSub, Int.reduceMul, Int.reduceNeg, Int.reduceLT, Int.reduceLE, Int.reduceEq, Int.reduceNe, Int.reduceBEq, Int.reduceBNe, Int.reduceToNat, Int.reduceGT, Int.reduceGE, ↓reduceIte, decide_true, decide_false, eq_self, Nat.mul_one, Nat.zero_mul, Nat.one_mul, Int.le_refl, Nat.le_refl, Int.cast_ofNat_Int, gChoose, unI, chH, noTn, hsr, resT, hmE, h2E, hii, Option.map_none, Option.getD_none]
      refine hI1 _ ⟨i + 1, by omega, by rw [fsTo_succ, hno]; exact hsf⟩ (by simp only; omega) ?_
      simp (decide := true) (maxSteps := 4000000) only [go_sem, Nat.reduceAdd, Nat.reduceSub, Nat.reduceMul, Nat.reduceDiv, Nat.reduceMod, Nat.reduceLT, Nat.reduceLeDiff, Nat.reduceEqDiff, Nat.reduceBEq, Nat.reduceBNe, Nat.reduceGT, Int.reduceAdd, Int.reduceSub, Int.reduceMul, Int.reduceNeg, Int.reduceLT, Int.reduceLE, Int.reduceEq, Int.reduceNe, Int.reduceBEq, Int.reduceBNe, Int.reduceToNat, Int.reduceGT, Int.reduceGE, ↓reduceIte, decide_true, decide_false, eq_self, Nat.mul_one, Nat.zero_mul, Nat.one_mul, Int.le_refl, Nat.le_refl, Int.cast_ofNat_Int, hi1]
     | some L =>
      rw [hsr] at hsf
      have hall := fsTo_hit hno (show i < st.length by omega) hsf
      simp (decide := true) (maxSteps := 4000000) only [go_sem, Nat.reduceAdd, Nat.reduceSub, Nat.reduceMul, Nat.reduceDiv, Nat.reduceMod, Nat.reduceLT, Nat.reduceLeDiff, Nat.reduceEqDiff, Nat.reduceBEq, Nat.reduceBNe, Nat.reduceGT, Int.reduceAdd, Int.reduceSub, Int.reduceMul, Int.reduceNeg, Int.reduceLT, Int.reduceLE, Int.reduceEq, Int.reduceNe, Int.reduceBEq, Int.reduceBNe, Int.reduceToNat, Int.reduceGT, Int.reduceGE, ↓reduceIte, decide_true, decide_false, eq_self, Nat.mul_one, Nat.zero_mul, Nat.one_mul, Int.le_refl, Nat.le_refl, Int.cast_ofNat_Int, gChoose, unI, chH, noTn, hsr, resT, hmE, h2E, hii]
      try (refine hQ1 _ _ ?_)
      try simp (decide := true) (maxSteps := 4000000) only [go_sem, Nat.reduceAdd, Nat.reduceSub, Nat.reduceMul, Nat.reduceDiv, Nat.reduceMod, Nat.reduceLT, Nat.reduceLeDiff, Nat.reduceEqDiff, Nat.reduceBEq, Nat.reduceBNe, Nat.reduceGT, Int.reduceAdd, Int.reduceSub, Int.reduceMul, Int.reduceNeg, Int.reduceLT, Int.reduceLE, Int.reduceEq, Int.reduceNe, Int.reduceBEq, Int.reduceBNe, Int.reduceToNat, Int.reduceGT, Int.reduceGE, ↓reduceIte, decide_true, decide_false, eq_self, Nat.mul_one, Nat.zero_mul, Nat.one_mul, Int.le_refl, Nat.le_refl, Int.cast_ofNat_Int]
      rw [hall]
      first | exact ⟨_, rfl, rfl⟩ | exact ⟨_, rfl, rfl, rfl, rfl, rfl, rfl⟩
   ·have hie : i = st.length := by omega
    subst hie
    simp (decide := true) (maxSteps := 4000000) only [go_sem, Nat.reduceAdd, Nat.reduceSub, Nat.reduceMul, Nat.reduceDiv, Nat.reduceMod, Nat.reduceLT, Nat.reduceLeDiff, Nat.reduceEqDiff, Nat.reduceBEq, Nat.reduceBNe, Nat.reduceGT, Int.reduceAdd, Int.reduceSub, Int.reduceMul, Int.reduceNeg, Int.reduceLT, Int.reduceLE, Int.reduceEq, Int.reduceNe, Int.reduceBEq, Int.reduceBNe, Int.reduceToNat, Int.reduceGT, Int.reduceGE, ↓reduceIte, decide_true, decide_false, eq_self, Nat.mul_one, Nat.zero_mul, Nat.one_mul, Int.le_refl, Nat.le_refl, Int.cast_ofNat_Int, hlt]
    refine hQ1 _ _ ?_
    simp (decide := true) (maxSteps := 4000000) only [go_sem, Nat.reduceAdd, Nat.reduceSub, Nat.reduceMul, Nat.reduceDiv, Nat.reduceMod, Nat.reduceLT, Nat.reduceLeDiff, Nat.reduceEqDiff, Nat.reduceBEq, Nat.reduceBNe, Nat.reduceGT, Int.reduceAdd, Int.reduceSub, Int.reduceMul, Int.reduceNeg, Int.reduceLT, Int.reduceLE, Int.reduceEq, Int.reduceNe, Int.reduceBEq, Int.reduceBNe, Int.reduceToNat, Int.reduceGT, Int.reduceGE, ↓reduceIte, decide_true, decide_false, eq_self, Nat.mul_one, Nat.zero_mul, Nat.one_mul, Int.le_refl, Nat.le_refl, Int.cast_ofNat_Int]
    rw [hno]
    first | exact ⟨_, rfl, rfl⟩ | exact ⟨_, rfl, rfl, rfl, rfl, rfl, rfl⟩
 ·rw [ic_ints]
  simp (decide := true) (maxSteps := 4000000) only [go_sem, Nat.reduceAdd, Nat.reduceSub, Nat.reduceMul, Nat.reduceDiv, Nat.reduceMod, Nat.reduceLT, Nat.reduceLeDiff, Nat.reduceEqDiff, Nat.reduceBEq, Nat.reduceBNe, Nat.reduceGT, Int.reduceAdd, Int.reduceSub, Int.reduceMul, Int.reduceNeg, Int.reduceLT, Int.reduceLE, Int.reduceEq, Int.reduceNe, Int.reduceBEq, Int.reduceBNe, Int.reduceToNat, Int.reduceGT, Int.reduceGE, ↓reduceIte, decide_true, decide_false, eq_self, Nat.mul_one, Nat.zero_mul, Nat.one_mul, Int.le_refl, Nat.le_refl, Int.cast_ofNat_Int, Tryd.f111, chH, noTn, hne]
  refine pwpC_loopU (A := { i : Nat // i ≤ st.length ∧ fsTo (srchF st p q d l) i = none }) [0, 1, 2, 3, 4, 5, 8, 39] (fun i => [(40, .t (.int .i64 i.1))]) (fun _ => []) (fun i => st.length - i.1) ⟨0, by omega, rfl⟩ (by decide) (fun _ => by rfl) ?_ fun Q1 hQ1 ⟨i, hi, hno⟩ I1 hI1 => ?_
  ·simp (decide := true) (maxSteps := 4000000) only [go_sem, Nat.reduceAdd, Nat.reduceSub, Nat.reduceMul, Nat.reduceDiv, Nat.reduceMod, Nat.reduceLT, Nat.reduceLeDiff, Nat.reduceEqDiff, Nat.reduceBEq, Nat.reduceBNe, Nat.reduceGT, Int.reduceAdd, Int.reduceSub, Int.reduceMul, Int.reduceNeg, Int.reduceLT, Int.reduceLE, Int.reduceEq, Int.reduceNe, Int.reduceBEq, Int.reduceBNe, Int.reduceToNat, Int.reduceGT, Int.reduceGE, ↓reduceIte, decide_true, decide_false, eq_self, Nat.mul_one, Nat.zero_mul, Nat.one_mul, Int.le_refl, Nat.le_refl, Int.cast_ofNat_Int]
  ·by_cases hlt : (i : Int) < st.length
   ·have hi1 : IntKind.i64.wrap (i + 1) = ((i + 1 : Nat) : Int) := by rw [wrap_in (by omega) (by omega)]; omega
    simp (decide := true) (maxSteps := 4000000) only [go_sem, Nat.reduceAdd, Nat.reduceSub, Nat.reduceMul, Nat.reduceDiv, Nat.reduceMod, Nat.reduceLT, Nat.reduceLeDiff, Nat.reduceEqDiff, Nat.reduceBEq, Nat.reduceBNe, Nat.reduceGT, Int.reduceAdd, Int.reduceSub, Int.reduceMul, Int.reduceNeg, Int.reduceLT, Int.reduceLE, Int.reduceEq, Int.reduceNe, Int.reduceBEq, Int.reduceBNe, Int.reduceToNat, Int.reduceGT, Int.reduceGE, ↓reduceIte, decide_true, decide_false, eq_self, Nat.mul_one, Nat.zero_mul, Nat.one_mul, Int.le_refl, Nat.le_refl, Int.cast_ofNat_Int, hlt]
    refine pwpC_loopU (A := { j : Nat // j ≤ l.length ∧ (l.take j).contains (i : Int) = false }) [0, 1, 2, 3, 4, 5, 8, 9, 39, 40, 43, 44] (fun j => [(45, .t (.int .i64 j.1))]) (fun _ => []) (fun j => l.length - j.1) ⟨0, by omega, rfl⟩ (by decide) (fun _ => by rfl) ?_ fun Q2 hQ2 ⟨j, hj, hnc⟩ I2 hI2 => ?_
    ·simp (decide := true) (maxSteps := 4000000) only [go_sem, Nat.reduceAdd, Nat.reduceSub, Nat.reduceMul, Nat.reduceDiv, Nat.reduceMod, Nat.reduceLT, Nat.reduceLeDiff, Nat.reduceEqDiff, Nat.reduceBEq, Nat.reduceBNe, Nat.reduceGT, Int.reduceAdd, Int.reduceSub, Int.reduceMul, Int.reduceNeg, Int.reduceLT, Int.reduceLE, Int.reduceEq, Int.reduceNe, Int.reduceBEq, Int.reduceBNe, Int.reduceToNat, Int.reduceGT, Int.reduceGE, ↓reduceIte, decide_true, decide_false, eq_self, Nat.mul_one, Nat.zero_mul, Nat.one_mul, Int.le_refl, Nat.le_refl, Int.cast_ofNat_Int]
    ·by_cases hlt2 : (j : Int) < l.length
     ·obtain ⟨o, ho⟩ := get_lt hlt2
      have hd := ints_at ho
      rw [Nat.mul_one] at hd
      have hj1 : IntKind.i64.wrap (j + 1) = ((j + 1 : Nat) : Int) := by rw [wrap_in (by omega) (by omega)]; omega
      by_cases hoi : o = (i : Int)
      ·have hoi' : (o == (i : Int)) = true := beq_int_t hoi
       have hcon : l.contains (i : Int) = true := by
        rw [List.contains_iff_mem]; rw [← hoi]; exact List.mem_of_getElem? ho
       have hsf : srchF st p q d l i = none := by unfold srchF; rw [if_pos hcon]
       simp (decide := true) (maxSteps := 4000000) only [go_sem, Nat.reduceAdd, Nat.reduceSub, Nat.reduceMul, Nat.reduceDiv, Nat.reduceMod, Nat.reduceLT, Nat.reduceLeDiff, Nat.reduceEqDiff, Nat.reduceBEq, Nat.reduceBNe, Nat.reduceGT, Int.reduceAdd, Int.reduceSub, Int.reduceMul, Int.reduceNeg, Int.reduceLT, Int.reduceLE, Int.reduceEq, Int.reduceNe, Int.reduceBEq, Int.reduceBNe, Int.reduceToNat, Int.reduceGT, Int.reduceGE, ↓reduceIte, decide_true, decide_false, eq_self, Nat.mul_one, Nat.zero_mul, Nat.one_mul, Int.le_refl, Nat.le_refl, Int.cast_ofNat_Int, hlt2, hd, hoi']
       try (refine hQ2 _ _ ?_)
       try simp (decide := true) (maxSteps := 4000000) only [go_sem, Nat.reduceAdd, Nat.reduceSub, Nat.reduceMul, Nat.reduceDiv, Nat.reduceMod, Nat.reduceLT, Nat.reduceLeDiff, Nat.reduceEqDiff, Nat.reduceBEq, Nat.reduceBNe, Nat.reduceGT, Int.reduceAdd, Int.reduceSub, Int.reduceMul, Int.reduceNeg, Int.reduceLT, Int.reduceLE, Int.reduceEq, Int.reduceNe, Int.reduceBEq, Int.reduceBNe, Int.reduceToNat, Int.reduceGT, Int.reduceGE, ↓reduceIte, decide_true, decide_false, eq_self, Nat.mul_one, Nat.zero_mul, Nat.one_mul, Int.le_refl, Nat.le_refl, Int.cast_ofNat_Int]
       refine hI1 _ ⟨i + 1, by omega, by rw [fsTo_succ, hno]; exact hsf⟩ (by simp only; omega) ?_
       simp (decide := true) (maxSteps := 4000000) only [go_sem, Nat.reduceAdd, Nat.reduceSub, Nat.reduceMul, Nat.reduceDiv, Nat.reduceMod, Nat.reduceLT, Nat.reduceLeDiff, Nat.reduceEqDiff, Nat.reduceBEq, Nat.reduceBNe, Nat.reduceGT, Int.reduceAdd, Int.reduceSub, Int.reduceMul, Int.reduceNeg, Int.reduceLT, Int.reduceLE, Int.reduceEq, Int.reduceNe, Int.reduceBEq, Int.reduceBNe, Int.reduceToNat, Int.reduceGT, Int.reduceGE, ↓reduceIte, decide_true, decide_false, eq_self, Nat.mul_one, Nat.zero_mul, Nat.one_mul, Int.le_refl, Nat.le_refl, Int.cast_ofNat_Int, hi1]
      ·have hoi' : (o == (i : Int)) = false := beq_int_f hoi
       have hnc' : (l.take (j + 1)).contains (i : Int) = false := by
        rw [take_snoc ho]
        rw [Bool.eq_false_iff, ne_eq, List.contains_iff_mem] at hnc ⊢
        intro h
        rcases List.mem_append.1 h with h | h
        ·exact hnc h
        ·simp at h; exact hoi h.symm
       simp (decide := true) (maxSteps := 4000000) only [go_sem, Nat.reduceAdd, Nat.reduceSub, Nat.reduceMul, Nat.reduceDiv, Nat.reduceMod, Nat.reduceLT, Nat.reduceLeDiff, Nat.reduceEqDiff, Nat.reduceBEq, Nat.reduceBNe, Nat.reduceGT, Int.reduceAdd, Int.reduceSub, Int.reduceMul, Int.reduceNeg, Int.reduceLT, Int.reduceLE, Int.reduceEq, Int.reduceNe, Int.reduceBEq, Int.reduceBNe, Int.reduceToNat, Int.reduceGT, Int.reduceGE, ↓reduceIte, decide_true, decide_false, eq_self, Nat.mul_one, Nat.zero_mul, Nat.one_mul, Int.le_refl, Nat.le_refl, Int.cast_ofNat_Int, hlt2, hd, hoi']
       refine hI2 _ ⟨j + 1, by omega, hnc'⟩ (by simp only; omega) ?_
       simp (decide := true) (maxSteps := 4000000) only [go_sem, Nat.reduceAdd, Nat.reduceSub, Nat.reduceMul, Nat.reduceDiv, Nat.reduceMod, Nat.reduceLT, Nat.reduceLeDiff, Nat.reduceEqDiff, Nat.reduceBEq, Nat.reduceBNe, Nat.reduceGT, Int.reduceAdd, Int.reduceSub, Int.reduceMul, Int.reduceNeg, Int.reduceLT, Int.reduceLE, Int.reduceEq, Int.reduceNe, Int.reduceBEq, Int.reduceBNe, Int.reduceToNat, Int.reduceGT, Int.reduceGE, ↓reduceIte, decide_true, decide_false, eq_self, Nat.mul_one, Nat.zero_mul, Nat.one_mul, Int.le_refl, Nat.le_refl, Int.cast_ofNat_Int, hj1]
     ·have hje : j = l.length := by omega
      subst hje
      rw [List.take_length] at hnc
      have hsf : srchF st p q d l i = srch st p q d (l ++ [(i : Int)]) := by unfold srchF; rw [if_neg (by rw [hnc]; simp)]
      have hii := inv i (by omega)
      have hun := unI_snoc l i
      have htk : List.take l.length (ints l) = ints l := List.take_of_length_le (by rw [ints_len]; omega)
      have hil := ints_len l
      have hroom : (l.length + 1) * 8 ≤ 140737488355328 := by omega
      simp (decide := true) (maxSteps := 4000000) only [go_sem, Nat.reduceAdd, Nat.reduceSub, Nat.reduceMul, Nat.reduceDiv, Nat.reduceMod, Nat.reduceLT, Nat.reduceLeDiff, Nat.reduceEqDiff, Nat.reduceBEq, Nat.reduceBNe, Nat.reduceGT, Int.reduceAdd, Int.reduceSub, Int.reduceMul, Int.reduceNeg, Int.reduceLT, Int.reduceLE, Int.reduceEq, Int.reduceNe, Int.reduceBEq, Int.reduceBNe, Int.reduceToNat, Int.reduceGT, Int.reduceGE, ↓reduceIte, decide_true, decide_false, eq_self, Nat.mul_one, Nat.zero_mul, Nat.one_mul, Int.le_refl, Nat.le_refl, Int.cast_ofNat_Int, hlt2]
      refine hQ2 _ _ ?_
      cases hsr : srch st p q d (l ++ [(i : Int)]) with
      | none =>
       rw [hsr] at hsf
       simp (decide := true) (maxSteps := 4000000) only [go_sem, Nat.reduceAdd, Nat.reduceSub, Nat.reduceMul, Nat.reduceDiv, Nat.reduceMod, Nat.reduceLT, Nat.reduceLeDiff, Nat.reduceEqDiff, Nat.reduceBEq, Nat.reduceBNe, Nat.reduceGT, Int.reduceAdd, Int.reduceSub, Int.reduceMul, Int.reduceNeg, Int.reduceLT, Int.reduceLE, Int.reduceEq, Int.reduceNe, Int.reduceBEq, Int.reduceBNe, Int.reduceToNat, Int.reduceGT, Int.reduceGE, ↓reduceIte, decide_true, decide_false, eq_self, Nat.mul_one, Nat.zero_mul, Nat.one_mul, Int.le_refl, Nat.le_refl, Int.cast_ofNat_Int, htk, hil, hroom, allO_t1, gChoose, hun, List.length_append, chH, noTn, hsr, resT, hmE, h2E, hii, Option.map_none, Option.getD_none]
       refine hI1 _ ⟨i + 1, by omega, by rw [fsTo_succ, hno]; exact hsf⟩ (by simp only; omega) ?_
       simp (decide := true) (maxSteps := 4000000) only [go_sem, Nat.reduceAdd, Nat.reduceSub, Nat.reduceMul, Nat.reduceDiv, Nat.reduceMod, Nat.reduceLT, Nat.reduceLeDiff, Nat.reduceEqDiff, Nat.reduceBEq, Nat.reduceBNe, Nat.reduceGT, Int.reduceAdd, Int.reduceSub, Int.reduceMul, Int.reduceNeg, Int.reduceLT, Int.reduceLE, Int.reduceEq, Int.reduceNe, Int.reduceBEq, Int.reduceBNe, Int.reduceToNat, Int.reduceGT, Int.reduceGE, ↓reduceIte, decide_true, decide_false, eq_self, Nat.mul_one, Nat.zero_mul, Nat.one_mul, Int.le_refl, Nat.le_refl, Int.cast_ofNat_Int, hi1]
      | some L =>
       rw [hsr] at hsf
       have hall := fsTo_hit hno (show i < st.length by omega) hsf
       simp (decide := true) (maxSteps := 4000000) only [go_sem, Nat.reduceAdd, Nat.reduceSub, Nat.reduceMul, Nat.reduceDiv, Nat.reduceMod, Nat.reduceLT, Nat.reduceLeDiff, Nat.reduceEqDiff, Nat.reduceBEq, Nat.reduceBNe, Nat.reduceGT, Int.reduceAdd, Int.reduceSub, Int.reduceMul, Int.reduceNeg, Int.reduceLT, Int.reduceLE, Int.reduceEq, Int.reduceNe, Int.reduceBEq, Int.reduceBNe, Int.reduceToNat, Int.reduceGT, Int.reduceGE, ↓reduceIte, decide_true, decide_false, eq_self, Nat.mul_one, Nat.zero_mul, Nat.one_mul, Int.le_refl, Nat.le_refl, Int.cast_ofNat_Int, htk, hil, hroom, allO_t1, gChoose, hun, List.length_append, chH, noTn, hsr, resT, hmE, h2E, hii]
       try (refine hQ1 _ _ ?_)
       try simp (decide := true) (maxSteps := 4000000) only [go_sem, Nat.reduceAdd, Nat.reduceSub, Nat.reduceMul, Nat.reduceDiv, Nat.reduceMod, Nat.reduceLT, Nat.reduceLeDiff, Nat.reduceEqDiff, Nat.reduceBEq, Nat.reduceBNe, Nat.reduceGT, Int.reduceAdd, Int.reduceSub, Int.reduceMul, Int.reduceNeg, Int.reduceLT, Int.reduceLE, Int.reduceEq, Int.reduceNe, Int.reduceBEq, Int.reduceBNe, Int.reduceToNat, Int.reduceGT, Int.reduceGE, ↓reduceIte, decide_true, decide_false, eq_self, Nat.mul_one, Nat.zero_mul, Nat.one_mul, Int.le_refl, Nat.le_refl, Int.cast_ofNat_Int]
       rw [hall]
       first | exact ⟨_, rfl, rfl⟩ | exact ⟨_, rfl, rfl, rfl, rfl, rfl, rfl⟩
   ·have hie : i = st.length := by omega
    subst hie
    simp (decide := true) (maxSteps := 4000000) only [go_sem, Nat.reduceAdd, Nat.reduceSub, Nat.reduceMul, Nat.reduceDiv, Nat.reduceMod, Nat.reduceLT, Nat.reduceLeDiff, Nat.reduceEqDiff, Nat.reduceBEq, Nat.reduceBNe, Nat.reduceGT, Int.reduceAdd, Int.reduceSub, Int.reduceMul, Int.reduceNeg, Int.reduceLT, Int.reduceLE, Int.reduceEq, Int.reduceNe, Int.reduceBEq, Int.reduceBNe, Int.reduceToNat, Int.reduceGT, Int.reduceGE, ↓reduceIte, decide_true, decide_false, eq_self, Nat.mul_one, Nat.zero_mul, Nat.one_mul, Int.le_refl, Nat.le_refl, Int.cast_ofNat_Int, hlt]
    refine hQ1 _ _ ?_
    simp (decide := true) (maxSteps := 4000000) only [go_sem, Nat.reduceAdd, Nat.reduceSub, Nat.reduceMul, Nat.reduceDiv, Nat.reduceMod, Nat.reduceLT, Nat.reduceLeDiff, Nat.reduceEqDiff, Nat.reduceBEq, Nat.reduceBNe, Nat.reduceGT, Int.reduceAdd, Int.reduceSub, Int.reduceMul, Int.reduceNeg, Int.reduceLT, Int.reduceLE, Int.reduceEq, Int.reduceNe, Int.reduceBEq, Int.reduceBNe, Int.reduceToNat, Int.reduceGT, Int.reduceGE, ↓reduceIte, decide_true, decide_false, eq_self, Nat.mul_one, Nat.zero_mul, Nat.one_mul, Int.le_refl, Nat.le_refl, Int.cast_ofNat_Int]
    rw [hno]
    first | exact ⟨_, rfl, rfl⟩ | exact ⟨_, rfl, rfl, rfl, rfl, rfl, rfl⟩
theorem choose_all {st : List Int} (full : Bool) {p q : Int} {f : TV → Option TV} (hs10 : st.length ≤ 10) (hf : ∀ i : Nat, i < st.length → f (.int .i64 i) = some (.int .i64 (nthI st i)))
  (hst : ∀ i : Int, 0 ≤ i → i < st.length → 0 ≤ nthI st i ∧ nthI st i ≤ 200) (hp : 0 ≤ p ∧ p ≤ 100000) (hq : 0 ≤ q ∧ q ≤ 100000) : ∀ d, ChooseC st full p q f d
 | 0 => choose_zero full hf hst hp hq
 | d + 1 => choose_succ full hs10 (choose_all full hs10 hf hst hp hq d)
open Classical in
noncomputable def gChoose0 (st : List Int) : List PV → List PO → Option (PV × List PO)
 | [.t .nilSl, .t (.int .i64 m), .ptr 0 0, .ptr 1 0, .ptr 2 0, .ptr 3 0], [.box [.fnc F [4, 5, 6]], .box [.t (.int .i64 a), .t (.int .i64 b), .t (.int .i64 c), .t (.int .i64 d)], .box [.t (.sl cs n full)], .box [.fnc G [0, 1, 2, 3]], .box [.t (.int .i64 q)], .box [.t (.int .i64 p)], .box [.mapr 7], .mp tt f] =>
  if (F = 110 ∧ G = 111 ∧ cs = ints st ∧ n = st.length ∧ tt = 202) ∧ (a = -1 ∧ b = -1 ∧ c = -1 ∧ d = -1) ∧ (∀ i : Nat, i < st.length → f (.int .i64 i) = some (.int .i64 (nthI st i))) ∧ ((0 ≤ p ∧ p ≤ 100000) ∧ 0 ≤ q ∧ q ≤ 100000) ∧ (m = 2 ∨ m = 4) then
   some (.t (.bool (srch st p q m.toNat []).isSome), chH st full p q f (resT (srch st p q m.toNat []))) else none
 | _, _ => none
theorem gChoose0_ok {st : List Int} (hs10 : st.length ≤ 10) (hst : ∀ i : Int, 0 ≤ i → i < st.length → 0 ≤ nthI st i ∧ nthI st i ≤ 200) : ∀ xs hl r hl', gChoose0 st xs hl = some (r, hl') → HCalls Tryd.prog 111 xs (getL hl) r (getL hl') := by
 intro xs hl r hl' hg
 unfold gChoose0 at hg
 split at hg
 ·split at hg
  ·rename_i hc
   simp only [Option.some.injEq, Prod.mk.injEq] at hg
   obtain ⟨rfl, rfl⟩ := hg
   obtain ⟨⟨rfl, rfl, rfl, rfl, rfl⟩, ⟨rfl, rfl, rfl, rfl⟩, h1, h2, h3⟩ := hc
   rcases h3 with rfl | rfl
   ·exact choose_all _ hs10 h1 hst h2.1 h2.2 2 [] .nilSl 2 (.inl ⟨rfl, rfl⟩) rfl (.inl rfl) rfl
   ·exact choose_all _ hs10 h1 hst h2.1 h2.2 4 [] .nilSl 4 (.inl ⟨rfl, rfl⟩) rfl (.inr rfl) rfl
  ·cases hg
 ·cases hg
theorem nthI_ofE {l : List Int} {c : Int} (h1 : 0 ≤ c) (h2 : c < l.length) : l[c.toNat]? = some (nthI l c) := by
 obtain ⟨x, hx⟩ := get_lt (l := l) (k := c.toNat) (by omega)
 have hn : nthI l c = x := by have := nthI_at hx; rwa [Int.toNat_of_nonneg h1] at this
 rw [hn]; exact hx
theorem iTrain_c {st : List Int} (full : Bool) (hok : stockOk1 st = true) {p q : Int} (hp : 0 ≤ p ∧ p ≤ 100000) (hq : 0 ≤ q ∧ q ≤ 100000) : PCalls Tryd.prog 62 [.sl (ints st) st.length full, .int .i64 p, .int .i64 q] ((trainP st p q).getD noTn).tv := by
 have hok' := stockOk1_iff.1 hok
 have hst : ∀ i : Int, 0 ≤ i → i < st.length → 0 ≤ nthI st i ∧ nthI st i ≤ 200 := fun i h1 h2 => by
  have := hok'.2 _ (List.mem_of_getElem? (nthI_ofE h1 h2)); omega
 refine pcalls_by Tryd.mixes (Spec.oneH_ok (gChoose0_ok (by omega) hst) noSpec_ok) (fn := Tryd.f62) Tryd.func62 rfl (by kernel_rfl) (by show 3 ≤ _; decide) ?_
 simp (decide := true) (maxSteps := 4000000) only [go_sem, Nat.reduceAdd, Nat.reduceSub, Nat.reduceMul, Nat.reduceDiv, Nat.reduceMod, Nat.reduceLT, Nat.reduceLeDiff, Nat.reduceEqDiff, Nat.reduceBEq, Nat.reduceBNe, Nat.reduceGT, Int.reduceAdd, Int.reduceSub, Int.reduceMul, Int.reduceNeg, Int.reduceLT, Int.reduceLE, Int.reduceEq, Int.reduceNe, Int.reduceBEq, Int.reduceBNe, Int.reduceToNat, Int.reduceGT, Int.reduceGE, ↓reduceIte, decide_true, decide_false, eq_self, Nat.mul_one, Nat.zero_mul, Nat.one_mul, Int.le_refl, Nat.le_refl, Int.cast_ofNat_Int, Tryd.f62]
 refine pwpC_loopU (A := { k : Nat // k ≤ st.length }) [3, 4, 5, 6, 7, 14, 15] (fun k => [(16, .t (.int .i64 k.1))]) (fun k => [(4, .mp 202 (tMap st k.1))]) (fun k => st.length - k.1) ⟨0, by omega⟩ (by decide) (fun _ => by rfl) ?_ fun Q1 hQ1 ⟨k, hk⟩ I1 hI1 => ?_
 ·simp (decide := true) (maxSteps := 4000000) only [go_sem, Nat.reduceAdd, Nat.reduceSub, Nat.reduceMul, Nat.reduceDiv, Nat.reduceMod, Nat.reduceLT, Nat.reduceLeDiff, Nat.reduceEqDiff, Nat.reduceBEq, Nat.reduceBNe, Nat.reduceGT, Int.reduceAdd, Int.reduceSub, Int.reduceMul, Int.reduceNeg, Int.reduceLT, Int.reduceLE, Int.reduceEq, Int.reduceNe, Int.reduceBEq, Int.reduceBNe, Int.reduceToNat, Int.reduceGT, Int.reduceGE, ↓reduceIte, decide_true, decide_false, eq_self, Nat.mul_one, Nat.zero_mul, Nat.one_mul, Int.le_refl, Nat.le_refl, Int.cast_ofNat_Int, tMap, List.range_zero, List.foldl_nil]
 ·by_cases hlt : (k : Int) < st.length
  ·obtain ⟨x, hx⟩ := get_lt hlt
   have hd := ints_at hx
   rw [Nat.mul_one] at hd
   have hnx := nthI_at hx
   have hc1 : IntKind.i64.wrap (k + 1) = ((k + 1 : Nat) : Int) := by rw [wrap_in (by omega) (by omega)]; omega
   simp (decide := true) (maxSteps := 4000000) only [go_sem, Nat.reduceAdd, Nat.reduceSub, Nat.reduceMul, Nat.reduceDiv, Nat.reduceMod, Nat.reduceLT, Nat.reduceLeDiff, Nat.reduceEqDiff, Nat.reduceBEq, Nat.reduceBNe, Nat.reduceGT, Int.reduceAdd, Int.reduceSub, Int.reduceMul, Int.reduceNeg, Int.reduceLT, Int.reduceLE, Int.reduceEq, Int.reduceNe, Int.reduceBEq, Int.reduceBNe, Int.reduceToNat, Int.reduceGT, Int.reduceGE, ↓reduceIte, decide_true, decide_false, eq_self, Nat.mul_one, Nat.zero_mul, Nat.one_mul, Int.le_refl, Nat.le_refl, Int.cast_ofNat_Int, hlt, hd]
   refine hI1 _ ⟨k + 1, by omega⟩ (by simp only; omega) ?_
   simp (decide := true) (maxSteps := 4000000) only [go_sem, Nat.reduceAdd, Nat.reduceSub, Nat.reduceMul, Nat.reduceDiv, Nat.reduceMod, Nat.reduceLT, Nat.reduceLeDiff, Nat.reduceEqDiff, Nat.reduceBEq, Nat.reduceBNe, Nat.reduceGT, Int.reduceAdd, Int.reduceSub, Int.reduceMul, Int.reduceNeg, Int.reduceLT, Int.reduceLE, Int.reduceEq, Int.reduceNe, Int.reduceBEq, Int.reduceBNe, Int.reduceToNat, Int.reduceGT, Int.reduceGE, ↓reduceIte, decide_true, decide_false, eq_self, Nat.mul_one, Nat.zero_mul, Nat.one_mul, Int.le_refl, Nat.le_refl, Int.cast_ofNat_Int, hc1, tMap_succ, hnx]
  ·have hke : k = st.length := by omega
   subst hke
   have hM : (∀ i : Nat, i < st.length → tMap st st.length (.int .i64 i) = some (.int .i64 (nthI st i))) = True := eq_true fun i hi => tMap_at st hi
   have e2 : Int.toNat 2 = 2 := rfl
   have e4 : Int.toNat 4 = 4 := rfl
   have htr : trainP st p q = match srch st p q 2 [] with | some l => some (tnOf l) | none => (srch st p q 4 []).map tnOf := rfl
   simp (decide := true) (maxSteps := 4000000) only [go_sem, Nat.reduceAdd, Nat.reduceSub, Nat.reduceMul, Nat.reduceDiv, Nat.reduceMod, Nat.reduceLT, Nat.reduceLeDiff, Nat.reduceEqDiff, Nat.reduceBEq, Nat.reduceBNe, Nat.reduceGT, Int.reduceAdd, Int.reduceSub, Int.reduceMul, Int.reduceNeg, Int.reduceLT, Int.reduceLE, Int.reduceEq, Int.reduceNe, Int.reduceBEq, Int.reduceBNe, Int.reduceToNat, Int.reduceGT, Int.reduceGE, ↓reduceIte, decide_true, decide_false, eq_self, Nat.mul_one, Nat.zero_mul, Nat.one_mul, Int.le_refl, Nat.le_refl, Int.cast_ofNat_Int, hlt]
   refine hQ1 _ _ ?_
   cases h2 : srch st p q 2 [] with
   | some L =>
    rw [h2] at htr
    simp (decide := true) (maxSteps := 4000000) only [go_sem, Nat.reduceAdd, Nat.reduceSub, Nat.reduceMul, Nat.reduceDiv, Nat.reduceMod, Nat.reduceLT, Nat.reduceLeDiff, Nat.reduceEqDiff, Nat.reduceBEq, Nat.reduceBNe, Nat.reduceGT, Int.reduceAdd, Int.reduceSub, Int.reduceMul, Int.reduceNeg, Int.reduceLT, Int.reduceLE, Int.reduceEq, Int.reduceNe, Int.reduceBEq, Int.reduceBNe, Int.reduceToNat, Int.reduceGT, Int.reduceGE, ↓reduceIte, decide_true, decide_false, eq_self, Nat.mul_one, Nat.zero_mul, Nat.one_mul, Int.le_refl, Nat.le_refl, Int.cast_ofNat_Int, gChoose0, hM, hp, hq, e2, h2, chH, resT, htr, Tn.tv, Tn.cs]
   | none =>
    rw [h2] at htr
    cases h4 : srch st p q 4 [] with
    | some L =>
     rw [h4] at htr
     simp (decide := true) (maxSteps := 4000000) only [go_sem, Nat.reduceAdd, Nat.reduceSub, Nat.reduceMul, Nat.reduceDiv, Nat.reduceMod, Nat.reduceLT, Nat.reduceLeDiff, Nat.reduceEqDiff, Nat.reduceBEq, Nat.reduceBNe, Nat.reduceGT, Int.reduceAdd, Int.reduceSub, Int.reduceMul, Int.reduceNeg, Int.reduceLT, Int.reduceLE, Int.reduceEq, Int.reduceNe, Int.reduceBEq, Int.reduceBNe, Int.reduceToNat, Int.reduceGT, Int.reduceGE, ↓reduceIte, decide_true, decide_false, eq_self, Nat.mul_one, Nat.zero_mul, Nat.one_mul, Int.le_refl, Nat.le_refl, Int.cast_ofNat_Int, gChoose0, hM, hp, hq, e2, e4, h2, h4, chH, resT, noTn, htr, Tn.tv, Tn.cs]
    | none =>
     rw [h4] at htr
     simp (decide := true) (maxSteps := 4000000) only [go_sem, Nat.reduceAdd, Nat.reduceSub, Nat.reduceMul, Nat.reduceDiv, Nat.reduceMod, Nat.reduceLT, Nat.reduceLeDiff, Nat.reduceEqDiff, Nat.reduceBEq, Nat.reduceBNe, Nat.reduceGT, Int.reduceAdd, Int.reduceSub, Int.reduceMul, Int.reduceNeg, Int.reduceLT, Int.reduceLE, Int.reduceEq, Int.reduceNe, Int.reduceBEq, Int.reduceBNe, Int.reduceToNat, Int.reduceGT, Int.reduceGE, ↓reduceIte, decide_true, decide_false, eq_self, Nat.mul_one, Nat.zero_mul, Nat.one_mul, Int.le_refl, Nat.le_refl, Int.cast_ofNat_Int, gChoose0, hM, hp, hq, e2, e4, h2, h4, chH, resT, noTn, htr, Tn.tv, Tn.cs]
end Go.Proofs.YtlonlnfenbadbaaDoor.Ix

/- Part Io. -/
namespace Go.Oc.Ix
end Go.Oc.Ix
namespace Go.Proofs.YtlonlnfenbadbaaDoor.Ix
end Go.Proofs.YtlonlnfenbadbaaDoor.Ix
namespace Go.Proofs.YtlonlnfenbadbaaDoor.Ix
open Go.RowKit Go.Pm Go.Oc Go.Oc.Ix
set_option maxRecDepth 100000
set_option linter.unusedVariables false

theorem ix_glob {w : World} (h : laidMetH Tryd.prog [("octant/index.noTrain", Rows.laid_octant_index_noTrain)] w) : GlobOk (allF w) := by
 rw [MakeChecks.laidMetH_plain _ _ _ (by kernel_rfl)] at h
 have hr := glob_ints (P := Tryd.prog) (name := "octant/index.noTrain") (ns := [-1, -1, -1, -1]) (w := w) h (g := 0) (t := 27) (e := 3) (by kernel_rfl) (by kernel_rfl) Tryd.underlying27 (by kernel_rfl) (by kernel_rfl) (by kernel_rfl) (by kernel_rfl) (by kernel_rfl)
 intro g cs hc
 match g, hc with
 | 0, hc =>
  have e : cs = [.int .i64 (-1), .int .i64 (-1), .int .i64 (-1), .int .i64 (-1)] := (Option.some.inj (show some _ = some cs from hc)).symm
  rw [e]; exact hr
 | g + 1, hc => cases hc
theorem ix_met (os : Os) (args : Array Value) : laidMetH Tryd.prog [("octant/index.noTrain", Rows.laid_octant_index_noTrain)] ((World.doorLaid Tryd.prog 14 os).forCall (fun _ _ => 0) ⟨#[], args, []⟩).memory :=
 laidMetH_of_parts3 (fuel := 8) (laidMet_of_run' 8 (by kernel_rfl) (by kernel_rfl)) (by kernel_rfl) (by kernel_rfl)
theorem ix_shaped (os : Os) (args : Array Value) : ((World.doorLaid Tryd.prog 14 os).forCall (fun _ _ => 0) ⟨#[], args, []⟩).Shaped Tryd.prog := World.shaped_of_RefB (by kernel_rfl) (by kernel_rfl)
end Go.Proofs.YtlonlnfenbadbaaDoor.Ix

/- Part Iq. -/
namespace Go.Oc.Ix
end Go.Oc.Ix
namespace Go.Proofs.YtlonlnfenbadbaaDoor.Ix
end Go.Proofs.YtlonlnfenbadbaaDoor.Ix
namespace Go.Oc.Ix
open Go Go.Pm
set_option maxRecDepth 100000
set_option linter.unusedVariables false
theorem train_some {st : List Int} {p q : Int} {t : Tn} (h : trainP st p q = some t) :
  (∃ a b : Nat, a < st.length ∧ b < st.length ∧ a ≠ b ∧ nthI st a * q = nthI st b * p ∧ t = ⟨a, b, -1, -1⟩) ∨
  ((∀ a b : Nat, a < st.length → b < st.length → a ≠ b → nthI st a * q ≠ nthI st b * p) ∧ ∃ a b c d : Nat, (a < st.length ∧ b < st.length ∧ c < st.length ∧ d < st.length) ∧ (a ≠ b ∧ a ≠ c ∧ a ≠ d ∧ b ≠ c ∧ b ≠ d ∧ c ≠ d) ∧ nthI st a * nthI st c * q = nthI st b * nthI st d * p ∧ t = ⟨a, b, c, d⟩) := by
 rw [← train_ref] at h
 unfold trainR at h
 cases h2 : fsTo (fun a => fsTo (r2 st p q a) st.length) st.length with
 | some t' =>
  rw [h2] at h; cases h
  obtain ⟨a, ha, _, h2⟩ := fsTo_some h2
  obtain ⟨b, hb, _, h2⟩ := fsTo_some h2
  unfold r2 at h2
  split at h2
  ·rename_i hc; cases h2; exact .inl ⟨a, b, ha, hb, hc.1, hc.2, rfl⟩
  ·cases h2
 | none =>
  rw [h2] at h
  right
  constructor
  ·intro a b ha hb hab he
   have := fsTo_none.1 (fsTo_none.1 h2 a ha) b hb
   unfold r2 at this
   rw [if_pos ⟨hab, he⟩] at this; cases this
  ·obtain ⟨a, ha, _, h⟩ := fsTo_some h
   obtain ⟨b, hb, _, h⟩ := fsTo_some h
   obtain ⟨c, hc, _, h⟩ := fsTo_some h
   obtain ⟨d, hd, _, h⟩ := fsTo_some h
   unfold r4 at h
   split at h
   ·rename_i hx; cases h; exact ⟨a, b, c, d, ⟨ha, hb, hc, hd⟩, hx.1, hx.2, rfl⟩
   ·cases h
end Go.Oc.Ix

/- Part Lp. -/
namespace Go.Oc.Lv
end Go.Oc.Lv
namespace Go.Proofs.YtlonlnfenbadbaaDoor.Lv
end Go.Proofs.YtlonlnfenbadbaaDoor.Lv
namespace Go.Oc.Lv
open Go Go.Pm

structure Vial where
 marks : Int
 l0 : Int
 l1 : Int
 v0 : Int
 v1 : Int
 z0 : Int
 z1 : Int
 wr : Int
 deriving DecidableEq
def Vial.cs (v : Vial) : List TV := [.int .i64 v.marks, .int .i64 v.l0, .int .i64 v.l1, .int .i64 v.v0, .int .i64 v.v1, .int .i64 v.z0, .int .i64 v.z1, .int .i64 v.wr]
def Vial.t (v : Vial) : TV := .agg v.cs
def Vial.ok (v : Vial) : Bool := inB v.marks 10 200 && spannedB ⟨v.l0, v.l1⟩ 1 v.marks && spannedB ⟨v.v0, v.v1⟩ 1 500 && spannedB ⟨v.z0, v.z1⟩ 0 (2 * v.marks) && inB v.wr 0 8
theorem Vial.ok_iff {v : Vial} : v.ok = true ↔ (10 ≤ v.marks ∧ v.marks ≤ 200) ∧ (1 ≤ v.l0 ∧ v.l0 ≤ v.l1 ∧ v.l1 ≤ v.marks) ∧ (1 ≤ v.v0 ∧ v.v0 ≤ v.v1 ∧ v.v1 ≤ 500) ∧ (0 ≤ v.z0 ∧ v.z0 ≤ v.z1 ∧ v.z1 ≤ 2 * v.marks) ∧ 0 ≤ v.wr ∧ v.wr ≤ 8 := by
 simp only [Vial.ok, inB, spannedB, Bool.and_eq_true, decide_eq_true_eq]
 constructor
 ·rintro ⟨⟨⟨⟨a, b, c⟩, d, e⟩, f, g⟩, h⟩; simp_all
 ·rintro ⟨a, b, c, d, e⟩; simp_all

structure Rd where
 left : Int
 right : Int
 turned : Bool
 deriving DecidableEq
def Rd.cs (r : Rd) : List TV := [.int .i64 r.left, .int .i64 r.right, .bool r.turned]
def unRds : List TV → Option (List Rd)
 | [] => some []
 | .int .i64 a :: .int .i64 b :: .bool c :: r => (unRds r).map (⟨a, b, c⟩ :: ·)
 | _ => none
theorem unRds_eq : ∀ l : List Rd, unRds (l.flatMap Rd.cs) = some l
 | [] => rfl
 | x :: l => by simp [Rd.cs, unRds, unRds_eq l]
theorem unRds_some : ∀ {cs : List TV} {l : List Rd}, unRds cs = some l → cs = l.flatMap Rd.cs := by
 intro cs
 induction cs using unRds.induct with
 | case1 => intro l h; simp [unRds] at h; subst h; rfl
 | case2 a b c r ih =>
  intro l h
  simp only [unRds, Option.map_eq_some_iff] at h
  obtain ⟨l', h1, rfl⟩ := h
  rw [ih h1]; rfl
 | case3 r h1 h2 =>
  intro l h
  unfold unRds at h
  split at h
  ·exact absurd rfl h1
  ·exact absurd rfl (h2 _ _ _ _)
  ·cases h
attribute [go_sem] unRds_eq
structure Mk where
 at' : Int
 tu : Bool
 deriving DecidableEq
def Mk.cs (m : Mk) : List TV := [.int .i64 m.at', .bool m.tu]

def rdOk (v : Vial) (x : Rd) : Bool := inB x.left 0 v.marks && inB x.right (x.left + 1) v.marks && inB (x.right - x.left) (v.l0 - v.wr) (v.l1 + v.wr)
def rdsOk (v : Vial) (l : List Rd) : Bool := inB l.length 1 8 && l.all (rdOk v)
def mid (r : Rd) : Mk := ⟨r.left + r.right, r.turned⟩
def asked (v : Vial) (l : List Rd) : Int := if v.ok = false then 30 else if rdsOk v l = false then 31 else 0
def mksOk (l : List Mk) : Bool := l.all fun m => inB m.at' 0 400
theorem mksOk_mid {v : Vial} {l : List Rd} (hv : v.ok = true) (h : rdsOk v l = true) : mksOk (l.map mid) = true := by
 simp only [rdsOk, mksOk, Bool.and_eq_true, List.all_eq_true, List.mem_map, forall_exists_index, and_imp, forall_apply_eq_imp_iff₂] at h ⊢
 intro r hr
 have := h.2 r hr
 have hm := (Vial.ok_iff.1 hv).1
 simp only [rdOk, inB, Bool.and_eq_true, decide_eq_true_eq] at this
 show inB (r.left + r.right) 0 400 = true
 rw [inB_iff]; omega

def outM (m : Mk) (z : Int) : Int := if m.tu then z - m.at' else m.at' - z
def inS (w z : Int) (s : Span) (m : Mk) : Span := ⟨max s.lo (outM m z - w), min s.hi (outM m z + w)⟩
def withinS (w : Int) (l : List Mk) (z : Int) : Span := l.foldl (inS w z) ⟨-10000, 10000⟩
theorem withinS_bound {w z : Int} (hw : 0 ≤ w ∧ w ≤ 8) (hz : 0 ≤ z ∧ z ≤ 400) : ∀ {l : List Mk} {s : Span}, mksOk l = true → (-10000 ≤ s.lo ∧ s.lo ≤ 10000 ∧ -10000 ≤ s.hi ∧ s.hi ≤ 10000) →
  -10000 ≤ (l.foldl (inS w z) s).lo ∧ (l.foldl (inS w z) s).lo ≤ 10000 ∧ -10000 ≤ (l.foldl (inS w z) s).hi ∧ (l.foldl (inS w z) s).hi ≤ 10000
 | [], _, _, h => h
 | m :: l, s, h, hs => by
  simp only [mksOk, List.all_cons, Bool.and_eq_true, inB, decide_eq_true_eq] at h
  refine withinS_bound hw hz (l := l) h.2 ?_
  simp only [inS, outM]
  split <;> omega

def leastP (v : Vial) (lo : Int) : Int := min (lo * v.v0) (lo * v.v1)
def mostP (v : Vial) (hi : Int) : Int := max (hi * v.v0) (hi * v.v1)
def zerosOf (v : Vial) (l : List Mk) (zs : List Int) : List (Int × Span) := zs.filterMap fun z => let s := withinS v.wr l z; if s.lo ≤ s.hi then some (z, s) else none
def range (a : Int) (n : Nat) : List Int := (List.range n).map fun (k : Nat) => a + (k : Int)
def allZ (v : Vial) : List Int := range v.z0 (v.z1 - v.z0 + 1).toNat
structure TZ where
 tilt : Span
 zero : Span
 is : Bool
 deriving DecidableEq
def TZ.t (x : TZ) : TV := .tup [x.tilt.t, x.zero.t, .bool x.is]
def tiltStep (v : Vial) (x : TZ) (y : Int × Span) : TZ :=
 if x.is then ⟨⟨min x.tilt.lo (leastP v y.2.lo), max x.tilt.hi (mostP v y.2.hi)⟩, ⟨x.zero.lo, y.1⟩, true⟩
 else ⟨⟨leastP v y.2.lo, mostP v y.2.hi⟩, ⟨y.1, y.1⟩, true⟩
def tiltsOf (v : Vial) (xs : List (Int × Span)) : TZ := xs.foldl (tiltStep v) ⟨⟨0, 0⟩, ⟨0, 0⟩, false⟩
def tilts (v : Vial) (l : List Mk) : TZ := tiltsOf v (zerosOf v l (allZ v))

theorem range_succ (a : Int) (n : Nat) : range a (n + 1) = range a n ++ [a + n] := by simp [range, List.range_succ]
def foundZ (v : Vial) (l : List Mk) (z : Int) : List (Int × Span) := if (withinS v.wr l z).lo ≤ (withinS v.wr l z).hi then [(z, withinS v.wr l z)] else []
theorem zerosOf_snoc (v : Vial) (l : List Mk) (zs : List Int) (z : Int) : zerosOf v l (zs ++ [z]) = zerosOf v l zs ++ foundZ v l z := by
 unfold zerosOf foundZ
 rw [List.filterMap_append]
 congr 1
 simp only [List.filterMap_cons, List.filterMap_nil]
 split <;> rename_i h <;> split at h <;> simp_all
theorem mulB {a b : Int} (ha : -10000 ≤ a ∧ a ≤ 10000) (hb : 0 ≤ b ∧ b ≤ 500) : -5000000 ≤ a * b ∧ a * b ≤ 5000000 := by
 have h1 := Int.mul_le_mul_of_nonneg_right ha.1 hb.1
 have h2 := Int.mul_le_mul_of_nonneg_right ha.2 hb.1
 omega
theorem least_most {v : Vial} (hv : v.ok = true) {lo hi : Int} (h : lo ≤ hi) : leastP v lo ≤ mostP v hi := by
 have hv' := Vial.ok_iff.1 hv
 have := Int.mul_le_mul_of_nonneg_right (c := v.v0) h (by omega)
 unfold leastP mostP; omega
theorem rdsOk_len {v : Vial} {l : List Rd} (h : rdsOk v l = true) : 1 ≤ l.length ∧ l.length ≤ 8 := by
 simp only [rdsOk, inB, Bool.and_eq_true, decide_eq_true_eq] at h; omega
theorem asked_zero {v : Vial} {l : List Rd} (h : asked v l = 0) : v.ok = true ∧ rdsOk v l = true := by
 unfold asked at h
 cases hv : v.ok <;> cases hr : rdsOk v l <;> simp [hv, hr] at h ⊢
structure TE where
 tilt : Span
 zero : Span
 e : Int
 deriving DecidableEq
def TE.t (x : TE) : TV := .tup [x.tilt.t, x.zero.t, .int .i64 x.e]
def tiltR (v : Vial) (l : List Rd) : TE :=
 if asked v l = 0 then (if (tilts v (l.map mid)).is then ⟨(tilts v (l.map mid)).tilt, (tilts v (l.map mid)).zero, 0⟩ else ⟨⟨0, 0⟩, ⟨0, 0⟩, 33⟩)
 else ⟨⟨0, 0⟩, ⟨0, 0⟩, asked v l⟩
end Go.Oc.Lv

/- Part Lu. -/
namespace Go.Oc.Lv
end Go.Oc.Lv
namespace Go.Proofs.YtlonlnfenbadbaaDoor.Lv
end Go.Proofs.YtlonlnfenbadbaaDoor.Lv
namespace Go.Proofs.YtlonlnfenbadbaaDoor.Lv
open Go.RowKit Go.Pm Go.Oc Go.Oc.Lv
set_option maxRecDepth 100000
set_option linter.unusedVariables false
set_option maxHeartbeats 1000000

def Mk.al (m : Mk) : TV := .ifc 210 (.agg [.int .i64 m.at', .fn (if m.tu then 154 else 153) [] []])
def Mk.als (m : Mk) : List TV := [Mk.al m]
def unAls : List TV → Option (List Mk)
 | [] => some []
 | .ifc 210 (.agg [.int .i64 a, .fn 153 [] []]) :: r => (unAls r).map (⟨a, false⟩ :: ·)
 | .ifc 210 (.agg [.int .i64 a, .fn 154 [] []]) :: r => (unAls r).map (⟨a, true⟩ :: ·)
 | _ => none
theorem unAls_eq : ∀ l : List Mk, unAls (l.flatMap Mk.als) = some l
 | [] => rfl
 | ⟨a, tu⟩ :: l => by cases tu <;> simp [Mk.als, Mk.al, unAls, unAls_eq l]
theorem unAls_some : ∀ {cs : List TV} {l : List Mk}, unAls cs = some l → cs = l.flatMap Mk.als := by
 intro cs
 induction cs using unAls.induct with
 | case1 => intro l h; simp [unAls] at h; subst h; rfl
 | case2 a r ih =>
  intro l h
  simp only [unAls, Option.map_eq_some_iff] at h
  obtain ⟨l', h1, rfl⟩ := h
  rw [ih h1]; rfl
 | case3 a r ih =>
  intro l h
  simp only [unAls, Option.map_eq_some_iff] at h
  obtain ⟨l', h1, rfl⟩ := h
  rw [ih h1]; rfl
 | case4 r h1 h2 h3 =>
  intro l h
  unfold unAls at h
  split at h
  ·exact absurd rfl h1
  ·exact absurd rfl (h2 _ _)
  ·exact absurd rfl (h3 _ _)
  ·cases h
attribute [go_sem] unAls_eq
theorem lWithin_c (n lo hi : Int) : PCalls Tryd.prog 73 [.int .i64 n, .int .i64 lo, .int .i64 hi] (.bool (inB n lo hi)) := by
 refine pcalls_by Tryd.mixes noSpec_ok (fn := Tryd.f73) Tryd.func73 rfl (by kernel_rfl) (by show 3 ≤ _; decide) ?_
 simp (decide := true) (maxSteps := 4000000) only [go_sem, Nat.reduceAdd, Nat.reduceSub, Nat.reduceMul, Nat.reduceDiv, Nat.reduceMod, Nat.reduceLT, Nat.reduceLeDiff, Nat.reduceEqDiff, Nat.reduceBEq, Nat.reduceBNe, Nat.reduceGT, Int.reduceAdd, Int.reduceSub, Int.reduceMul, Int.reduceNeg, Int.reduceLT, Int.reduceLE, Int.reduceEq, Int.reduceNe, Int.reduceBEq, Int.reduceBNe, Int.reduceToNat, Int.reduceGT, Int.reduceGE, ↓reduceIte, decide_true, decide_false, Tryd.f73, inB]
theorem lSpanned_c (s : Span) (lo hi : Int) : PCalls Tryd.prog 75 [s.t, .int .i64 lo, .int .i64 hi] (.bool (spannedB s lo hi)) := by
 refine pcalls_by Tryd.mixes noSpec_ok (fn := Tryd.f75) Tryd.func75 rfl (by kernel_rfl) (by show 3 ≤ _; decide) ?_
 simp (decide := true) (maxSteps := 4000000) only [go_sem, Nat.reduceAdd, Nat.reduceSub, Nat.reduceMul, Nat.reduceDiv, Nat.reduceMod, Nat.reduceLT, Nat.reduceLeDiff, Nat.reduceEqDiff, Nat.reduceBEq, Nat.reduceBNe, Nat.reduceGT, Int.reduceAdd, Int.reduceSub, Int.reduceMul, Int.reduceNeg, Int.reduceLT, Int.reduceLE, Int.reduceEq, Int.reduceNe, Int.reduceBEq, Int.reduceBNe, Int.reduceToNat, Int.reduceGT, Int.reduceGE, ↓reduceIte, decide_true, decide_false, Tryd.f75, Span.t, Span.cs, spannedB]
theorem lMarked1_c (m z : Int) : PCalls Tryd.prog 153 [.int .i64 m, .int .i64 z] (.int .i64 (IntKind.i64.wrap (m - z))) := by
 refine pcalls_by Tryd.mixes noSpec_ok (fn := Tryd.f153) Tryd.func153 rfl (by kernel_rfl) (by show 2 ≤ _; decide) ?_
 simp (decide := true) (maxSteps := 4000000) only [go_sem, Nat.reduceAdd, Nat.reduceSub, Nat.reduceMul, Nat.reduceDiv, Nat.reduceMod, Nat.reduceLT, Nat.reduceLeDiff, Nat.reduceEqDiff, Nat.reduceBEq, Nat.reduceBNe, Nat.reduceGT, Int.reduceAdd, Int.reduceSub, Int.reduceMul, Int.reduceNeg, Int.reduceLT, Int.reduceLE, Int.reduceEq, Int.reduceNe, Int.reduceBEq, Int.reduceBNe, Int.reduceToNat, Int.reduceGT, Int.reduceGE, ↓reduceIte, decide_true, decide_false, Tryd.f153]
theorem lMarked2_c (m z : Int) : PCalls Tryd.prog 154 [.int .i64 m, .int .i64 z] (.int .i64 (IntKind.i64.wrap (z - m))) := by
 refine pcalls_by Tryd.mixes noSpec_ok (fn := Tryd.f154) Tryd.func154 rfl (by kernel_rfl) (by show 2 ≤ _; decide) ?_
 simp (decide := true) (maxSteps := 4000000) only [go_sem, Nat.reduceAdd, Nat.reduceSub, Nat.reduceMul, Nat.reduceDiv, Nat.reduceMod, Nat.reduceLT, Nat.reduceLeDiff, Nat.reduceEqDiff, Nat.reduceBEq, Nat.reduceBNe, Nat.reduceGT, Int.reduceAdd, Int.reduceSub, Int.reduceMul, Int.reduceNeg, Int.reduceLT, Int.reduceLE, Int.reduceEq, Int.reduceNe, Int.reduceBEq, Int.reduceBNe, Int.reduceToNat, Int.reduceGT, Int.reduceGE, ↓reduceIte, decide_true, decide_false, Tryd.f154]
theorem lMarked_c (m : Int) (tu : Bool) : PCalls Tryd.prog 121 [.int .i64 m, .bool tu] (.agg [.int .i64 m, .fn (if tu then 154 else 153) [] []]) := by
 refine pcalls_by Tryd.mixes noSpec_ok (fn := Tryd.f121) Tryd.func121 rfl (by kernel_rfl) (by show 2 ≤ _; decide) ?_
 cases tu <;> simp (decide := true) (maxSteps := 4000000) only [go_sem, Nat.reduceAdd, Nat.reduceSub, Nat.reduceMul, Nat.reduceDiv, Nat.reduceMod, Nat.reduceLT, Nat.reduceLeDiff, Nat.reduceEqDiff, Nat.reduceBEq, Nat.reduceBNe, Nat.reduceGT, Int.reduceAdd, Int.reduceSub, Int.reduceMul, Int.reduceNeg, Int.reduceLT, Int.reduceLE, Int.reduceEq, Int.reduceNe, Int.reduceBEq, Int.reduceBNe, Int.reduceToNat, Int.reduceGT, Int.reduceGE, ↓reduceIte, decide_true, decide_false, Tryd.f121]
noncomputable def glWithin : List TV → Option TV
 | [.int .i64 n, .int .i64 a, .int .i64 b] => some (.bool (inB n a b))
 | _ => none
theorem glWithin_ok : ∀ xs r, glWithin xs = some r → PCalls Tryd.prog 73 xs r := by
 intro xs r h
 unfold glWithin at h
 split at h
 ·cases h; exact lWithin_c _ _ _
 ·cases h
attribute [go_sem] glWithin
noncomputable def glSpanned : List TV → Option TV
 | [.agg [.int .i64 x, .int .i64 y], .int .i64 a, .int .i64 b] => some (.bool (spannedB ⟨x, y⟩ a b))
 | _ => none
theorem glSpanned_ok : ∀ xs r, glSpanned xs = some r → PCalls Tryd.prog 75 xs r := by
 intro xs r h
 unfold glSpanned at h
 split at h
 ·cases h; exact lSpanned_c ⟨_, _⟩ _ _
 ·cases h
attribute [go_sem] glSpanned
noncomputable def glMarked1 : List TV → Option TV
 | [.int .i64 m, .int .i64 z] => some (.int .i64 (IntKind.i64.wrap (m - z)))
 | _ => none
theorem glMarked1_ok : ∀ xs r, glMarked1 xs = some r → PCalls Tryd.prog 153 xs r := by
 intro xs r h
 unfold glMarked1 at h
 split at h
 ·cases h; exact lMarked1_c _ _
 ·cases h
attribute [go_sem] glMarked1
noncomputable def glMarked2 : List TV → Option TV
 | [.int .i64 m, .int .i64 z] => some (.int .i64 (IntKind.i64.wrap (z - m)))
 | _ => none
theorem glMarked2_ok : ∀ xs r, glMarked2 xs = some r → PCalls Tryd.prog 154 xs r := by
 intro xs r h
 unfold glMarked2 at h
 split at h
 ·cases h; exact lMarked2_c _ _
 ·cases h
attribute [go_sem] glMarked2
noncomputable def glMarked : List TV → Option TV
 | [.int .i64 m, .bool tu] => some (.agg [.int .i64 m, .fn (if tu then 154 else 153) [] []])
 | _ => none
theorem glMarked_ok : ∀ xs r, glMarked xs = some r → PCalls Tryd.prog 121 xs r := by
 intro xs r h
 unfold glMarked at h
 split at h
 ·cases h; exact lMarked_c _ _
 ·cases h
attribute [go_sem] glMarked
noncomputable def spL1 : Pm.Spec := ((((noSpec.one 73 glWithin).one 75 glSpanned).one 153 glMarked1).one 154 glMarked2).one 121 glMarked
@[go_sem] theorem spL1_p (f : FuncId) (xs : List TV) : spL1.p f xs = Pm.Spec.p (((((noSpec.one 73 glWithin).one 75 glSpanned).one 153 glMarked1).one 154 glMarked2).one 121 glMarked) f xs := rfl
@[go_sem] theorem spL1_h (f : FuncId) (ps : List PV) (hl : List PO) : spL1.h f ps hl = Pm.Spec.h (((((noSpec.one 73 glWithin).one 75 glSpanned).one 153 glMarked1).one 154 glMarked2).one 121 glMarked) f ps hl := rfl
@[go_sem] theorem spL1_y (Y : Pm.YS) (f : FuncId) (ps : List PV) (hl : List PO) : spL1.y Y f ps hl = Pm.Spec.y (((((noSpec.one 73 glWithin).one 75 glSpanned).one 153 glMarked1).one 154 glMarked2).one 121 glMarked) Y f ps hl := rfl
@[go_sem] theorem spL1_fz (f : FuncId) : spL1.fz f = Pm.Spec.fz (((((noSpec.one 73 glWithin).one 75 glSpanned).one 153 glMarked1).one 154 glMarked2).one 121 glMarked) f := rfl
@[go_sem] theorem spL1_fr (f : FuncId) : spL1.fr f = Pm.Spec.fr (((((noSpec.one 73 glWithin).one 75 glSpanned).one 153 glMarked1).one 154 glMarked2).one 121 glMarked) f := rfl
@[go_sem] theorem spL1_yf (f : FuncId) : spL1.yf f = Pm.Spec.yf (((((noSpec.one 73 glWithin).one 75 glSpanned).one 153 glMarked1).one 154 glMarked2).one 121 glMarked) f := rfl
@[go_sem] theorem spL1_gd : spL1.gd = Pm.Spec.gd (((((noSpec.one 73 glWithin).one 75 glSpanned).one 153 glMarked1).one 154 glMarked2).one 121 glMarked) := rfl
@[go_sem] theorem spL1_mu (t : TypeId) : spL1.mu t = Pm.Spec.mu (((((noSpec.one 73 glWithin).one 75 glSpanned).one 153 glMarked1).one 154 glMarked2).one 121 glMarked) t := rfl
@[go_sem] theorem spL1_nf (t : TypeId) : spL1.nf t = Pm.Spec.nf (((((noSpec.one 73 glWithin).one 75 glSpanned).one 153 glMarked1).one 154 glMarked2).one 121 glMarked) t := rfl
theorem spL1_ok : SpecOk Tryd.prog spL1 := Spec.one_ok glMarked_ok (Spec.one_ok glMarked2_ok (Spec.one_ok glMarked1_ok (Spec.one_ok glSpanned_ok (Spec.one_ok glWithin_ok noSpec_ok))))
theorem lBounds_c (m : Mk) (z w : Int) (hm : inB m.at' 0 400 = true) (hz : 0 ≤ z ∧ z ≤ 400) (hw : 0 ≤ w ∧ w ≤ 8) : PCalls Tryd.prog 207 [.agg [.int .i64 m.at', .fn (if m.tu then 154 else 153) [] []], .int .i64 z, .int .i64 w] (.agg [.int .i64 (outM m z - w), .int .i64 (outM m z + w)]) := by
 refine pcalls_by Tryd.mixes spL1_ok (fn := Tryd.f207) Tryd.func207 rfl (by kernel_rfl) (by show 3 ≤ _; decide) ?_
 obtain ⟨a, tu⟩ := m
 have hm' := inB_iff.1 hm
 simp only at hm'
 cases tu <;> simp (decide := true) (maxSteps := 4000000) only [go_sem, Nat.reduceAdd, Nat.reduceSub, Nat.reduceMul, Nat.reduceDiv, Nat.reduceMod, Nat.reduceLT, Nat.reduceLeDiff, Nat.reduceEqDiff, Nat.reduceBEq, Nat.reduceBNe, Nat.reduceGT, Int.reduceAdd, Int.reduceSub, Int.reduceMul, Int.reduceNeg, Int.reduceLT, Int.reduceLE, Int.reduceEq, Int.reduceNe, Int.reduceBEq, Int.reduceBNe, Int.reduceToNat, Int.reduceGT, Int.reduceGE, ↓reduceIte, decide_true, decide_false, Tryd.f207, outM]
 all_goals simp (disch := omega) only [wrap_in, and_self, true_and, and_true]

theorem lCheck_c (v : Vial) : PCalls Tryd.prog 120 [v.t] (.int .i64 (if v.ok then 0 else 30)) := by
 refine pcalls_by Tryd.mixes spL1_ok (fn := Tryd.f120) Tryd.func120 rfl (by kernel_rfl) (by show 1 ≤ _; decide) ?_
 simp (decide := true) (maxSteps := 4000000) only [go_sem, Nat.reduceAdd, Nat.reduceSub, Nat.reduceMul, Nat.reduceDiv, Nat.reduceMod, Nat.reduceLT, Nat.reduceLeDiff, Nat.reduceEqDiff, Nat.reduceBEq, Nat.reduceBNe, Nat.reduceGT, Int.reduceAdd, Int.reduceSub, Int.reduceMul, Int.reduceNeg, Int.reduceLT, Int.reduceLE, Int.reduceEq, Int.reduceNe, Int.reduceBEq, Int.reduceBNe, Int.reduceToNat, Int.reduceGT, Int.reduceGE, ↓reduceIte, decide_true, decide_false, Tryd.f120, Vial.t, Vial.cs]
 cases h1 : inB v.marks 10 200 with
 | false => simp (decide := true) (maxSteps := 4000000) only [go_sem, Nat.reduceAdd, Nat.reduceSub, Nat.reduceMul, Nat.reduceDiv, Nat.reduceMod, Nat.reduceLT, Nat.reduceLeDiff, Nat.reduceEqDiff, Nat.reduceBEq, Nat.reduceBNe, Nat.reduceGT, Int.reduceAdd, Int.reduceSub, Int.reduceMul, Int.reduceNeg, Int.reduceLT, Int.reduceLE, Int.reduceEq, Int.reduceNe, Int.reduceBEq, Int.reduceBNe, Int.reduceToNat, Int.reduceGT, Int.reduceGE, ↓reduceIte, decide_true, decide_false, h1, Vial.ok]
 | true =>
  have h1' := inB_iff.1 h1
  have e : IntKind.i64.wrap (2 * v.marks) = 2 * v.marks := wrap_in (by omega) (by omega)
  cases h2 : spannedB ⟨v.l0, v.l1⟩ 1 v.marks <;> cases h3 : spannedB ⟨v.v0, v.v1⟩ 1 500 <;> cases h4 : spannedB ⟨v.z0, v.z1⟩ 0 (2 * v.marks) <;> cases h5 : inB v.wr 0 8 <;> simp (decide := true) (maxSteps := 4000000) only [go_sem, Nat.reduceAdd, Nat.reduceSub, Nat.reduceMul, Nat.reduceDiv, Nat.reduceMod, Nat.reduceLT, Nat.reduceLeDiff, Nat.reduceEqDiff, Nat.reduceBEq, Nat.reduceBNe, Nat.reduceGT, Int.reduceAdd, Int.reduceSub, Int.reduceMul, Int.reduceNeg, Int.reduceLT, Int.reduceLE, Int.reduceEq, Int.reduceNe, Int.reduceBEq, Int.reduceBNe, Int.reduceToNat, Int.reduceGT, Int.reduceGE, ↓reduceIte, decide_true, decide_false, h1, h2, h3, h4, h5, e, Vial.ok]
noncomputable def glCheck : List TV → Option TV
 | [.agg [.int .i64 m, .int .i64 a, .int .i64 b, .int .i64 c, .int .i64 d, .int .i64 e, .int .i64 f, .int .i64 g]] => some (.int .i64 (if Vial.ok ⟨m, a, b, c, d, e, f, g⟩ then 0 else 30))
 | _ => none
theorem glCheck_ok : ∀ xs r, glCheck xs = some r → PCalls Tryd.prog 120 xs r := by
 intro xs r h
 unfold glCheck at h
 split at h
 ·cases h; exact lCheck_c ⟨_, _, _, _, _, _, _, _⟩
 ·cases h
attribute [go_sem] glCheck
noncomputable def glBounds (xs : List TV) : Option TV := match xs with
 | [.agg [.int .i64 m, .fn 153 [] []], .int .i64 z, .int .i64 w] => if inB m 0 400 = true ∧ (0 ≤ z ∧ z ≤ 400) ∧ (0 ≤ w ∧ w ≤ 8) then some (.agg [.int .i64 (m - z - w), .int .i64 (m - z + w)]) else none
 | [.agg [.int .i64 m, .fn 154 [] []], .int .i64 z, .int .i64 w] => if inB m 0 400 = true ∧ (0 ≤ z ∧ z ≤ 400) ∧ (0 ≤ w ∧ w ≤ 8) then some (.agg [.int .i64 (z - m - w), .int .i64 (z - m + w)]) else none
 | _ => none
theorem glBounds_ok : ∀ xs r, glBounds xs = some r → PCalls Tryd.prog 207 xs r := by
 intro xs r h
 unfold glBounds at h
 split at h
 ·split at h
  ·rename_i hc; cases h; exact lBounds_c ⟨_, false⟩ _ _ hc.1 hc.2.1 hc.2.2
  ·cases h
 ·split at h
  ·rename_i hc; cases h; exact lBounds_c ⟨_, true⟩ _ _ hc.1 hc.2.1 hc.2.2
  ·cases h
 ·cases h
attribute [go_sem] glBounds
noncomputable def spL2 : Pm.Spec := (spL1.one 120 glCheck).one 207 glBounds
@[go_sem] theorem spL2_p (f : FuncId) (xs : List TV) : spL2.p f xs = Pm.Spec.p ((spL1.one 120 glCheck).one 207 glBounds) f xs := rfl
@[go_sem] theorem spL2_h (f : FuncId) (ps : List PV) (hl : List PO) : spL2.h f ps hl = Pm.Spec.h ((spL1.one 120 glCheck).one 207 glBounds) f ps hl := rfl
@[go_sem] theorem spL2_y (Y : Pm.YS) (f : FuncId) (ps : List PV) (hl : List PO) : spL2.y Y f ps hl = Pm.Spec.y ((spL1.one 120 glCheck).one 207 glBounds) Y f ps hl := rfl
@[go_sem] theorem spL2_fz (f : FuncId) : spL2.fz f = Pm.Spec.fz ((spL1.one 120 glCheck).one 207 glBounds) f := rfl
@[go_sem] theorem spL2_fr (f : FuncId) : spL2.fr f = Pm.Spec.fr ((spL1.one 120 glCheck).one 207 glBounds) f := rfl
@[go_sem] theorem spL2_yf (f : FuncId) : spL2.yf f = Pm.Spec.yf ((spL1.one 120 glCheck).one 207 glBounds) f := rfl
@[go_sem] theorem spL2_gd : spL2.gd = Pm.Spec.gd ((spL1.one 120 glCheck).one 207 glBounds) := rfl
@[go_sem] theorem spL2_mu (t : TypeId) : spL2.mu t = Pm.Spec.mu ((spL1.one 120 glCheck).one 207 glBounds) t := rfl
@[go_sem] theorem spL2_nf (t : TypeId) : spL2.nf t = Pm.Spec.nf ((spL1.one 120 glCheck).one 207 glBounds) t := rfl
theorem spL2_ok : SpecOk Tryd.prog spL2 := Spec.one_ok glBounds_ok (Spec.one_ok glCheck_ok spL1_ok)
end Go.Proofs.YtlonlnfenbadbaaDoor.Lv

/- Part Lw. -/
namespace Go.Oc.Lv
end Go.Oc.Lv
namespace Go.Proofs.YtlonlnfenbadbaaDoor.Lv
end Go.Proofs.YtlonlnfenbadbaaDoor.Lv
namespace Go.Proofs.YtlonlnfenbadbaaDoor.Lv
open Go.RowKit Go.Pm Go.Oc Go.Oc.Lv
set_option maxRecDepth 100000
set_option linter.unusedVariables false
set_option maxHeartbeats 1000000

def midW (r : Rd) : Mk := ⟨IntKind.i64.wrap (r.left + r.right), r.turned⟩
theorem rdsOk_mem {v : Vial} {l : List Rd} (h : rdsOk v l = true) {r : Rd} (hr : r ∈ l) : 0 ≤ r.left ∧ r.left < r.right ∧ r.right ≤ v.marks ∧ v.l0 - v.wr ≤ r.right - r.left ∧ r.right - r.left ≤ v.l1 + v.wr := by
 simp only [rdsOk, Bool.and_eq_true, List.all_eq_true] at h
 have := h.2 r hr
 simp only [rdOk, inB, Bool.and_eq_true, decide_eq_true_eq] at this
 omega
theorem rdP_eq {v : Vial} (hv : (10 ≤ v.marks ∧ v.marks ≤ 200) ∧ (1 ≤ v.l0 ∧ v.l0 ≤ v.l1 ∧ v.l1 ≤ v.marks) ∧ (1 ≤ v.v0 ∧ v.v0 ≤ v.v1 ∧ v.v1 ≤ 500) ∧ (0 ≤ v.z0 ∧ v.z0 ≤ v.z1 ∧ v.z1 ≤ 2 * v.marks) ∧ 0 ≤ v.wr ∧ v.wr ≤ 8) (x : Rd) :
  (decide (x.left ≥ 0) && decide (x.right > x.left) && decide (x.right ≤ v.marks) && inB (IntKind.i64.wrap (x.right - x.left)) (v.l0 - v.wr) (v.l1 + v.wr)) = rdOk v x := by
 unfold rdOk
 by_cases h1 : 0 ≤ x.left ∧ x.left < x.right ∧ x.right ≤ v.marks
 ·rw [wrap_in (by omega) (by omega)]
  have a1 : x.left ≥ 0 := h1.1
  have a2 : x.right > x.left := h1.2.1
  have a3 : inB x.left 0 v.marks = true := inB_iff.2 (by omega)
  have a4 : inB x.right (x.left + 1) v.marks = true := inB_iff.2 (by omega)
  simp [a1, a2, h1.2.2, a3, a4]
 ·have h2 : (decide (x.left ≥ 0) && decide (x.right > x.left) && decide (x.right ≤ v.marks)) = false := by
   rw [← Bool.not_eq_true]
   simp only [Bool.and_eq_true, decide_eq_true_eq]
   omega
  have h3 : (inB x.left 0 v.marks && inB x.right (x.left + 1) v.marks) = false := by
   rw [← Bool.not_eq_true]
   simp only [Bool.and_eq_true, inB_iff]
   omega
  rw [h2, h3]; rfl
theorem lOpened_c (v : Vial) {l : List Rd} (full : Bool) (hv : v.ok = true) (hl : l.length ≤ 5864062014806) : PCalls Tryd.prog 72 [v.t, .sl (l.flatMap Rd.cs) l.length full] (if rdsOk v l = true then .tup [v.t, .sl ((l.map mid).flatMap Mk.als) l.length false, .int .i64 0] else .tup [v.t, .nilSl, .int .i64 31]) := by
 have hv' := Vial.ok_iff.1 hv
 refine pcalls_by Tryd.mixes spL2_ok (fn := Tryd.f72) Tryd.func72 rfl (by kernel_rfl) (by show 2 ≤ _; decide) ?_
 simp (decide := true) (maxSteps := 4000000) only [go_sem, Nat.reduceAdd, Nat.reduceSub, Nat.reduceMul, Nat.reduceDiv, Nat.reduceMod, Nat.reduceLT, Nat.reduceLeDiff, Nat.reduceEqDiff, Nat.reduceBEq, Nat.reduceBNe, Nat.reduceGT, Int.reduceAdd, Int.reduceSub, Int.reduceMul, Int.reduceNeg, Int.reduceLT, Int.reduceLE, Int.reduceEq, Int.reduceNe, Int.reduceBEq, Int.reduceBNe, Int.reduceToNat, Int.reduceGT, Int.reduceGE, ↓reduceIte, decide_true, decide_false, Tryd.f72, Vial.t, Vial.cs, hv]
 refine pwpC_loop (A := { k : Nat // k ≤ l.length }) (fun k => { env := [(24, .t (.int .i64 k.1)), (23, .t (.int .i64 l.length)), (22, .t (.sl (l.flatMap Rd.cs) l.length full)), (8, .t (.bool (inB l.length 1 8 && (l.take k.1).all (rdOk v)))), (5, .own (((l.take k.1).map midW).flatMap Mk.als) k.1 2), (4, .ptr 1 0), (2, .ptr 0 0)], heap := [.box (v.cs.map .t), .box (v.cs.map .t), .tok k.1 141] }) (fun k => l.length - k.1) ⟨0, by omega⟩ ?_ (fun k => by rfl) fun ⟨k, hk⟩ => ?_
 ·simp (decide := true) (maxSteps := 4000000) only [go_sem, Nat.reduceAdd, Nat.reduceSub, Nat.reduceMul, Nat.reduceDiv, Nat.reduceMod, Nat.reduceLT, Nat.reduceLeDiff, Nat.reduceEqDiff, Nat.reduceBEq, Nat.reduceBNe, Nat.reduceGT, Int.reduceAdd, Int.reduceSub, Int.reduceMul, Int.reduceNeg, Int.reduceLT, Int.reduceLE, Int.reduceEq, Int.reduceNe, Int.reduceBEq, Int.reduceBNe, Int.reduceToNat, Int.reduceGT, Int.reduceGE, ↓reduceIte, decide_true, decide_false, Vial.cs]
 ·by_cases hlt : (k : Int) < l.length
  ·obtain ⟨x, hx⟩ := get_lt hlt
   have hd := flat_at Rd.cs (n := 3) (fun _ => rfl) hx
   have hc : (List.flatMap Mk.als (List.map midW (List.take k l))).length = k * 1 := by rw [flat_len Mk.als (n := 1) (fun _ => rfl)]; simp; omega
   have hr : (k + 1) * 16 ≤ 140737488355328 := by omega
   have hk1 : IntKind.i64.wrap (k + 1) = ((k + 1 : Nat) : Int) := by rw [wrap_in (by omega) (by omega)]; omega
   have ht : (List.take (k + 1) l).map midW = (List.take k l).map midW ++ [midW x] := by rw [take_snoc hx]; simp
   have e1 : IntKind.i64.wrap (v.l0 - v.wr) = v.l0 - v.wr := wrap_in (by omega) (by omega)
   have e2 : IntKind.i64.wrap (v.l1 + v.wr) = v.l1 + v.wr := wrap_in (by omega) (by omega)
   simp (decide := true) (maxSteps := 4000000) only [go_sem, Nat.reduceAdd, Nat.reduceSub, Nat.reduceMul, Nat.reduceDiv, Nat.reduceMod, Nat.reduceLT, Nat.reduceLeDiff, Nat.reduceEqDiff, Nat.reduceBEq, Nat.reduceBNe, Nat.reduceGT, Int.reduceAdd, Int.reduceSub, Int.reduceMul, Int.reduceNeg, Int.reduceLT, Int.reduceLE, Int.reduceEq, Int.reduceNe, Int.reduceBEq, Int.reduceBNe, Int.reduceToNat, Int.reduceGT, Int.reduceGE, ↓reduceIte, decide_true, decide_false, hlt, hd, Rd.cs, Vial.cs, hc, hr]
   refine ⟨⟨k + 1, by omega⟩, ?_⟩
   simp (decide := true) (maxSteps := 4000000) only [go_sem, Nat.reduceAdd, Nat.reduceSub, Nat.reduceMul, Nat.reduceDiv, Nat.reduceMod, Nat.reduceLT, Nat.reduceLeDiff, Nat.reduceEqDiff, Nat.reduceBEq, Nat.reduceBNe, Nat.reduceGT, Int.reduceAdd, Int.reduceSub, Int.reduceMul, Int.reduceNeg, Int.reduceLT, Int.reduceLE, Int.reduceEq, Int.reduceNe, Int.reduceBEq, Int.reduceBNe, Int.reduceToNat, Int.reduceGT, Int.reduceGE, ↓reduceIte, decide_true, decide_false, hk1, ht, List.flatMap_append, Mk.als, Mk.al, midW, e1, e2]
   refine ⟨?_, by omega⟩
   rw [take_all _ hx, ← Bool.and_assoc]
   cases (inB l.length 1 8 && (l.take k).all (rdOk v))
   ·simp
   ·simp only [Bool.true_and]; exact rdP_eq hv' x
  ·have hkl : k = l.length := by omega
   subst hkl
   have hrd : rdsOk v l = (inB l.length 1 8 && (l.take l.length).all (rdOk v)) := by rw [List.take_length]; rfl
   cases hr : rdsOk v l with
   | true =>
    rw [hr] at hrd
    have h8 := rdsOk_len hr
    have h0 : ¬ l.length = 0 := by omega
    have hmm : (l.take l.length).map midW = l.map mid := by
     rw [List.take_length]
     refine List.map_congr_left fun r hr' => ?_
     have := rdsOk_mem hr hr'
     unfold midW mid
     rw [wrap_in (by omega) (by omega)]
    simp (decide := true) (maxSteps := 4000000) only [go_sem, Nat.reduceAdd, Nat.reduceSub, Nat.reduceMul, Nat.reduceDiv, Nat.reduceMod, Nat.reduceLT, Nat.reduceLeDiff, Nat.reduceEqDiff, Nat.reduceBEq, Nat.reduceBNe, Nat.reduceGT, Int.reduceAdd, Int.reduceSub, Int.reduceMul, Int.reduceNeg, Int.reduceLT, Int.reduceLE, Int.reduceEq, Int.reduceNe, Int.reduceBEq, Int.reduceBNe, Int.reduceToNat, Int.reduceGT, Int.reduceGE, ↓reduceIte, decide_true, decide_false, hlt, ← hrd, Vial.cs, h0, hmm]
   | false =>
    rw [hr] at hrd
    simp (decide := true) (maxSteps := 4000000) only [go_sem, Nat.reduceAdd, Nat.reduceSub, Nat.reduceMul, Nat.reduceDiv, Nat.reduceMod, Nat.reduceLT, Nat.reduceLeDiff, Nat.reduceEqDiff, Nat.reduceBEq, Nat.reduceBNe, Nat.reduceGT, Int.reduceAdd, Int.reduceSub, Int.reduceMul, Int.reduceNeg, Int.reduceLT, Int.reduceLE, Int.reduceEq, Int.reduceNe, Int.reduceBEq, Int.reduceBNe, Int.reduceToNat, Int.reduceGT, Int.reduceGE, ↓reduceIte, decide_true, decide_false, hlt, ← hrd, Vial.cs]
theorem lOpened_v (v : Vial) {l : List Rd} {s : TV} (hs : IsRow Rd.cs s l) (hv : v.ok = false) : PCalls Tryd.prog 72 [v.t, s] (.tup [(Vial.t ⟨0, 0, 0, 0, 0, 0, 0, 0⟩), .nilSl, .int .i64 30]) := by
 refine pcalls_by Tryd.mixes spL2_ok (fn := Tryd.f72) Tryd.func72 rfl (by kernel_rfl) (by show 2 ≤ _; decide) ?_
 rcases hs with ⟨rfl, rfl⟩ | ⟨full, rfl⟩ <;> simp (decide := true) (maxSteps := 4000000) only [go_sem, Nat.reduceAdd, Nat.reduceSub, Nat.reduceMul, Nat.reduceDiv, Nat.reduceMod, Nat.reduceLT, Nat.reduceLeDiff, Nat.reduceEqDiff, Nat.reduceBEq, Nat.reduceBNe, Nat.reduceGT, Int.reduceAdd, Int.reduceSub, Int.reduceMul, Int.reduceNeg, Int.reduceLT, Int.reduceLE, Int.reduceEq, Int.reduceNe, Int.reduceBEq, Int.reduceBNe, Int.reduceToNat, Int.reduceGT, Int.reduceGE, ↓reduceIte, decide_true, decide_false, Tryd.f72, Vial.t, Vial.cs, hv]
theorem lOpened_n (v : Vial) (hv : v.ok = true) : PCalls Tryd.prog 72 [v.t, .nilSl] (.tup [v.t, .nilSl, .int .i64 31]) := by
 refine pcalls_by Tryd.mixes spL2_ok (fn := Tryd.f72) Tryd.func72 rfl (by kernel_rfl) (by show 2 ≤ _; decide) ?_
 simp (decide := true) (maxSteps := 4000000) only [go_sem, Nat.reduceAdd, Nat.reduceSub, Nat.reduceMul, Nat.reduceDiv, Nat.reduceMod, Nat.reduceLT, Nat.reduceLeDiff, Nat.reduceEqDiff, Nat.reduceBEq, Nat.reduceBNe, Nat.reduceGT, Int.reduceAdd, Int.reduceSub, Int.reduceMul, Int.reduceNeg, Int.reduceLT, Int.reduceLE, Int.reduceEq, Int.reduceNe, Int.reduceBEq, Int.reduceBNe, Int.reduceToNat, Int.reduceGT, Int.reduceGE, ↓reduceIte, decide_true, decide_false, Tryd.f72, Vial.t, Vial.cs, hv]
 refine pwpC_loop (A := Unit) (fun k => { env := [(24, .t (.int .i64 0)), (23, .t (.int .i64 0)), (8, .t (.bool false)), (4, .ptr 1 0), (2, .ptr 0 0)], heap := [.box (v.cs.map .t), .box (v.cs.map .t)] }) (fun _ => 0) () ?_ (fun k => by rfl) fun _ => ?_
 ·simp (decide := true) (maxSteps := 4000000) only [go_sem, Nat.reduceAdd, Nat.reduceSub, Nat.reduceMul, Nat.reduceDiv, Nat.reduceMod, Nat.reduceLT, Nat.reduceLeDiff, Nat.reduceEqDiff, Nat.reduceBEq, Nat.reduceBNe, Nat.reduceGT, Int.reduceAdd, Int.reduceSub, Int.reduceMul, Int.reduceNeg, Int.reduceLT, Int.reduceLE, Int.reduceEq, Int.reduceNe, Int.reduceBEq, Int.reduceBNe, Int.reduceToNat, Int.reduceGT, Int.reduceGE, ↓reduceIte, decide_true, decide_false, Vial.cs, inB]
 ·simp (decide := true) (maxSteps := 4000000) only [go_sem, Nat.reduceAdd, Nat.reduceSub, Nat.reduceMul, Nat.reduceDiv, Nat.reduceMod, Nat.reduceLT, Nat.reduceLeDiff, Nat.reduceEqDiff, Nat.reduceBEq, Nat.reduceBNe, Nat.reduceGT, Int.reduceAdd, Int.reduceSub, Int.reduceMul, Int.reduceNeg, Int.reduceLT, Int.reduceLE, Int.reduceEq, Int.reduceNe, Int.reduceBEq, Int.reduceBNe, Int.reduceToNat, Int.reduceGT, Int.reduceGE, ↓reduceIte, decide_true, decide_false, Vial.cs]
def openedT (v : Vial) (l : List Rd) : TV := if v.ok = false then .tup [(Vial.t ⟨0, 0, 0, 0, 0, 0, 0, 0⟩), .nilSl, .int .i64 30] else if rdsOk v l = true then .tup [v.t, .sl ((l.map mid).flatMap Mk.als) l.length false, .int .i64 0] else .tup [v.t, .nilSl, .int .i64 31]
theorem lOpened_d (v : Vial) {l : List Rd} {s : TV} (hs : IsRow Rd.cs s l) (hl : l.length ≤ 5864062014806) : PCalls Tryd.prog 72 [v.t, s] (openedT v l) := by
 unfold openedT
 cases hv : v.ok with
 | false => exact lOpened_v v hs hv
 | true =>
  rw [if_neg (by simp)]
  rcases hs with ⟨rfl, rfl⟩ | ⟨full, rfl⟩
  ·exact lOpened_n v hv
  ·exact lOpened_c v full hv hl
noncomputable def glOpened : List TV → Option TV
 | [.agg [.int .i64 m, .int .i64 a, .int .i64 b, .int .i64 c, .int .i64 d, .int .i64 e, .int .i64 f, .int .i64 g], s] => match rowL unRds s with
  | some l => if l.length ≤ 5864062014806 then some (openedT ⟨m, a, b, c, d, e, f, g⟩ l) else none
  | none => none
 | _ => none
theorem glOpened_ok : ∀ xs r, glOpened xs = some r → PCalls Tryd.prog 72 xs r := by
 intro xs r h
 unfold glOpened at h
 split at h
 ·split at h
  ·rename_i l hl
   have hl := rowL_some (un := unRds) (by first | rfl | exact unRds_nil) (@unRds_some) hl
   split at h
   ·rename_i hc; cases h; exact lOpened_d ⟨_, _, _, _, _, _, _, _⟩ hl hc
   ·cases h
  ·cases h
 ·cases h
attribute [go_sem] glOpened
noncomputable def spL3 : Pm.Spec := spL2.one 72 glOpened
@[go_sem] theorem spL3_p (f : FuncId) (xs : List TV) : spL3.p f xs = Pm.Spec.p (spL2.one 72 glOpened) f xs := rfl
@[go_sem] theorem spL3_h (f : FuncId) (ps : List PV) (hl : List PO) : spL3.h f ps hl = Pm.Spec.h (spL2.one 72 glOpened) f ps hl := rfl
@[go_sem] theorem spL3_y (Y : Pm.YS) (f : FuncId) (ps : List PV) (hl : List PO) : spL3.y Y f ps hl = Pm.Spec.y (spL2.one 72 glOpened) Y f ps hl := rfl
@[go_sem] theorem spL3_fz (f : FuncId) : spL3.fz f = Pm.Spec.fz (spL2.one 72 glOpened) f := rfl
@[go_sem] theorem spL3_fr (f : FuncId) : spL3.fr f = Pm.Spec.fr (spL2.one 72 glOpened) f := rfl
@[go_sem] theorem spL3_yf (f : FuncId) : spL3.yf f = Pm.Spec.yf (spL2.one 72 glOpened) f := rfl
@[go_sem] theorem spL3_gd : spL3.gd = Pm.Spec.gd (spL2.one 72 glOpened) := rfl
@[go_sem] theorem spL3_mu (t : TypeId) : spL3.mu t = Pm.Spec.mu (spL2.one 72 glOpened) t := rfl
@[go_sem] theorem spL3_nf (t : TypeId) : spL3.nf t = Pm.Spec.nf (spL2.one 72 glOpened) t := rfl
theorem spL3_ok : SpecOk Tryd.prog spL3 := Spec.one_ok glOpened_ok spL2_ok
end Go.Proofs.YtlonlnfenbadbaaDoor.Lv
