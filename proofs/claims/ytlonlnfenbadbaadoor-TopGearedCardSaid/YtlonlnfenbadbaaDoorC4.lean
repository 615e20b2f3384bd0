/- What the claim leans on, text 4. -/
import Derived.Test.YtlonlnfenbadbaaDoorRows
import Derived.Test.YtlonlnfenbadbaaDoorC3
set_option linter.unusedSimpArgs false
set_option linter.unusedVariables false

/- Part Ty. -/
namespace Go.Proofs.YtlonlnfenbadbaaDoor
open Go.Pm
@[go_sem] theorem Tryd.agg1 : aggO Tryd.prog 1 = some false := by kernel_rfl
@[go_sem] theorem Tryd.pln1 : plainO Tryd.prog 1 = some true := by kernel_rfl
@[go_sem] theorem Tryd.sz1 : szO Tryd.prog 1 = some 1 := by kernel_rfl
@[go_sem] theorem Tryd.zero1 : zeroL Tryd.prog 1 = some [.nilFn] := by kernel_rfl
@[go_sem] theorem Tryd.small1 : smallO Tryd.prog 1 = some (1, 8) := by kernel_rfl
@[go_sem] theorem Tryd.zt1 : zeroT Tryd.prog 1 = some (.nilFn) := by kernel_rfl
@[go_sem] theorem Tryd.agg2 : aggO Tryd.prog 2 = some false := by kernel_rfl
@[go_sem] theorem Tryd.pln2 : plainO Tryd.prog 2 = some true := by kernel_rfl
@[go_sem] theorem Tryd.sz2 : szO Tryd.prog 2 = some 1 := by kernel_rfl
@[go_sem] theorem Tryd.zero2 : zeroL Tryd.prog 2 = some [.int .i64 0] := by kernel_rfl
@[go_sem] theorem Tryd.small2 : smallO Tryd.prog 2 = some (1, 8) := by kernel_rfl
@[go_sem] theorem Tryd.zt2 : zeroT Tryd.prog 2 = some (.int .i64 0) := by kernel_rfl
@[go_sem] theorem Tryd.knd2 : kindO Tryd.prog 2 = some .i64 := by kernel_rfl
@[go_sem] theorem Tryd.und2 : Program.underlying Tryd.prog 2 = some (.int .i64) := by kernel_rfl
@[go_sem] theorem Tryd.agg3 : aggO Tryd.prog 3 = some false := by kernel_rfl
@[go_sem] theorem Tryd.pln3 : plainO Tryd.prog 3 = some true := by kernel_rfl
@[go_sem] theorem Tryd.sz3 : szO Tryd.prog 3 = some 1 := by kernel_rfl
@[go_sem] theorem Tryd.zero3 : zeroL Tryd.prog 3 = some [.int .i64 0] := by kernel_rfl
@[go_sem] theorem Tryd.small3 : smallO Tryd.prog 3 = some (1, 8) := by kernel_rfl
@[go_sem] theorem Tryd.zt3 : zeroT Tryd.prog 3 = some (.int .i64 0) := by kernel_rfl
@[go_sem] theorem Tryd.knd3 : kindO Tryd.prog 3 = some .i64 := by kernel_rfl
@[go_sem] theorem Tryd.und3 : Program.underlying Tryd.prog 3 = some (.int .i64) := by kernel_rfl
@[go_sem] theorem Tryd.agg4 : aggO Tryd.prog 4 = some false := by kernel_rfl
@[go_sem] theorem Tryd.pln4 : plainO Tryd.prog 4 = some true := by kernel_rfl
@[go_sem] theorem Tryd.sz4 : szO Tryd.prog 4 = some 1 := by kernel_rfl
@[go_sem] theorem Tryd.zero4 : zeroL Tryd.prog 4 = some [.bool false] := by kernel_rfl
@[go_sem] theorem Tryd.small4 : smallO Tryd.prog 4 = some (1, 1) := by kernel_rfl
@[go_sem] theorem Tryd.zt4 : zeroT Tryd.prog 4 = some (.bool false) := by kernel_rfl
@[go_sem] theorem Tryd.eq4 (a b : Bool) : eqT Tryd.prog 20 4 (.bool a) (.bool b) = some (a == b) := by kernel_rfl
@[go_sem] theorem Tryd.und4 : Program.underlying Tryd.prog 4 = some .bool := by kernel_rfl
@[go_sem] theorem Tryd.agg5 : aggO Tryd.prog 5 = some false := by kernel_rfl
@[go_sem] theorem Tryd.pln5 : plainO Tryd.prog 5 = some true := by kernel_rfl
@[go_sem] theorem Tryd.sz5 : szO Tryd.prog 5 = some 1 := by kernel_rfl
@[go_sem] theorem Tryd.zero5 : zeroL Tryd.prog 5 = some [.int .u8 0] := by kernel_rfl
@[go_sem] theorem Tryd.small5 : smallO Tryd.prog 5 = some (1, 1) := by kernel_rfl
@[go_sem] theorem Tryd.zt5 : zeroT Tryd.prog 5 = some (.int .u8 0) := by kernel_rfl
@[go_sem] theorem Tryd.knd5 : kindO Tryd.prog 5 = some .u8 := by kernel_rfl
@[go_sem] theorem Tryd.und5 : Program.underlying Tryd.prog 5 = some (.int .u8) := by kernel_rfl
@[go_sem] theorem Tryd.agg7 : aggO Tryd.prog 7 = some true := by kernel_rfl
@[go_sem] theorem Tryd.pln7 : plainO Tryd.prog 7 = some true := by kernel_rfl
@[go_sem] theorem Tryd.sz7 : szO Tryd.prog 7 = some 4 := by kernel_rfl
@[go_sem] theorem Tryd.zero7 : zeroL Tryd.prog 7 = some [.int .i64 0, .int .i64 0, .bool false, .int .u8 0] := by kernel_rfl
@[go_sem] theorem Tryd.small7 : smallO Tryd.prog 7 = some (4, 24) := by kernel_rfl
@[go_sem] theorem Tryd.zt7 : zeroT Tryd.prog 7 = some (.agg [.int .i64 0, .int .i64 0, .bool false, .int .u8 0]) := by kernel_rfl
@[go_sem] theorem Tryd.fld7_0 : fieldO Tryd.prog 7 0 = some (0, 2) := by kernel_rfl
@[go_sem] theorem Tryd.fld7_1 : fieldO Tryd.prog 7 1 = some (1, 3) := by kernel_rfl
@[go_sem] theorem Tryd.fld7_2 : fieldO Tryd.prog 7 2 = some (2, 4) := by kernel_rfl
@[go_sem] theorem Tryd.fld7_3 : fieldO Tryd.prog 7 3 = some (3, 6) := by kernel_rfl
@[go_sem] theorem Tryd.bld7 (parts : List (Nat × TV)) : buildO Tryd.prog 7 parts = (fillT (fun i => ([(0, 1), (1, 1), (2, 1), (3, 1)] : List (Nat × Nat))[i]?) [.int .i64 0, .int .i64 0, .bool false, .int .u8 0] parts).map .agg := by kernel_rfl
@[go_sem] theorem Tryd.eqg7 : Program.eqGuardType Tryd.prog (Program.depth Tryd.prog) 7 = false := by kernel_rfl
@[go_sem] theorem Tryd.agg9 : aggO Tryd.prog 9 = some false := by kernel_rfl
@[go_sem] theorem Tryd.pln9 : plainO Tryd.prog 9 = some true := by kernel_rfl
@[go_sem] theorem Tryd.sz9 : szO Tryd.prog 9 = some 1 := by kernel_rfl
@[go_sem] theorem Tryd.zero9 : zeroL Tryd.prog 9 = some [.str ⟨#[]⟩] := by kernel_rfl
@[go_sem] theorem Tryd.small9 : smallO Tryd.prog 9 = some (1, 16) := by kernel_rfl
@[go_sem] theorem Tryd.zt9 : zeroT Tryd.prog 9 = some (.str ⟨#[]⟩) := by kernel_rfl
@[go_sem] theorem Tryd.eq9 (a b : ByteArray) : eqT Tryd.prog 20 9 (.str a) (.str b) = some (a.toList == b.toList) := by kernel_rfl
@[go_sem] theorem Tryd.und9 : Program.underlying Tryd.prog 9 = some .string := by kernel_rfl
@[go_sem] theorem Tryd.agg12 : aggO Tryd.prog 12 = some false := by kernel_rfl
@[go_sem] theorem Tryd.pln12 : plainO Tryd.prog 12 = some true := by kernel_rfl
@[go_sem] theorem Tryd.sz12 : szO Tryd.prog 12 = some 1 := by kernel_rfl
@[go_sem] theorem Tryd.zero12 : zeroL Tryd.prog 12 = some [.int .u64 0] := by kernel_rfl
@[go_sem] theorem Tryd.small12 : smallO Tryd.prog 12 = some (1, 8) := by kernel_rfl
@[go_sem] theorem Tryd.zt12 : zeroT Tryd.prog 12 = some (.int .u64 0) := by kernel_rfl
@[go_sem] theorem Tryd.knd12 : kindO Tryd.prog 12 = some .u64 := by kernel_rfl
@[go_sem] theorem Tryd.und12 : Program.underlying Tryd.prog 12 = some (.int .u64) := by kernel_rfl
@[go_sem] theorem Tryd.agg13 : aggO Tryd.prog 13 = some true := by kernel_rfl
@[go_sem] theorem Tryd.pln13 : plainO Tryd.prog 13 = some true := by kernel_rfl
@[go_sem] theorem Tryd.sz13 : szO Tryd.prog 13 = some 2 := by kernel_rfl
@[go_sem] theorem Tryd.zero13 : zeroL Tryd.prog 13 = some [.str ⟨#[]⟩, .int .u64 0] := by kernel_rfl
@[go_sem] theorem Tryd.small13 : smallO Tryd.prog 13 = some (2, 24) := by kernel_rfl
@[go_sem] theorem Tryd.zt13 : zeroT Tryd.prog 13 = some (.agg [.str ⟨#[]⟩, .int .u64 0]) := by kernel_rfl
@[go_sem] theorem Tryd.fld13_0 : fieldO Tryd.prog 13 0 = some (0, 9) := by kernel_rfl
@[go_sem] theorem Tryd.fld13_1 : fieldO Tryd.prog 13 1 = some (1, 12) := by kernel_rfl
@[go_sem] theorem Tryd.bld13 (parts : List (Nat × TV)) : buildO Tryd.prog 13 parts = (fillT (fun i => ([(0, 1), (1, 1)] : List (Nat × Nat))[i]?) [.str ⟨#[]⟩, .int .u64 0] parts).map .agg := by kernel_rfl
@[go_sem] theorem Tryd.eqg13 : Program.eqGuardType Tryd.prog (Program.depth Tryd.prog) 13 = false := by kernel_rfl
@[go_sem] theorem Tryd.agg15 : aggO Tryd.prog 15 = some false := by kernel_rfl
@[go_sem] theorem Tryd.pln15 : plainO Tryd.prog 15 = some true := by kernel_rfl
@[go_sem] theorem Tryd.sz15 : szO Tryd.prog 15 = some 1 := by kernel_rfl
@[go_sem] theorem Tryd.zero15 : zeroL Tryd.prog 15 = some [.nilPtr] := by kernel_rfl
@[go_sem] theorem Tryd.small15 : smallO Tryd.prog 15 = some (1, 8) := by kernel_rfl
@[go_sem] theorem Tryd.zt15 : zeroT Tryd.prog 15 = some (.nilPtr) := by kernel_rfl
@[go_sem] theorem Tryd.agg16 : aggO Tryd.prog 16 = some false := by kernel_rfl
@[go_sem] theorem Tryd.pln16 : plainO Tryd.prog 16 = some true := by kernel_rfl
@[go_sem] theorem Tryd.sz16 : szO Tryd.prog 16 = some 1 := by kernel_rfl
@[go_sem] theorem Tryd.zero16 : zeroL Tryd.prog 16 = some [.nilPtr] := by kernel_rfl
@[go_sem] theorem Tryd.small16 : smallO Tryd.prog 16 = some (1, 8) := by kernel_rfl
@[go_sem] theorem Tryd.zt16 : zeroT Tryd.prog 16 = some (.nilPtr) := by kernel_rfl
@[go_sem] theorem Tryd.agg17 : aggO Tryd.prog 17 = some false := by kernel_rfl
@[go_sem] theorem Tryd.pln17 : plainO Tryd.prog 17 = some true := by kernel_rfl
@[go_sem] theorem Tryd.sz17 : szO Tryd.prog 17 = some 1 := by kernel_rfl
@[go_sem] theorem Tryd.zero17 : zeroL Tryd.prog 17 = some [.nilPtr] := by kernel_rfl
@[go_sem] theorem Tryd.small17 : smallO Tryd.prog 17 = some (1, 8) := by kernel_rfl
@[go_sem] theorem Tryd.zt17 : zeroT Tryd.prog 17 = some (.nilPtr) := by kernel_rfl
@[go_sem] theorem Tryd.agg18 : aggO Tryd.prog 18 = some true := by kernel_rfl
@[go_sem] theorem Tryd.pln18 : plainO Tryd.prog 18 = some true := by kernel_rfl
@[go_sem] theorem Tryd.sz18 : szO Tryd.prog 18 = some 1 := by kernel_rfl
@[go_sem] theorem Tryd.zero18 : zeroL Tryd.prog 18 = some [.nilPtr] := by kernel_rfl
@[go_sem] theorem Tryd.small18 : smallO Tryd.prog 18 = some (1, 8) := by kernel_rfl
@[go_sem] theorem Tryd.zt18 : zeroT Tryd.prog 18 = some (.agg [.nilPtr]) := by kernel_rfl
@[go_sem] theorem Tryd.fld18_0 : fieldO Tryd.prog 18 0 = some (0, 17) := by kernel_rfl
@[go_sem] theorem Tryd.bld18 (parts : List (Nat × TV)) : buildO Tryd.prog 18 parts = (fillT (fun i => ([(0, 1)] : List (Nat × Nat))[i]?) [.nilPtr] parts).map .agg := by kernel_rfl
@[go_sem] theorem Tryd.bldp18 (parts : List (Nat × PV)) : buildP Tryd.prog 18 parts = fillP (fun i => ([(0, 1)] : List (Nat × Nat))[i]?) [.t (.nilPtr)] parts := by kernel_rfl
@[go_sem] theorem Tryd.eqg18 : Program.eqGuardType Tryd.prog (Program.depth Tryd.prog) 18 = false := by kernel_rfl
@[go_sem] theorem Tryd.agg20 : aggO Tryd.prog 20 = some false := by kernel_rfl
@[go_sem] theorem Tryd.pln20 : plainO Tryd.prog 20 = some false := by kernel_rfl
@[go_sem] theorem Tryd.sz20 : szO Tryd.prog 20 = some 1 := by kernel_rfl
@[go_sem] theorem Tryd.zero20 : zeroL Tryd.prog 20 = some [.nilIf] := by kernel_rfl
@[go_sem] theorem Tryd.small20 : smallO Tryd.prog 20 = some (1, 16) := by kernel_rfl
@[go_sem] theorem Tryd.zt20 : zeroT Tryd.prog 20 = some (.nilIf) := by kernel_rfl
@[go_sem] theorem Tryd.agg21 : aggO Tryd.prog 21 = some false := by kernel_rfl
@[go_sem] theorem Tryd.pln21 : plainO Tryd.prog 21 = some true := by kernel_rfl
@[go_sem] theorem Tryd.sz21 : szO Tryd.prog 21 = some 1 := by kernel_rfl
@[go_sem] theorem Tryd.zero21 : zeroL Tryd.prog 21 = some [.int .i32 0] := by kernel_rfl
@[go_sem] theorem Tryd.small21 : smallO Tryd.prog 21 = some (1, 4) := by kernel_rfl
@[go_sem] theorem Tryd.zt21 : zeroT Tryd.prog 21 = some (.int .i32 0) := by kernel_rfl
@[go_sem] theorem Tryd.knd21 : kindO Tryd.prog 21 = some .i32 := by kernel_rfl
@[go_sem] theorem Tryd.und21 : Program.underlying Tryd.prog 21 = some (.int .i32) := by kernel_rfl
@[go_sem] theorem Tryd.agg22 : aggO Tryd.prog 22 = some false := by kernel_rfl
@[go_sem] theorem Tryd.pln22 : plainO Tryd.prog 22 = some true := by kernel_rfl
@[go_sem] theorem Tryd.sz22 : szO Tryd.prog 22 = some 1 := by kernel_rfl
@[go_sem] theorem Tryd.zero22 : zeroL Tryd.prog 22 = some [.nilSl] := by kernel_rfl
@[go_sem] theorem Tryd.small22 : smallO Tryd.prog 22 = some (1, 24) := by kernel_rfl
@[go_sem] theorem Tryd.zt22 : zeroT Tryd.prog 22 = some (.nilSl) := by kernel_rfl
@[go_sem] theorem Tryd.eqn22 : eqT Tryd.prog 20 22 .nilSl .nilSl = some true := by kernel_rfl
@[go_sem] theorem Tryd.eqs22 (cs : List TV) (n : Nat) (f : Bool) : eqT Tryd.prog 20 22 (.sl cs n f) .nilSl = some false := by kernel_rfl
@[go_sem] theorem Tryd.eqt22 (cs : List TV) (n : Nat) (f : Bool) : eqT Tryd.prog 20 22 .nilSl (.sl cs n f) = some false := by kernel_rfl
@[go_sem] theorem Tryd.sl22 : sliceO Tryd.prog 22 = some 3 := by kernel_rfl
@[go_sem] theorem Tryd.und22 : Program.underlying Tryd.prog 22 = some (.slice 3) := by kernel_rfl
@[go_sem] theorem Tryd.agg23 : aggO Tryd.prog 23 = some true := by kernel_rfl
@[go_sem] theorem Tryd.pln23 : plainO Tryd.prog 23 = some true := by kernel_rfl
@[go_sem] theorem Tryd.sz23 : szO Tryd.prog 23 = some 2 := by kernel_rfl
@[go_sem] theorem Tryd.zero23 : zeroL Tryd.prog 23 = some [.int .i64 0, .int .i64 0] := by kernel_rfl
@[go_sem] theorem Tryd.small23 : smallO Tryd.prog 23 = some (2, 16) := by kernel_rfl
@[go_sem] theorem Tryd.zt23 : zeroT Tryd.prog 23 = some (.agg [.int .i64 0, .int .i64 0]) := by kernel_rfl
@[go_sem] theorem Tryd.bld23 (parts : List (Nat × TV)) : buildO Tryd.prog 23 parts = (fillT (fun i => some (i * 1, 1)) [.int .i64 0, .int .i64 0] parts).map .agg := by kernel_rfl
@[go_sem] theorem Tryd.eq23 (a0 b0 : Int) (a1 b1 : Int) : eqT Tryd.prog 20 23 (.agg [.int .i64 a0, .int .i64 a1]) (.agg [.int .i64 b0, .int .i64 b1]) = some ((a0 == b0) && ((a1 == b1) && true)) := by kernel_rfl
@[go_sem] theorem Tryd.eqg23 : Program.eqGuardType Tryd.prog (Program.depth Tryd.prog) 23 = false := by kernel_rfl
@[go_sem] theorem Tryd.arr23 : arrayO Tryd.prog 23 = some (2, 3) := by kernel_rfl
@[go_sem] theorem Tryd.und23 : Program.underlying Tryd.prog 23 = some (.array 2 3) := by kernel_rfl
@[go_sem] theorem Tryd.agg24 : aggO Tryd.prog 24 = some false := by kernel_rfl
@[go_sem] theorem Tryd.pln24 : plainO Tryd.prog 24 = some true := by kernel_rfl
@[go_sem] theorem Tryd.sz24 : szO Tryd.prog 24 = some 1 := by kernel_rfl
@[go_sem] theorem Tryd.zero24 : zeroL Tryd.prog 24 = some [.nilFn] := by kernel_rfl
@[go_sem] theorem Tryd.small24 : smallO Tryd.prog 24 = some (1, 8) := by kernel_rfl
@[go_sem] theorem Tryd.zt24 : zeroT Tryd.prog 24 = some (.nilFn) := by kernel_rfl
@[go_sem] theorem Tryd.agg25 : aggO Tryd.prog 25 = some false := by kernel_rfl
@[go_sem] theorem Tryd.pln25 : plainO Tryd.prog 25 = some true := by kernel_rfl
@[go_sem] theorem Tryd.sz25 : szO Tryd.prog 25 = some 1 := by kernel_rfl
@[go_sem] theorem Tryd.zero25 : zeroL Tryd.prog 25 = some [.nilFn] := by kernel_rfl
@[go_sem] theorem Tryd.small25 : smallO Tryd.prog 25 = some (1, 8) := by kernel_rfl
@[go_sem] theorem Tryd.zt25 : zeroT Tryd.prog 25 = some (.nilFn) := by kernel_rfl
@[go_sem] theorem Tryd.agg26 : aggO Tryd.prog 26 = some true := by kernel_rfl
@[go_sem] theorem Tryd.pln26 : plainO Tryd.prog 26 = some true := by kernel_rfl
@[go_sem] theorem Tryd.sz26 : szO Tryd.prog 26 = some 4 := by kernel_rfl
@[go_sem] theorem Tryd.zero26 : zeroL Tryd.prog 26 = some [.int .i64 0, .int .i64 0, .int .i64 0, .int .i64 0] := by kernel_rfl
@[go_sem] theorem Tryd.small26 : smallO Tryd.prog 26 = some (4, 32) := by kernel_rfl
@[go_sem] theorem Tryd.zt26 : zeroT Tryd.prog 26 = some (.agg [.int .i64 0, .int .i64 0, .int .i64 0, .int .i64 0]) := by kernel_rfl
@[go_sem] theorem Tryd.fld26_0 : fieldO Tryd.prog 26 0 = some (0, 3) := by kernel_rfl
@[go_sem] theorem Tryd.fld26_1 : fieldO Tryd.prog 26 1 = some (1, 3) := by kernel_rfl
@[go_sem] theorem Tryd.fld26_2 : fieldO Tryd.prog 26 2 = some (2, 3) := by kernel_rfl
@[go_sem] theorem Tryd.fld26_3 : fieldO Tryd.prog 26 3 = some (3, 3) := by kernel_rfl
@[go_sem] theorem Tryd.bld26 (parts : List (Nat × TV)) : buildO Tryd.prog 26 parts = (fillT (fun i => ([(0, 1), (1, 1), (2, 1), (3, 1)] : List (Nat × Nat))[i]?) [.int .i64 0, .int .i64 0, .int .i64 0, .int .i64 0] parts).map .agg := by kernel_rfl
@[go_sem] theorem Tryd.eqg26 : Program.eqGuardType Tryd.prog (Program.depth Tryd.prog) 26 = false := by kernel_rfl
@[go_sem] theorem Tryd.agg27 : aggO Tryd.prog 27 = some true := by kernel_rfl
@[go_sem] theorem Tryd.pln27 : plainO Tryd.prog 27 = some true := by kernel_rfl
@[go_sem] theorem Tryd.sz27 : szO Tryd.prog 27 = some 4 := by kernel_rfl
@[go_sem] theorem Tryd.zero27 : zeroL Tryd.prog 27 = some [.int .i64 0, .int .i64 0, .int .i64 0, .int .i64 0] := by kernel_rfl
@[go_sem] theorem Tryd.small27 : smallO Tryd.prog 27 = some (4, 32) := by kernel_rfl
@[go_sem] theorem Tryd.zt27 : zeroT Tryd.prog 27 = some (.agg [.int .i64 0, .int .i64 0, .int .i64 0, .int .i64 0]) := by kernel_rfl
@[go_sem] theorem Tryd.fld27_0 : fieldO Tryd.prog 27 0 = some (0, 3) := by kernel_rfl
@[go_sem] theorem Tryd.fld27_1 : fieldO Tryd.prog 27 1 = some (1, 3) := by kernel_rfl
@[go_sem] theorem Tryd.fld27_2 : fieldO Tryd.prog 27 2 = some (2, 3) := by kernel_rfl
@[go_sem] theorem Tryd.fld27_3 : fieldO Tryd.prog 27 3 = some (3, 3) := by kernel_rfl
@[go_sem] theorem Tryd.bld27 (parts : List (Nat × TV)) : buildO Tryd.prog 27 parts = (fillT (fun i => ([(0, 1), (1, 1), (2, 1), (3, 1)] : List (Nat × Nat))[i]?) [.int .i64 0, .int .i64 0, .int .i64 0, .int .i64 0] parts).map .agg := by kernel_rfl
@[go_sem] theorem Tryd.eq27 (a0 b0 : Int) (a1 b1 : Int) (a2 b2 : Int) (a3 b3 : Int) : eqT Tryd.prog 20 27 (.agg [.int .i64 a0, .int .i64 a1, .int .i64 a2, .int .i64 a3]) (.agg [.int .i64 b0, .int .i64 b1, .int .i64 b2, .int .i64 b3]) = some ((a0 == b0) && ((a1 == b1) && ((a2 == b2) && ((a3 == b3) && true)))) := by kernel_rfl
@[go_sem] theorem Tryd.eqg27 : Program.eqGuardType Tryd.prog (Program.depth Tryd.prog) 27 = false := by kernel_rfl
@[go_sem] theorem Tryd.agg28 : aggO Tryd.prog 28 = some false := by kernel_rfl
@[go_sem] theorem Tryd.pln28 : plainO Tryd.prog 28 = some true := by kernel_rfl
@[go_sem] theorem Tryd.sz28 : szO Tryd.prog 28 = some 1 := by kernel_rfl
@[go_sem] theorem Tryd.zero28 : zeroL Tryd.prog 28 = some [.int .i64 0] := by kernel_rfl
@[go_sem] theorem Tryd.small28 : smallO Tryd.prog 28 = some (1, 8) := by kernel_rfl
@[go_sem] theorem Tryd.zt28 : zeroT Tryd.prog 28 = some (.int .i64 0) := by kernel_rfl
@[go_sem] theorem Tryd.knd28 : kindO Tryd.prog 28 = some .i64 := by kernel_rfl
@[go_sem] theorem Tryd.und28 : Program.underlying Tryd.prog 28 = some (.int .i64) := by kernel_rfl
@[go_sem] theorem Tryd.agg30 : aggO Tryd.prog 30 = some false := by kernel_rfl
@[go_sem] theorem Tryd.pln30 : plainO Tryd.prog 30 = some true := by kernel_rfl
@[go_sem] theorem Tryd.sz30 : szO Tryd.prog 30 = some 1 := by kernel_rfl
@[go_sem] theorem Tryd.zero30 : zeroL Tryd.prog 30 = some [.nilFn] := by kernel_rfl
@[go_sem] theorem Tryd.small30 : smallO Tryd.prog 30 = some (1, 8) := by kernel_rfl
@[go_sem] theorem Tryd.zt30 : zeroT Tryd.prog 30 = some (.nilFn) := by kernel_rfl
@[go_sem] theorem Tryd.agg32 : aggO Tryd.prog 32 = some true := by kernel_rfl
@[go_sem] theorem Tryd.pln32 : plainO Tryd.prog 32 = some true := by kernel_rfl
@[go_sem] theorem Tryd.sz32 : szO Tryd.prog 32 = some 3 := by kernel_rfl
@[go_sem] theorem Tryd.zero32 : zeroL Tryd.prog 32 = some [.nilSl, .int .i64 0, .int .i64 0] := by kernel_rfl
@[go_sem] theorem Tryd.small32 : smallO Tryd.prog 32 = some (3, 40) := by kernel_rfl
@[go_sem] theorem Tryd.zt32 : zeroT Tryd.prog 32 = some (.agg [.nilSl, .int .i64 0, .int .i64 0]) := by kernel_rfl
@[go_sem] theorem Tryd.fld32_0 : fieldO Tryd.prog 32 0 = some (0, 22) := by kernel_rfl
@[go_sem] theorem Tryd.fld32_1 : fieldO Tryd.prog 32 1 = some (1, 3) := by kernel_rfl
@[go_sem] theorem Tryd.fld32_2 : fieldO Tryd.prog 32 2 = some (2, 3) := by kernel_rfl
@[go_sem] theorem Tryd.bld32 (parts : List (Nat × TV)) : buildO Tryd.prog 32 parts = (fillT (fun i => ([(0, 1), (1, 1), (2, 1)] : List (Nat × Nat))[i]?) [.nilSl, .int .i64 0, .int .i64 0] parts).map .agg := by kernel_rfl
@[go_sem] theorem Tryd.bldp32 (parts : List (Nat × PV)) : buildP Tryd.prog 32 parts = fillP (fun i => ([(0, 1), (1, 1), (2, 1)] : List (Nat × Nat))[i]?) [.t (.nilSl), .t (.int .i64 0), .t (.int .i64 0)] parts := by kernel_rfl
@[go_sem] theorem Tryd.eqg32 : Program.eqGuardType Tryd.prog (Program.depth Tryd.prog) 32 = false := by kernel_rfl
@[go_sem] theorem Tryd.agg34 : aggO Tryd.prog 34 = some false := by kernel_rfl
@[go_sem] theorem Tryd.pln34 : plainO Tryd.prog 34 = some true := by kernel_rfl
@[go_sem] theorem Tryd.sz34 : szO Tryd.prog 34 = some 1 := by kernel_rfl
@[go_sem] theorem Tryd.zero34 : zeroL Tryd.prog 34 = some [.nilFn] := by kernel_rfl
@[go_sem] theorem Tryd.small34 : smallO Tryd.prog 34 = some (1, 8) := by kernel_rfl
@[go_sem] theorem Tryd.zt34 : zeroT Tryd.prog 34 = some (.nilFn) := by kernel_rfl
@[go_sem] theorem Tryd.agg37 : aggO Tryd.prog 37 = some false := by kernel_rfl
@[go_sem] theorem Tryd.pln37 : plainO Tryd.prog 37 = some true := by kernel_rfl
@[go_sem] theorem Tryd.sz37 : szO Tryd.prog 37 = some 1 := by kernel_rfl
@[go_sem] theorem Tryd.zero37 : zeroL Tryd.prog 37 = some [.nilFn] := by kernel_rfl
@[go_sem] theorem Tryd.small37 : smallO Tryd.prog 37 = some (1, 8) := by kernel_rfl
@[go_sem] theorem Tryd.zt37 : zeroT Tryd.prog 37 = some (.nilFn) := by kernel_rfl
@[go_sem] theorem Tryd.agg38 : aggO Tryd.prog 38 = some false := by kernel_rfl
@[go_sem] theorem Tryd.pln38 : plainO Tryd.prog 38 = some true := by kernel_rfl
@[go_sem] theorem Tryd.sz38 : szO Tryd.prog 38 = some 1 := by kernel_rfl
@[go_sem] theorem Tryd.zero38 : zeroL Tryd.prog 38 = some [.nilFn] := by kernel_rfl
@[go_sem] theorem Tryd.small38 : smallO Tryd.prog 38 = some (1, 8) := by kernel_rfl
@[go_sem] theorem Tryd.zt38 : zeroT Tryd.prog 38 = some (.nilFn) := by kernel_rfl
@[go_sem] theorem Tryd.agg40 : aggO Tryd.prog 40 = some true := by kernel_rfl
@[go_sem] theorem Tryd.pln40 : plainO Tryd.prog 40 = some true := by kernel_rfl
@[go_sem] theorem Tryd.sz40 : szO Tryd.prog 40 = some 2 := by kernel_rfl
@[go_sem] theorem Tryd.zero40 : zeroL Tryd.prog 40 = some [.int .i64 0, .int .i64 0] := by kernel_rfl
@[go_sem] theorem Tryd.small40 : smallO Tryd.prog 40 = some (2, 16) := by kernel_rfl
@[go_sem] theorem Tryd.zt40 : zeroT Tryd.prog 40 = some (.agg [.int .i64 0, .int .i64 0]) := by kernel_rfl
@[go_sem] theorem Tryd.fld40_0 : fieldO Tryd.prog 40 0 = some (0, 3) := by kernel_rfl
@[go_sem] theorem Tryd.fld40_1 : fieldO Tryd.prog 40 1 = some (1, 3) := by kernel_rfl
@[go_sem] theorem Tryd.bld40 (parts : List (Nat × TV)) : buildO Tryd.prog 40 parts = (fillT (fun i => ([(0, 1), (1, 1)] : List (Nat × Nat))[i]?) [.int .i64 0, .int .i64 0] parts).map .agg := by kernel_rfl
@[go_sem] theorem Tryd.eqg40 : Program.eqGuardType Tryd.prog (Program.depth Tryd.prog) 40 = false := by kernel_rfl
@[go_sem] theorem Tryd.agg41 : aggO Tryd.prog 41 = some true := by kernel_rfl
@[go_sem] theorem Tryd.pln41 : plainO Tryd.prog 41 = some true := by kernel_rfl
@[go_sem] theorem Tryd.sz41 : szO Tryd.prog 41 = some 2 := by kernel_rfl
@[go_sem] theorem Tryd.zero41 : zeroL Tryd.prog 41 = some [.int .i64 0, .int .i64 0] := by kernel_rfl
@[go_sem] theorem Tryd.small41 : smallO Tryd.prog 41 = some (2, 16) := by kernel_rfl
@[go_sem] theorem Tryd.zt41 : zeroT Tryd.prog 41 = some (.agg [.int .i64 0, .int .i64 0]) := by kernel_rfl
@[go_sem] theorem Tryd.fld41_0 : fieldO Tryd.prog 41 0 = some (0, 3) := by kernel_rfl
@[go_sem] theorem Tryd.fld41_1 : fieldO Tryd.prog 41 1 = some (1, 3) := by kernel_rfl
@[go_sem] theorem Tryd.bld41 (parts : List (Nat × TV)) : buildO Tryd.prog 41 parts = (fillT (fun i => ([(0, 1), (1, 1)] : List (Nat × Nat))[i]?) [.int .i64 0, .int .i64 0] parts).map .agg := by kernel_rfl
@[go_sem] theorem Tryd.eq41 (a0 b0 : Int) (a1 b1 : Int) : eqT Tryd.prog 20 41 (.agg [.int .i64 a0, .int .i64 a1]) (.agg [.int .i64 b0, .int .i64 b1]) = some ((a0 == b0) && ((a1 == b1) && true)) := by kernel_rfl
@[go_sem] theorem Tryd.eqg41 : Program.eqGuardType Tryd.prog (Program.depth Tryd.prog) 41 = false := by kernel_rfl
@[go_sem] theorem Tryd.agg43 : aggO Tryd.prog 43 = some true := by kernel_rfl
@[go_sem] theorem Tryd.pln43 : plainO Tryd.prog 43 = some true := by kernel_rfl
@[go_sem] theorem Tryd.sz43 : szO Tryd.prog 43 = some 8 := by kernel_rfl
@[go_sem] theorem Tryd.zero43 : zeroL Tryd.prog 43 = some [.int .i64 0, .int .i64 0, .int .i64 0, .int .i64 0, .int .i64 0, .int .i64 0, .int .i64 0, .int .i64 0] := by kernel_rfl
@[go_sem] theorem Tryd.small43 : smallO Tryd.prog 43 = some (8, 64) := by kernel_rfl
@[go_sem] theorem Tryd.zt43 : zeroT Tryd.prog 43 = some (.agg [.int .i64 0, .int .i64 0, .int .i64 0, .int .i64 0, .int .i64 0, .int .i64 0, .int .i64 0, .int .i64 0]) := by kernel_rfl
@[go_sem] theorem Tryd.fld43_0 : fieldO Tryd.prog 43 0 = some (0, 3) := by kernel_rfl
@[go_sem] theorem Tryd.fld43_1 : fieldO Tryd.prog 43 1 = some (1, 41) := by kernel_rfl
@[go_sem] theorem Tryd.fld43_2 : fieldO Tryd.prog 43 2 = some (3, 41) := by kernel_rfl
@[go_sem] theorem Tryd.fld43_3 : fieldO Tryd.prog 43 3 = some (5, 41) := by kernel_rfl
@[go_sem] theorem Tryd.fld43_4 : fieldO Tryd.prog 43 4 = some (7, 3) := by kernel_rfl
@[go_sem] theorem Tryd.bld43 (parts : List (Nat × TV)) : buildO Tryd.prog 43 parts = (fillT (fun i => ([(0, 1), (1, 2), (3, 2), (5, 2), (7, 1)] : List (Nat × Nat))[i]?) [.int .i64 0, .int .i64 0, .int .i64 0, .int .i64 0, .int .i64 0, .int .i64 0, .int .i64 0, .int .i64 0] parts).map .agg := by kernel_rfl
@[go_sem] theorem Tryd.eq43 (a0 b0 : Int) (a1 b1 : Int) (a2 b2 : Int) (a3 b3 : Int) (a4 b4 : Int) (a5 b5 : Int) (a6 b6 : Int) (a7 b7 : Int) : eqT Tryd.prog 20 43 (.agg [.int .i64 a0, .int .i64 a1, .int .i64 a2, .int .i64 a3, .int .i64 a4, .int .i64 a5, .int .i64 a6, .int .i64 a7]) (.agg [.int .i64 b0, .int .i64 b1, .int .i64 b2, .int .i64 b3, .int .i64 b4, .int .i64 b5, .int .i64 b6, .int .i64 b7]) = some ((a0 == b0) && (((a1 == b1) && ((a2 == b2) && true)) && (((a3 == b3) && ((a4 == b4) && true)) && (((a5 == b5) && ((a6 == b6) && true)) && ((a7 == b7) && true))))) := by kernel_rfl
@[go_sem] theorem Tryd.eqg43 : Program.eqGuardType Tryd.prog (Program.depth Tryd.prog) 43 = false := by kernel_rfl
@[go_sem] theorem Tryd.agg44 : aggO Tryd.prog 44 = some false := by kernel_rfl
@[go_sem] theorem Tryd.pln44 : plainO Tryd.prog 44 = some true := by kernel_rfl
@[go_sem] theorem Tryd.sz44 : szO Tryd.prog 44 = some 1 := by kernel_rfl
@[go_sem] theorem Tryd.zero44 : zeroL Tryd.prog 44 = some [.nilSl] := by kernel_rfl
@[go_sem] theorem Tryd.small44 : smallO Tryd.prog 44 = some (1, 24) := by kernel_rfl
@[go_sem] theorem Tryd.zt44 : zeroT Tryd.prog 44 = some (.nilSl) := by kernel_rfl
@[go_sem] theorem Tryd.eqn44 : eqT Tryd.prog 20 44 .nilSl .nilSl = some true := by kernel_rfl
@[go_sem] theorem Tryd.eqs44 (cs : List TV) (n : Nat) (f : Bool) : eqT Tryd.prog 20 44 (.sl cs n f) .nilSl = some false := by kernel_rfl
@[go_sem] theorem Tryd.eqt44 (cs : List TV) (n : Nat) (f : Bool) : eqT Tryd.prog 20 44 .nilSl (.sl cs n f) = some false := by kernel_rfl
@[go_sem] theorem Tryd.sl44 : sliceO Tryd.prog 44 = some 208 := by kernel_rfl
@[go_sem] theorem Tryd.und44 : Program.underlying Tryd.prog 44 = some (.slice 208) := by kernel_rfl
@[go_sem] theorem Tryd.agg45 : aggO Tryd.prog 45 = some true := by kernel_rfl
@[go_sem] theorem Tryd.pln45 : plainO Tryd.prog 45 = some true := by kernel_rfl
@[go_sem] theorem Tryd.sz45 : szO Tryd.prog 45 = some 3 := by kernel_rfl
@[go_sem] theorem Tryd.zero45 : zeroL Tryd.prog 45 = some [.int .i64 0, .int .i64 0, .int .i64 0] := by kernel_rfl
@[go_sem] theorem Tryd.small45 : smallO Tryd.prog 45 = some (3, 24) := by kernel_rfl
@[go_sem] theorem Tryd.zt45 : zeroT Tryd.prog 45 = some (.agg [.int .i64 0, .int .i64 0, .int .i64 0]) := by kernel_rfl
@[go_sem] theorem Tryd.fld45_0 : fieldO Tryd.prog 45 0 = some (0, 3) := by kernel_rfl
@[go_sem] theorem Tryd.fld45_1 : fieldO Tryd.prog 45 1 = some (1, 3) := by kernel_rfl
@[go_sem] theorem Tryd.fld45_2 : fieldO Tryd.prog 45 2 = some (2, 3) := by kernel_rfl
@[go_sem] theorem Tryd.bld45 (parts : List (Nat × TV)) : buildO Tryd.prog 45 parts = (fillT (fun i => ([(0, 1), (1, 1), (2, 1)] : List (Nat × Nat))[i]?) [.int .i64 0, .int .i64 0, .int .i64 0] parts).map .agg := by kernel_rfl
@[go_sem] theorem Tryd.eqg45 : Program.eqGuardType Tryd.prog (Program.depth Tryd.prog) 45 = false := by kernel_rfl
@[go_sem] theorem Tryd.agg46 : aggO Tryd.prog 46 = some true := by kernel_rfl
@[go_sem] theorem Tryd.pln46 : plainO Tryd.prog 46 = some true := by kernel_rfl
@[go_sem] theorem Tryd.sz46 : szO Tryd.prog 46 = some 3 := by kernel_rfl
@[go_sem] theorem Tryd.zero46 : zeroL Tryd.prog 46 = some [.int .i64 0, .int .i64 0, .int .i64 0] := by kernel_rfl
@[go_sem] theorem Tryd.small46 : smallO Tryd.prog 46 = some (3, 24) := by kernel_rfl
@[go_sem] theorem Tryd.zt46 : zeroT Tryd.prog 46 = some (.agg [.int .i64 0, .int .i64 0, .int .i64 0]) := by kernel_rfl
@[go_sem] theorem Tryd.fld46_0 : fieldO Tryd.prog 46 0 = some (0, 3) := by kernel_rfl
@[go_sem] theorem Tryd.fld46_1 : fieldO Tryd.prog 46 1 = some (1, 3) := by kernel_rfl
@[go_sem] theorem Tryd.fld46_2 : fieldO Tryd.prog 46 2 = some (2, 3) := by kernel_rfl
@[go_sem] theorem Tryd.bld46 (parts : List (Nat × TV)) : buildO Tryd.prog 46 parts = (fillT (fun i => ([(0, 1), (1, 1), (2, 1)] : List (Nat × Nat))[i]?) [.int .i64 0, .int .i64 0, .int .i64 0] parts).map .agg := by kernel_rfl
@[go_sem] theorem Tryd.eq46 (a0 b0 : Int) (a1 b1 : Int) (a2 b2 : Int) : eqT Tryd.prog 20 46 (.agg [.int .i64 a0, .int .i64 a1, .int .i64 a2]) (.agg [.int .i64 b0, .int .i64 b1, .int .i64 b2]) = some ((a0 == b0) && ((a1 == b1) && ((a2 == b2) && true))) := by kernel_rfl
@[go_sem] theorem Tryd.eqg46 : Program.eqGuardType Tryd.prog (Program.depth Tryd.prog) 46 = false := by kernel_rfl
@[go_sem] theorem Tryd.agg47 : aggO Tryd.prog 47 = some true := by kernel_rfl
@[go_sem] theorem Tryd.pln47 : plainO Tryd.prog 47 = some true := by kernel_rfl
@[go_sem] theorem Tryd.sz47 : szO Tryd.prog 47 = some 14 := by kernel_rfl
@[go_sem] theorem Tryd.zero47 : zeroL Tryd.prog 47 = some [.int .i64 0, .int .i64 0, .int .i64 0, .int .i64 0, .int .i64 0, .int .i64 0, .int .i64 0, .int .i64 0, .nilSl, .int .i64 0, .int .i64 0, .int .i64 0, .int .i64 0, .int .i64 0] := by kernel_rfl
@[go_sem] theorem Tryd.small47 : smallO Tryd.prog 47 = some (14, 128) := by kernel_rfl
@[go_sem] theorem Tryd.zt47 : zeroT Tryd.prog 47 = some (.agg [.int .i64 0, .int .i64 0, .int .i64 0, .int .i64 0, .int .i64 0, .int .i64 0, .int .i64 0, .int .i64 0, .nilSl, .int .i64 0, .int .i64 0, .int .i64 0, .int .i64 0, .int .i64 0]) := by kernel_rfl
@[go_sem] theorem Tryd.fld47_0 : fieldO Tryd.prog 47 0 = some (0, 43) := by kernel_rfl
@[go_sem] theorem Tryd.fld47_1 : fieldO Tryd.prog 47 1 = some (8, 44) := by kernel_rfl
@[go_sem] theorem Tryd.fld47_2 : fieldO Tryd.prog 47 2 = some (9, 46) := by kernel_rfl
@[go_sem] theorem Tryd.fld47_3 : fieldO Tryd.prog 47 3 = some (12, 3) := by kernel_rfl
@[go_sem] theorem Tryd.fld47_4 : fieldO Tryd.prog 47 4 = some (13, 3) := by kernel_rfl
@[go_sem] theorem Tryd.bld47 (parts : List (Nat × TV)) : buildO Tryd.prog 47 parts = (fillT (fun i => ([(0, 8), (8, 1), (9, 3), (12, 1), (13, 1)] : List (Nat × Nat))[i]?) [.int .i64 0, .int .i64 0, .int .i64 0, .int .i64 0, .int .i64 0, .int .i64 0, .int .i64 0, .int .i64 0, .nilSl, .int .i64 0, .int .i64 0, .int .i64 0, .int .i64 0, .int .i64 0] parts).map .agg := by kernel_rfl
@[go_sem] theorem Tryd.bldp47 (parts : List (Nat × PV)) : buildP Tryd.prog 47 parts = fillP (fun i => ([(0, 8), (8, 1), (9, 3), (12, 1), (13, 1)] : List (Nat × Nat))[i]?) [.t (.int .i64 0), .t (.int .i64 0), .t (.int .i64 0), .t (.int .i64 0), .t (.int .i64 0), .t (.int .i64 0), .t (.int .i64 0), .t (.int .i64 0), .t (.nilSl), .t (.int .i64 0), .t (.int .i64 0), .t (.int .i64 0), .t (.int .i64 0), .t (.int .i64 0)] parts := by kernel_rfl
@[go_sem] theorem Tryd.eqg47 : Program.eqGuardType Tryd.prog (Program.depth Tryd.prog) 47 = false := by kernel_rfl
@[go_sem] theorem Tryd.agg48 : aggO Tryd.prog 48 = some true := by kernel_rfl
@[go_sem] theorem Tryd.pln48 : plainO Tryd.prog 48 = some true := by kernel_rfl
@[go_sem] theorem Tryd.sz48 : szO Tryd.prog 48 = some 14 := by kernel_rfl
@[go_sem] theorem Tryd.zero48 : zeroL Tryd.prog 48 = some [.int .i64 0, .int .i64 0, .int .i64 0, .int .i64 0, .int .i64 0, .int .i64 0, .int .i64 0, .int .i64 0, .nilSl, .int .i64 0, .int .i64 0, .int .i64 0, .int .i64 0, .int .i64 0] := by kernel_rfl
@[go_sem] theorem Tryd.small48 : smallO Tryd.prog 48 = some (14, 128) := by kernel_rfl
@[go_sem] theorem Tryd.zt48 : zeroT Tryd.prog 48 = some (.agg [.int .i64 0, .int .i64 0, .int .i64 0, .int .i64 0, .int .i64 0, .int .i64 0, .int .i64 0, .int .i64 0, .nilSl, .int .i64 0, .int .i64 0, .int .i64 0, .int .i64 0, .int .i64 0]) := by kernel_rfl
@[go_sem] theorem Tryd.fld48_0 : fieldO Tryd.prog 48 0 = some (0, 43) := by kernel_rfl
@[go_sem] theorem Tryd.fld48_1 : fieldO Tryd.prog 48 1 = some (8, 44) := by kernel_rfl
@[go_sem] theorem Tryd.fld48_2 : fieldO Tryd.prog 48 2 = some (9, 46) := by kernel_rfl
@[go_sem] theorem Tryd.fld48_3 : fieldO Tryd.prog 48 3 = some (12, 3) := by kernel_rfl
@[go_sem] theorem Tryd.fld48_4 : fieldO Tryd.prog 48 4 = some (13, 3) := by kernel_rfl
@[go_sem] theorem Tryd.bld48 (parts : List (Nat × TV)) : buildO Tryd.prog 48 parts = (fillT (fun i => ([(0, 8), (8, 1), (9, 3), (12, 1), (13, 1)] : List (Nat × Nat))[i]?) [.int .i64 0, .int .i64 0, .int .i64 0, .int .i64 0, .int .i64 0, .int .i64 0, .int .i64 0, .int .i64 0, .nilSl, .int .i64 0, .int .i64 0, .int .i64 0, .int .i64 0, .int .i64 0] parts).map .agg := by kernel_rfl
@[go_sem] theorem Tryd.bldp48 (parts : List (Nat × PV)) : buildP Tryd.prog 48 parts = fillP (fun i => ([(0, 8), (8, 1), (9, 3), (12, 1), (13, 1)] : List (Nat × Nat))[i]?) [.t (.int .i64 0), .t (.int .i64 0), .t (.int .i64 0), .t (.int .i64 0), .t (.int .i64 0), .t (.int .i64 0), .t (.int .i64 0), .t (.int .i64 0), .t (.nilSl), .t (.int .i64 0), .t (.int .i64 0), .t (.int .i64 0), .t (.int .i64 0), .t (.int .i64 0)] parts := by kernel_rfl
@[go_sem] theorem Tryd.eqg48 : Program.eqGuardType Tryd.prog (Program.depth Tryd.prog) 48 = false := by kernel_rfl
@[go_sem] theorem Tryd.agg49 : aggO Tryd.prog 49 = some true := by kernel_rfl
@[go_sem] theorem Tryd.pln49 : plainO Tryd.prog 49 = some true := by kernel_rfl
@[go_sem] theorem Tryd.sz49 : szO Tryd.prog 49 = some 2 := by kernel_rfl
@[go_sem] theorem Tryd.zero49 : zeroL Tryd.prog 49 = some [.nilSl, .int .i64 0] := by kernel_rfl
@[go_sem] theorem Tryd.small49 : smallO Tryd.prog 49 = some (2, 32) := by kernel_rfl
@[go_sem] theorem Tryd.zt49 : zeroT Tryd.prog 49 = some (.agg [.nilSl, .int .i64 0]) := by kernel_rfl
@[go_sem] theorem Tryd.fld49_0 : fieldO Tryd.prog 49 0 = some (0, 22) := by kernel_rfl
@[go_sem] theorem Tryd.fld49_1 : fieldO Tryd.prog 49 1 = some (1, 3) := by kernel_rfl
@[go_sem] theorem Tryd.bld49 (parts : List (Nat × TV)) : buildO Tryd.prog 49 parts = (fillT (fun i => ([(0, 1), (1, 1)] : List (Nat × Nat))[i]?) [.nilSl, .int .i64 0] parts).map .agg := by kernel_rfl
@[go_sem] theorem Tryd.bldp49 (parts : List (Nat × PV)) : buildP Tryd.prog 49 parts = fillP (fun i => ([(0, 1), (1, 1)] : List (Nat × Nat))[i]?) [.t (.nilSl), .t (.int .i64 0)] parts := by kernel_rfl
@[go_sem] theorem Tryd.eqg49 : Program.eqGuardType Tryd.prog (Program.depth Tryd.prog) 49 = false := by kernel_rfl
@[go_sem] theorem Tryd.agg58 : aggO Tryd.prog 58 = some false := by kernel_rfl
@[go_sem] theorem Tryd.pln58 : plainO Tryd.prog 58 = some true := by kernel_rfl
@[go_sem] theorem Tryd.sz58 : szO Tryd.prog 58 = some 1 := by kernel_rfl
@[go_sem] theorem Tryd.zero58 : zeroL Tryd.prog 58 = some [.nilFn] := by kernel_rfl
@[go_sem] theorem Tryd.small58 : smallO Tryd.prog 58 = some (1, 8) := by kernel_rfl
@[go_sem] theorem Tryd.zt58 : zeroT Tryd.prog 58 = some (.nilFn) := by kernel_rfl
@[go_sem] theorem Tryd.agg59 : aggO Tryd.prog 59 = some false := by kernel_rfl
@[go_sem] theorem Tryd.pln59 : plainO Tryd.prog 59 = some true := by kernel_rfl
@[go_sem] theorem Tryd.sz59 : szO Tryd.prog 59 = some 1 := by kernel_rfl
@[go_sem] theorem Tryd.zero59 : zeroL Tryd.prog 59 = some [.nilFn] := by kernel_rfl
@[go_sem] theorem Tryd.small59 : smallO Tryd.prog 59 = some (1, 8) := by kernel_rfl
@[go_sem] theorem Tryd.zt59 : zeroT Tryd.prog 59 = some (.nilFn) := by kernel_rfl
@[go_sem] theorem Tryd.agg61 : aggO Tryd.prog 61 = some false := by kernel_rfl
@[go_sem] theorem Tryd.pln61 : plainO Tryd.prog 61 = some true := by kernel_rfl
@[go_sem] theorem Tryd.sz61 : szO Tryd.prog 61 = some 1 := by kernel_rfl
@[go_sem] theorem Tryd.zero61 : zeroL Tryd.prog 61 = some [.nilFn] := by kernel_rfl
@[go_sem] theorem Tryd.small61 : smallO Tryd.prog 61 = some (1, 8) := by kernel_rfl
@[go_sem] theorem Tryd.zt61 : zeroT Tryd.prog 61 = some (.nilFn) := by kernel_rfl
@[go_sem] theorem Tryd.agg63 : aggO Tryd.prog 63 = some false := by kernel_rfl
@[go_sem] theorem Tryd.pln63 : plainO Tryd.prog 63 = some true := by kernel_rfl
@[go_sem] theorem Tryd.sz63 : szO Tryd.prog 63 = some 1 := by kernel_rfl
@[go_sem] theorem Tryd.zero63 : zeroL Tryd.prog 63 = some [.nilFn] := by kernel_rfl
@[go_sem] theorem Tryd.small63 : smallO Tryd.prog 63 = some (1, 8) := by kernel_rfl
@[go_sem] theorem Tryd.zt63 : zeroT Tryd.prog 63 = some (.nilFn) := by kernel_rfl
@[go_sem] theorem Tryd.agg64 : aggO Tryd.prog 64 = some false := by kernel_rfl
@[go_sem] theorem Tryd.pln64 : plainO Tryd.prog 64 = some true := by kernel_rfl
@[go_sem] theorem Tryd.sz64 : szO Tryd.prog 64 = some 1 := by kernel_rfl
@[go_sem] theorem Tryd.zero64 : zeroL Tryd.prog 64 = some [.nilFn] := by kernel_rfl
@[go_sem] theorem Tryd.small64 : smallO Tryd.prog 64 = some (1, 8) := by kernel_rfl
@[go_sem] theorem Tryd.zt64 : zeroT Tryd.prog 64 = some (.nilFn) := by kernel_rfl
@[go_sem] theorem Tryd.agg65 : aggO Tryd.prog 65 = some false := by kernel_rfl
@[go_sem] theorem Tryd.pln65 : plainO Tryd.prog 65 = some true := by kernel_rfl
@[go_sem] theorem Tryd.sz65 : szO Tryd.prog 65 = some 1 := by kernel_rfl
@[go_sem] theorem Tryd.zero65 : zeroL Tryd.prog 65 = some [.nilFn] := by kernel_rfl
@[go_sem] theorem Tryd.small65 : smallO Tryd.prog 65 = some (1, 8) := by kernel_rfl
@[go_sem] theorem Tryd.zt65 : zeroT Tryd.prog 65 = some (.nilFn) := by kernel_rfl
@[go_sem] theorem Tryd.agg66 : aggO Tryd.prog 66 = some false := by kernel_rfl
@[go_sem] theorem Tryd.pln66 : plainO Tryd.prog 66 = some true := by kernel_rfl
@[go_sem] theorem Tryd.sz66 : szO Tryd.prog 66 = some 1 := by kernel_rfl
@[go_sem] theorem Tryd.zero66 : zeroL Tryd.prog 66 = some [.nilSl] := by kernel_rfl
@[go_sem] theorem Tryd.small66 : smallO Tryd.prog 66 = some (1, 24) := by kernel_rfl
@[go_sem] theorem Tryd.zt66 : zeroT Tryd.prog 66 = some (.nilSl) := by kernel_rfl
@[go_sem] theorem Tryd.eqn66 : eqT Tryd.prog 20 66 .nilSl .nilSl = some true := by kernel_rfl
@[go_sem] theorem Tryd.eqs66 (cs : List TV) (n : Nat) (f : Bool) : eqT Tryd.prog 20 66 (.sl cs n f) .nilSl = some false := by kernel_rfl
@[go_sem] theorem Tryd.eqt66 (cs : List TV) (n : Nat) (f : Bool) : eqT Tryd.prog 20 66 .nilSl (.sl cs n f) = some false := by kernel_rfl
@[go_sem] theorem Tryd.sl66 : sliceO Tryd.prog 66 = some 82 := by kernel_rfl
@[go_sem] theorem Tryd.und66 : Program.underlying Tryd.prog 66 = some (.slice 82) := by kernel_rfl
@[go_sem] theorem Tryd.agg68 : aggO Tryd.prog 68 = some false := by kernel_rfl
@[go_sem] theorem Tryd.pln68 : plainO Tryd.prog 68 = some true := by kernel_rfl
@[go_sem] theorem Tryd.sz68 : szO Tryd.prog 68 = some 1 := by kernel_rfl
@[go_sem] theorem Tryd.zero68 : zeroL Tryd.prog 68 = some [.nilFn] := by kernel_rfl
@[go_sem] theorem Tryd.small68 : smallO Tryd.prog 68 = some (1, 8) := by kernel_rfl
@[go_sem] theorem Tryd.zt68 : zeroT Tryd.prog 68 = some (.nilFn) := by kernel_rfl
@[go_sem] theorem Tryd.agg69 : aggO Tryd.prog 69 = some false := by kernel_rfl
@[go_sem] theorem Tryd.pln69 : plainO Tryd.prog 69 = some true := by kernel_rfl
@[go_sem] theorem Tryd.sz69 : szO Tryd.prog 69 = some 1 := by kernel_rfl
@[go_sem] theorem Tryd.zero69 : zeroL Tryd.prog 69 = some [.nilFn] := by kernel_rfl
@[go_sem] theorem Tryd.small69 : smallO Tryd.prog 69 = some (1, 8) := by kernel_rfl
@[go_sem] theorem Tryd.zt69 : zeroT Tryd.prog 69 = some (.nilFn) := by kernel_rfl
@[go_sem] theorem Tryd.agg70 : aggO Tryd.prog 70 = some false := by kernel_rfl
@[go_sem] theorem Tryd.pln70 : plainO Tryd.prog 70 = some true := by kernel_rfl
@[go_sem] theorem Tryd.sz70 : szO Tryd.prog 70 = some 1 := by kernel_rfl
@[go_sem] theorem Tryd.zero70 : zeroL Tryd.prog 70 = some [.nilFn] := by kernel_rfl
@[go_sem] theorem Tryd.small70 : smallO Tryd.prog 70 = some (1, 8) := by kernel_rfl
@[go_sem] theorem Tryd.zt70 : zeroT Tryd.prog 70 = some (.nilFn) := by kernel_rfl
@[go_sem] theorem Tryd.agg71 : aggO Tryd.prog 71 = some true := by kernel_rfl
@[go_sem] theorem Tryd.pln71 : plainO Tryd.prog 71 = some true := by kernel_rfl
@[go_sem] theorem Tryd.sz71 : szO Tryd.prog 71 = some 3 := by kernel_rfl
@[go_sem] theorem Tryd.zero71 : zeroL Tryd.prog 71 = some [.int .i64 0, .int .i64 0, .int .i64 0] := by kernel_rfl
@[go_sem] theorem Tryd.small71 : smallO Tryd.prog 71 = some (3, 24) := by kernel_rfl
@[go_sem] theorem Tryd.zt71 : zeroT Tryd.prog 71 = some (.agg [.int .i64 0, .int .i64 0, .int .i64 0]) := by kernel_rfl
@[go_sem] theorem Tryd.fld71_0 : fieldO Tryd.prog 71 0 = some (0, 3) := by kernel_rfl
@[go_sem] theorem Tryd.fld71_1 : fieldO Tryd.prog 71 1 = some (1, 3) := by kernel_rfl
@[go_sem] theorem Tryd.fld71_2 : fieldO Tryd.prog 71 2 = some (2, 3) := by kernel_rfl
@[go_sem] theorem Tryd.bld71 (parts : List (Nat × TV)) : buildO Tryd.prog 71 parts = (fillT (fun i => ([(0, 1), (1, 1), (2, 1)] : List (Nat × Nat))[i]?) [.int .i64 0, .int .i64 0, .int .i64 0] parts).map .agg := by kernel_rfl
@[go_sem] theorem Tryd.eqg71 : Program.eqGuardType Tryd.prog (Program.depth Tryd.prog) 71 = false := by kernel_rfl
@[go_sem] theorem Tryd.agg72 : aggO Tryd.prog 72 = some true := by kernel_rfl
@[go_sem] theorem Tryd.pln72 : plainO Tryd.prog 72 = some true := by kernel_rfl
@[go_sem] theorem Tryd.sz72 : szO Tryd.prog 72 = some 3 := by kernel_rfl
@[go_sem] theorem Tryd.zero72 : zeroL Tryd.prog 72 = some [.int .i64 0, .int .i64 0, .int .i64 0] := by kernel_rfl
@[go_sem] theorem Tryd.small72 : smallO Tryd.prog 72 = some (3, 24) := by kernel_rfl
@[go_sem] theorem Tryd.zt72 : zeroT Tryd.prog 72 = some (.agg [.int .i64 0, .int .i64 0, .int .i64 0]) := by kernel_rfl
@[go_sem] theorem Tryd.fld72_0 : fieldO Tryd.prog 72 0 = some (0, 3) := by kernel_rfl
@[go_sem] theorem Tryd.fld72_1 : fieldO Tryd.prog 72 1 = some (1, 3) := by kernel_rfl
@[go_sem] theorem Tryd.fld72_2 : fieldO Tryd.prog 72 2 = some (2, 3) := by kernel_rfl
@[go_sem] theorem Tryd.bld72 (parts : List (Nat × TV)) : buildO Tryd.prog 72 parts = (fillT (fun i => ([(0, 1), (1, 1), (2, 1)] : List (Nat × Nat))[i]?) [.int .i64 0, .int .i64 0, .int .i64 0] parts).map .agg := by kernel_rfl
@[go_sem] theorem Tryd.eq72 (a0 b0 : Int) (a1 b1 : Int) (a2 b2 : Int) : eqT Tryd.prog 20 72 (.agg [.int .i64 a0, .int .i64 a1, .int .i64 a2]) (.agg [.int .i64 b0, .int .i64 b1, .int .i64 b2]) = some ((a0 == b0) && ((a1 == b1) && ((a2 == b2) && true))) := by kernel_rfl
@[go_sem] theorem Tryd.eqg72 : Program.eqGuardType Tryd.prog (Program.depth Tryd.prog) 72 = false := by kernel_rfl
@[go_sem] theorem Tryd.agg75 : aggO Tryd.prog 75 = some false := by kernel_rfl
@[go_sem] theorem Tryd.pln75 : plainO Tryd.prog 75 = some true := by kernel_rfl
@[go_sem] theorem Tryd.sz75 : szO Tryd.prog 75 = some 1 := by kernel_rfl
@[go_sem] theorem Tryd.zero75 : zeroL Tryd.prog 75 = some [.nilFn] := by kernel_rfl
@[go_sem] theorem Tryd.small75 : smallO Tryd.prog 75 = some (1, 8) := by kernel_rfl
@[go_sem] theorem Tryd.zt75 : zeroT Tryd.prog 75 = some (.nilFn) := by kernel_rfl
@[go_sem] theorem Tryd.agg77 : aggO Tryd.prog 77 = some false := by kernel_rfl
@[go_sem] theorem Tryd.pln77 : plainO Tryd.prog 77 = some true := by kernel_rfl
@[go_sem] theorem Tryd.sz77 : szO Tryd.prog 77 = some 1 := by kernel_rfl
@[go_sem] theorem Tryd.zero77 : zeroL Tryd.prog 77 = some [.nilFn] := by kernel_rfl
@[go_sem] theorem Tryd.small77 : smallO Tryd.prog 77 = some (1, 8) := by kernel_rfl
@[go_sem] theorem Tryd.zt77 : zeroT Tryd.prog 77 = some (.nilFn) := by kernel_rfl
@[go_sem] theorem Tryd.agg81 : aggO Tryd.prog 81 = some false := by kernel_rfl
@[go_sem] theorem Tryd.pln81 : plainO Tryd.prog 81 = some true := by kernel_rfl
@[go_sem] theorem Tryd.sz81 : szO Tryd.prog 81 = some 1 := by kernel_rfl
@[go_sem] theorem Tryd.zero81 : zeroL Tryd.prog 81 = some [.nilSl] := by kernel_rfl
@[go_sem] theorem Tryd.small81 : smallO Tryd.prog 81 = some (1, 24) := by kernel_rfl
@[go_sem] theorem Tryd.zt81 : zeroT Tryd.prog 81 = some (.nilSl) := by kernel_rfl
@[go_sem] theorem Tryd.eqn81 : eqT Tryd.prog 20 81 .nilSl .nilSl = some true := by kernel_rfl
@[go_sem] theorem Tryd.eqs81 (cs : List TV) (n : Nat) (f : Bool) : eqT Tryd.prog 20 81 (.sl cs n f) .nilSl = some false := by kernel_rfl
@[go_sem] theorem Tryd.eqt81 (cs : List TV) (n : Nat) (f : Bool) : eqT Tryd.prog 20 81 .nilSl (.sl cs n f) = some false := by kernel_rfl
@[go_sem] theorem Tryd.sl81 : sliceO Tryd.prog 81 = some 103 := by kernel_rfl
@[go_sem] theorem Tryd.und81 : Program.underlying Tryd.prog 81 = some (.slice 103) := by kernel_rfl
@[go_sem] theorem Tryd.agg82 : aggO Tryd.prog 82 = some false := by kernel_rfl
@[go_sem] theorem Tryd.pln82 : plainO Tryd.prog 82 = some true := by kernel_rfl
@[go_sem] theorem Tryd.sz82 : szO Tryd.prog 82 = some 1 := by kernel_rfl
@[go_sem] theorem Tryd.zero82 : zeroL Tryd.prog 82 = some [.nilSl] := by kernel_rfl
@[go_sem] theorem Tryd.small82 : smallO Tryd.prog 82 = some (1, 24) := by kernel_rfl
@[go_sem] theorem Tryd.zt82 : zeroT Tryd.prog 82 = some (.nilSl) := by kernel_rfl
@[go_sem] theorem Tryd.eqn82 : eqT Tryd.prog 20 82 .nilSl .nilSl = some true := by kernel_rfl
@[go_sem] theorem Tryd.eqs82 (cs : List TV) (n : Nat) (f : Bool) : eqT Tryd.prog 20 82 (.sl cs n f) .nilSl = some false := by kernel_rfl
@[go_sem] theorem Tryd.eqt82 (cs : List TV) (n : Nat) (f : Bool) : eqT Tryd.prog 20 82 .nilSl (.sl cs n f) = some false := by kernel_rfl
@[go_sem] theorem Tryd.sl82 : sliceO Tryd.prog 82 = some 9 := by kernel_rfl
@[go_sem] theorem Tryd.und82 : Program.underlying Tryd.prog 82 = some (.slice 9) := by kernel_rfl
@[go_sem] theorem Tryd.agg84 : aggO Tryd.prog 84 = some true := by kernel_rfl
@[go_sem] theorem Tryd.pln84 : plainO Tryd.prog 84 = some true := by kernel_rfl
@[go_sem] theorem Tryd.sz84 : szO Tryd.prog 84 = some 5 := by kernel_rfl
@[go_sem] theorem Tryd.zero84 : zeroL Tryd.prog 84 = some [.int .i64 0, .int .i64 0, .str ⟨#[]⟩, .int .i64 0, .nilSl] := by kernel_rfl
@[go_sem] theorem Tryd.small84 : smallO Tryd.prog 84 = some (5, 64) := by kernel_rfl
@[go_sem] theorem Tryd.zt84 : zeroT Tryd.prog 84 = some (.agg [.int .i64 0, .int .i64 0, .str ⟨#[]⟩, .int .i64 0, .nilSl]) := by kernel_rfl
@[go_sem] theorem Tryd.fld84_0 : fieldO Tryd.prog 84 0 = some (0, 3) := by kernel_rfl
@[go_sem] theorem Tryd.fld84_1 : fieldO Tryd.prog 84 1 = some (1, 3) := by kernel_rfl
@[go_sem] theorem Tryd.fld84_2 : fieldO Tryd.prog 84 2 = some (2, 9) := by kernel_rfl
@[go_sem] theorem Tryd.fld84_3 : fieldO Tryd.prog 84 3 = some (3, 3) := by kernel_rfl
@[go_sem] theorem Tryd.fld84_4 : fieldO Tryd.prog 84 4 = some (4, 82) := by kernel_rfl
@[go_sem] theorem Tryd.bld84 (parts : List (Nat × TV)) : buildO Tryd.prog 84 parts = (fillT (fun i => ([(0, 1), (1, 1), (2, 1), (3, 1), (4, 1)] : List (Nat × Nat))[i]?) [.int .i64 0, .int .i64 0, .str ⟨#[]⟩, .int .i64 0, .nilSl] parts).map .agg := by kernel_rfl
@[go_sem] theorem Tryd.bldp84 (parts : List (Nat × PV)) : buildP Tryd.prog 84 parts = fillP (fun i => ([(0, 1), (1, 1), (2, 1), (3, 1), (4, 1)] : List (Nat × Nat))[i]?) [.t (.int .i64 0), .t (.int .i64 0), .t (.str ⟨#[]⟩), .t (.int .i64 0), .t (.nilSl)] parts := by kernel_rfl
@[go_sem] theorem Tryd.eqg84 : Program.eqGuardType Tryd.prog (Program.depth Tryd.prog) 84 = false := by kernel_rfl
@[go_sem] theorem Tryd.agg85 : aggO Tryd.prog 85 = some false := by kernel_rfl
@[go_sem] theorem Tryd.pln85 : plainO Tryd.prog 85 = some true := by kernel_rfl
@[go_sem] theorem Tryd.sz85 : szO Tryd.prog 85 = some 1 := by kernel_rfl
@[go_sem] theorem Tryd.zero85 : zeroL Tryd.prog 85 = some [.nilFn] := by kernel_rfl
@[go_sem] theorem Tryd.small85 : smallO Tryd.prog 85 = some (1, 8) := by kernel_rfl
@[go_sem] theorem Tryd.zt85 : zeroT Tryd.prog 85 = some (.nilFn) := by kernel_rfl
@[go_sem] theorem Tryd.agg88 : aggO Tryd.prog 88 = some true := by kernel_rfl
@[go_sem] theorem Tryd.pln88 : plainO Tryd.prog 88 = some true := by kernel_rfl
@[go_sem] theorem Tryd.sz88 : szO Tryd.prog 88 = some 2 := by kernel_rfl
@[go_sem] theorem Tryd.zero88 : zeroL Tryd.prog 88 = some [.int .i64 0, .int .i64 0] := by kernel_rfl
@[go_sem] theorem Tryd.small88 : smallO Tryd.prog 88 = some (2, 16) := by kernel_rfl
@[go_sem] theorem Tryd.zt88 : zeroT Tryd.prog 88 = some (.agg [.int .i64 0, .int .i64 0]) := by kernel_rfl
@[go_sem] theorem Tryd.fld88_0 : fieldO Tryd.prog 88 0 = some (0, 3) := by kernel_rfl
@[go_sem] theorem Tryd.fld88_1 : fieldO Tryd.prog 88 1 = some (1, 3) := by kernel_rfl
@[go_sem] theorem Tryd.bld88 (parts : List (Nat × TV)) : buildO Tryd.prog 88 parts = (fillT (fun i => ([(0, 1), (1, 1)] : List (Nat × Nat))[i]?) [.int .i64 0, .int .i64 0] parts).map .agg := by kernel_rfl
@[go_sem] theorem Tryd.eq88 (a0 b0 : Int) (a1 b1 : Int) : eqT Tryd.prog 20 88 (.agg [.int .i64 a0, .int .i64 a1]) (.agg [.int .i64 b0, .int .i64 b1]) = some ((a0 == b0) && ((a1 == b1) && true)) := by kernel_rfl
@[go_sem] theorem Tryd.eqg88 : Program.eqGuardType Tryd.prog (Program.depth Tryd.prog) 88 = false := by kernel_rfl
@[go_sem] theorem Tryd.agg90 : aggO Tryd.prog 90 = some false := by kernel_rfl
@[go_sem] theorem Tryd.pln90 : plainO Tryd.prog 90 = some true := by kernel_rfl
@[go_sem] theorem Tryd.sz90 : szO Tryd.prog 90 = some 1 := by kernel_rfl
@[go_sem] theorem Tryd.zero90 : zeroL Tryd.prog 90 = some [.nilFn] := by kernel_rfl
@[go_sem] theorem Tryd.small90 : smallO Tryd.prog 90 = some (1, 8) := by kernel_rfl
@[go_sem] theorem Tryd.zt90 : zeroT Tryd.prog 90 = some (.nilFn) := by kernel_rfl
@[go_sem] theorem Tryd.agg93 : aggO Tryd.prog 93 = some false := by kernel_rfl
@[go_sem] theorem Tryd.pln93 : plainO Tryd.prog 93 = some true := by kernel_rfl
@[go_sem] theorem Tryd.sz93 : szO Tryd.prog 93 = some 1 := by kernel_rfl
@[go_sem] theorem Tryd.zero93 : zeroL Tryd.prog 93 = some [.nilFn] := by kernel_rfl
@[go_sem] theorem Tryd.small93 : smallO Tryd.prog 93 = some (1, 8) := by kernel_rfl
@[go_sem] theorem Tryd.zt93 : zeroT Tryd.prog 93 = some (.nilFn) := by kernel_rfl
@[go_sem] theorem Tryd.agg94 : aggO Tryd.prog 94 = some false := by kernel_rfl
@[go_sem] theorem Tryd.pln94 : plainO Tryd.prog 94 = some true := by kernel_rfl
@[go_sem] theorem Tryd.sz94 : szO Tryd.prog 94 = some 1 := by kernel_rfl
@[go_sem] theorem Tryd.zero94 : zeroL Tryd.prog 94 = some [.nilFn] := by kernel_rfl
@[go_sem] theorem Tryd.small94 : smallO Tryd.prog 94 = some (1, 8) := by kernel_rfl
@[go_sem] theorem Tryd.zt94 : zeroT Tryd.prog 94 = some (.nilFn) := by kernel_rfl
@[go_sem] theorem Tryd.agg100 : aggO Tryd.prog 100 = some false := by kernel_rfl
@[go_sem] theorem Tryd.pln100 : plainO Tryd.prog 100 = some true := by kernel_rfl
@[go_sem] theorem Tryd.sz100 : szO Tryd.prog 100 = some 1 := by kernel_rfl
@[go_sem] theorem Tryd.zero100 : zeroL Tryd.prog 100 = some [.nilFn] := by kernel_rfl
@[go_sem] theorem Tryd.small100 : smallO Tryd.prog 100 = some (1, 8) := by kernel_rfl
@[go_sem] theorem Tryd.zt100 : zeroT Tryd.prog 100 = some (.nilFn) := by kernel_rfl
@[go_sem] theorem Tryd.agg103 : aggO Tryd.prog 103 = some true := by kernel_rfl
@[go_sem] theorem Tryd.pln103 : plainO Tryd.prog 103 = some true := by kernel_rfl
@[go_sem] theorem Tryd.sz103 : szO Tryd.prog 103 = some 5 := by kernel_rfl
@[go_sem] theorem Tryd.zero103 : zeroL Tryd.prog 103 = some [.int .i64 0, .int .i64 0, .int .i64 0, .str ⟨#[]⟩, .int .i64 0] := by kernel_rfl
@[go_sem] theorem Tryd.small103 : smallO Tryd.prog 103 = some (5, 48) := by kernel_rfl
@[go_sem] theorem Tryd.zt103 : zeroT Tryd.prog 103 = some (.agg [.int .i64 0, .int .i64 0, .int .i64 0, .str ⟨#[]⟩, .int .i64 0]) := by kernel_rfl
@[go_sem] theorem Tryd.fld103_0 : fieldO Tryd.prog 103 0 = some (0, 3) := by kernel_rfl
@[go_sem] theorem Tryd.fld103_1 : fieldO Tryd.prog 103 1 = some (1, 3) := by kernel_rfl
@[go_sem] theorem Tryd.fld103_2 : fieldO Tryd.prog 103 2 = some (2, 3) := by kernel_rfl
@[go_sem] theorem Tryd.fld103_3 : fieldO Tryd.prog 103 3 = some (3, 9) := by kernel_rfl
@[go_sem] theorem Tryd.fld103_4 : fieldO Tryd.prog 103 4 = some (4, 3) := by kernel_rfl
@[go_sem] theorem Tryd.bld103 (parts : List (Nat × TV)) : buildO Tryd.prog 103 parts = (fillT (fun i => ([(0, 1), (1, 1), (2, 1), (3, 1), (4, 1)] : List (Nat × Nat))[i]?) [.int .i64 0, .int .i64 0, .int .i64 0, .str ⟨#[]⟩, .int .i64 0] parts).map .agg := by kernel_rfl
@[go_sem] theorem Tryd.eq103 (a0 b0 : Int) (a1 b1 : Int) (a2 b2 : Int) (a3 b3 : ByteArray) (a4 b4 : Int) : eqT Tryd.prog 20 103 (.agg [.int .i64 a0, .int .i64 a1, .int .i64 a2, .str a3, .int .i64 a4]) (.agg [.int .i64 b0, .int .i64 b1, .int .i64 b2, .str b3, .int .i64 b4]) = some ((a0 == b0) && ((a1 == b1) && ((a2 == b2) && ((a3.toList == b3.toList) && ((a4 == b4) && true))))) := by kernel_rfl
@[go_sem] theorem Tryd.eqg103 : Program.eqGuardType Tryd.prog (Program.depth Tryd.prog) 103 = false := by kernel_rfl
@[go_sem] theorem Tryd.agg107 : aggO Tryd.prog 107 = some false := by kernel_rfl
@[go_sem] theorem Tryd.pln107 : plainO Tryd.prog 107 = some true := by kernel_rfl
@[go_sem] theorem Tryd.sz107 : szO Tryd.prog 107 = some 1 := by kernel_rfl
@[go_sem] theorem Tryd.zero107 : zeroL Tryd.prog 107 = some [.nilSl] := by kernel_rfl
@[go_sem] theorem Tryd.small107 : smallO Tryd.prog 107 = some (1, 24) := by kernel_rfl
@[go_sem] theorem Tryd.zt107 : zeroT Tryd.prog 107 = some (.nilSl) := by kernel_rfl
@[go_sem] theorem Tryd.eqn107 : eqT Tryd.prog 20 107 .nilSl .nilSl = some true := by kernel_rfl
@[go_sem] theorem Tryd.eqs107 (cs : List TV) (n : Nat) (f : Bool) : eqT Tryd.prog 20 107 (.sl cs n f) .nilSl = some false := by kernel_rfl
@[go_sem] theorem Tryd.eqt107 (cs : List TV) (n : Nat) (f : Bool) : eqT Tryd.prog 20 107 .nilSl (.sl cs n f) = some false := by kernel_rfl
@[go_sem] theorem Tryd.sl107 : sliceO Tryd.prog 107 = some 66 := by kernel_rfl
@[go_sem] theorem Tryd.und107 : Program.underlying Tryd.prog 107 = some (.slice 66) := by kernel_rfl
@[go_sem] theorem Tryd.agg108 : aggO Tryd.prog 108 = some false := by kernel_rfl
@[go_sem] theorem Tryd.pln108 : plainO Tryd.prog 108 = some true := by kernel_rfl
@[go_sem] theorem Tryd.sz108 : szO Tryd.prog 108 = some 1 := by kernel_rfl
@[go_sem] theorem Tryd.zero108 : zeroL Tryd.prog 108 = some [.nilFn] := by kernel_rfl
@[go_sem] theorem Tryd.small108 : smallO Tryd.prog 108 = some (1, 8) := by kernel_rfl
@[go_sem] theorem Tryd.zt108 : zeroT Tryd.prog 108 = some (.nilFn) := by kernel_rfl
@[go_sem] theorem Tryd.agg109 : aggO Tryd.prog 109 = some false := by kernel_rfl
@[go_sem] theorem Tryd.pln109 : plainO Tryd.prog 109 = some true := by kernel_rfl
@[go_sem] theorem Tryd.sz109 : szO Tryd.prog 109 = some 1 := by kernel_rfl
@[go_sem] theorem Tryd.zero109 : zeroL Tryd.prog 109 = some [.nilFn] := by kernel_rfl
@[go_sem] theorem Tryd.small109 : smallO Tryd.prog 109 = some (1, 8) := by kernel_rfl
@[go_sem] theorem Tryd.zt109 : zeroT Tryd.prog 109 = some (.nilFn) := by kernel_rfl
@[go_sem] theorem Tryd.agg110 : aggO Tryd.prog 110 = some false := by kernel_rfl
@[go_sem] theorem Tryd.pln110 : plainO Tryd.prog 110 = some true := by kernel_rfl
@[go_sem] theorem Tryd.sz110 : szO Tryd.prog 110 = some 1 := by kernel_rfl
@[go_sem] theorem Tryd.zero110 : zeroL Tryd.prog 110 = some [.nilSl] := by kernel_rfl
@[go_sem] theorem Tryd.small110 : smallO Tryd.prog 110 = some (1, 24) := by kernel_rfl
@[go_sem] theorem Tryd.zt110 : zeroT Tryd.prog 110 = some (.nilSl) := by kernel_rfl
@[go_sem] theorem Tryd.eqn110 : eqT Tryd.prog 20 110 .nilSl .nilSl = some true := by kernel_rfl
@[go_sem] theorem Tryd.eqs110 (cs : List TV) (n : Nat) (f : Bool) : eqT Tryd.prog 20 110 (.sl cs n f) .nilSl = some false := by kernel_rfl
@[go_sem] theorem Tryd.eqt110 (cs : List TV) (n : Nat) (f : Bool) : eqT Tryd.prog 20 110 .nilSl (.sl cs n f) = some false := by kernel_rfl
@[go_sem] theorem Tryd.sl110 : sliceO Tryd.prog 110 = some 81 := by kernel_rfl
@[go_sem] theorem Tryd.und110 : Program.underlying Tryd.prog 110 = some (.slice 81) := by kernel_rfl
@[go_sem] theorem Tryd.agg111 : aggO Tryd.prog 111 = some false := by kernel_rfl
@[go_sem] theorem Tryd.pln111 : plainO Tryd.prog 111 = some true := by kernel_rfl
@[go_sem] theorem Tryd.sz111 : szO Tryd.prog 111 = some 1 := by kernel_rfl
@[go_sem] theorem Tryd.zero111 : zeroL Tryd.prog 111 = some [.nilFn] := by kernel_rfl
@[go_sem] theorem Tryd.small111 : smallO Tryd.prog 111 = some (1, 8) := by kernel_rfl
@[go_sem] theorem Tryd.zt111 : zeroT Tryd.prog 111 = some (.nilFn) := by kernel_rfl
@[go_sem] theorem Tryd.agg112 : aggO Tryd.prog 112 = some false := by kernel_rfl
@[go_sem] theorem Tryd.pln112 : plainO Tryd.prog 112 = some true := by kernel_rfl
@[go_sem] theorem Tryd.sz112 : szO Tryd.prog 112 = some 1 := by kernel_rfl
@[go_sem] theorem Tryd.zero112 : zeroL Tryd.prog 112 = some [.nilSl] := by kernel_rfl
@[go_sem] theorem Tryd.small112 : smallO Tryd.prog 112 = some (1, 24) := by kernel_rfl
@[go_sem] theorem Tryd.zt112 : zeroT Tryd.prog 112 = some (.nilSl) := by kernel_rfl
@[go_sem] theorem Tryd.eqn112 : eqT Tryd.prog 20 112 .nilSl .nilSl = some true := by kernel_rfl
@[go_sem] theorem Tryd.eqs112 (cs : List TV) (n : Nat) (f : Bool) : eqT Tryd.prog 20 112 (.sl cs n f) .nilSl = some false := by kernel_rfl
@[go_sem] theorem Tryd.eqt112 (cs : List TV) (n : Nat) (f : Bool) : eqT Tryd.prog 20 112 .nilSl (.sl cs n f) = some false := by kernel_rfl
@[go_sem] theorem Tryd.sl112 : sliceO Tryd.prog 112 = some 84 := by kernel_rfl
@[go_sem] theorem Tryd.und112 : Program.underlying Tryd.prog 112 = some (.slice 84) := by kernel_rfl
@[go_sem] theorem Tryd.agg113 : aggO Tryd.prog 113 = some false := by kernel_rfl
@[go_sem] theorem Tryd.pln113 : plainO Tryd.prog 113 = some true := by kernel_rfl
@[go_sem] theorem Tryd.sz113 : szO Tryd.prog 113 = some 1 := by kernel_rfl
@[go_sem] theorem Tryd.zero113 : zeroL Tryd.prog 113 = some [.nilSl] := by kernel_rfl
@[go_sem] theorem Tryd.small113 : smallO Tryd.prog 113 = some (1, 24) := by kernel_rfl
@[go_sem] theorem Tryd.zt113 : zeroT Tryd.prog 113 = some (.nilSl) := by kernel_rfl
@[go_sem] theorem Tryd.eqn113 : eqT Tryd.prog 20 113 .nilSl .nilSl = some true := by kernel_rfl
@[go_sem] theorem Tryd.eqs113 (cs : List TV) (n : Nat) (f : Bool) : eqT Tryd.prog 20 113 (.sl cs n f) .nilSl = some false := by kernel_rfl
@[go_sem] theorem Tryd.eqt113 (cs : List TV) (n : Nat) (f : Bool) : eqT Tryd.prog 20 113 .nilSl (.sl cs n f) = some false := by kernel_rfl
@[go_sem] theorem Tryd.sl113 : sliceO Tryd.prog 113 = some 88 := by kernel_rfl
@[go_sem] theorem Tryd.und113 : Program.underlying Tryd.prog 113 = some (.slice 88) := by kernel_rfl
@[go_sem] theorem Tryd.agg114 : aggO Tryd.prog 114 = some false := by kernel_rfl
@[go_sem] theorem Tryd.pln114 : plainO Tryd.prog 114 = some true := by kernel_rfl
@[go_sem] theorem Tryd.sz114 : szO Tryd.prog 114 = some 1 := by kernel_rfl
@[go_sem] theorem Tryd.zero114 : zeroL Tryd.prog 114 = some [.nilFn] := by kernel_rfl
@[go_sem] theorem Tryd.small114 : smallO Tryd.prog 114 = some (1, 8) := by kernel_rfl
@[go_sem] theorem Tryd.zt114 : zeroT Tryd.prog 114 = some (.nilFn) := by kernel_rfl
@[go_sem] theorem Tryd.agg115 : aggO Tryd.prog 115 = some false := by kernel_rfl
@[go_sem] theorem Tryd.pln115 : plainO Tryd.prog 115 = some true := by kernel_rfl
@[go_sem] theorem Tryd.sz115 : szO Tryd.prog 115 = some 1 := by kernel_rfl
@[go_sem] theorem Tryd.zero115 : zeroL Tryd.prog 115 = some [.nilFn] := by kernel_rfl
@[go_sem] theorem Tryd.small115 : smallO Tryd.prog 115 = some (1, 8) := by kernel_rfl
@[go_sem] theorem Tryd.zt115 : zeroT Tryd.prog 115 = some (.nilFn) := by kernel_rfl
@[go_sem] theorem Tryd.agg116 : aggO Tryd.prog 116 = some false := by kernel_rfl
@[go_sem] theorem Tryd.pln116 : plainO Tryd.prog 116 = some true := by kernel_rfl
@[go_sem] theorem Tryd.sz116 : szO Tryd.prog 116 = some 1 := by kernel_rfl
@[go_sem] theorem Tryd.zero116 : zeroL Tryd.prog 116 = some [.nilFn] := by kernel_rfl
@[go_sem] theorem Tryd.small116 : smallO Tryd.prog 116 = some (1, 8) := by kernel_rfl
@[go_sem] theorem Tryd.zt116 : zeroT Tryd.prog 116 = some (.nilFn) := by kernel_rfl
@[go_sem] theorem Tryd.agg117 : aggO Tryd.prog 117 = some true := by kernel_rfl
@[go_sem] theorem Tryd.pln117 : plainO Tryd.prog 117 = some true := by kernel_rfl
@[go_sem] theorem Tryd.sz117 : szO Tryd.prog 117 = some 2 := by kernel_rfl
@[go_sem] theorem Tryd.zero117 : zeroL Tryd.prog 117 = some [.int .i64 0, .int .i64 0] := by kernel_rfl
@[go_sem] theorem Tryd.small117 : smallO Tryd.prog 117 = some (2, 16) := by kernel_rfl
@[go_sem] theorem Tryd.zt117 : zeroT Tryd.prog 117 = some (.agg [.int .i64 0, .int .i64 0]) := by kernel_rfl
@[go_sem] theorem Tryd.fld117_0 : fieldO Tryd.prog 117 0 = some (0, 3) := by kernel_rfl
@[go_sem] theorem Tryd.fld117_1 : fieldO Tryd.prog 117 1 = some (1, 3) := by kernel_rfl
@[go_sem] theorem Tryd.bld117 (parts : List (Nat × TV)) : buildO Tryd.prog 117 parts = (fillT (fun i => ([(0, 1), (1, 1)] : List (Nat × Nat))[i]?) [.int .i64 0, .int .i64 0] parts).map .agg := by kernel_rfl
@[go_sem] theorem Tryd.eqg117 : Program.eqGuardType Tryd.prog (Program.depth Tryd.prog) 117 = false := by kernel_rfl
@[go_sem] theorem Tryd.agg118 : aggO Tryd.prog 118 = some true := by kernel_rfl
@[go_sem] theorem Tryd.pln118 : plainO Tryd.prog 118 = some true := by kernel_rfl
@[go_sem] theorem Tryd.sz118 : szO Tryd.prog 118 = some 2 := by kernel_rfl
@[go_sem] theorem Tryd.zero118 : zeroL Tryd.prog 118 = some [.int .i64 0, .int .i64 0] := by kernel_rfl
@[go_sem] theorem Tryd.small118 : smallO Tryd.prog 118 = some (2, 16) := by kernel_rfl
@[go_sem] theorem Tryd.zt118 : zeroT Tryd.prog 118 = some (.agg [.int .i64 0, .int .i64 0]) := by kernel_rfl
@[go_sem] theorem Tryd.fld118_0 : fieldO Tryd.prog 118 0 = some (0, 3) := by kernel_rfl
@[go_sem] theorem Tryd.fld118_1 : fieldO Tryd.prog 118 1 = some (1, 3) := by kernel_rfl
@[go_sem] theorem Tryd.bld118 (parts : List (Nat × TV)) : buildO Tryd.prog 118 parts = (fillT (fun i => ([(0, 1), (1, 1)] : List (Nat × Nat))[i]?) [.int .i64 0, .int .i64 0] parts).map .agg := by kernel_rfl
@[go_sem] theorem Tryd.eq118 (a0 b0 : Int) (a1 b1 : Int) : eqT Tryd.prog 20 118 (.agg [.int .i64 a0, .int .i64 a1]) (.agg [.int .i64 b0, .int .i64 b1]) = some ((a0 == b0) && ((a1 == b1) && true)) := by kernel_rfl
@[go_sem] theorem Tryd.eqg118 : Program.eqGuardType Tryd.prog (Program.depth Tryd.prog) 118 = false := by kernel_rfl
@[go_sem] theorem Tryd.agg119 : aggO Tryd.prog 119 = some false := by kernel_rfl
@[go_sem] theorem Tryd.pln119 : plainO Tryd.prog 119 = some true := by kernel_rfl
@[go_sem] theorem Tryd.sz119 : szO Tryd.prog 119 = some 1 := by kernel_rfl
@[go_sem] theorem Tryd.zero119 : zeroL Tryd.prog 119 = some [.nilFn] := by kernel_rfl
@[go_sem] theorem Tryd.small119 : smallO Tryd.prog 119 = some (1, 8) := by kernel_rfl
@[go_sem] theorem Tryd.zt119 : zeroT Tryd.prog 119 = some (.nilFn) := by kernel_rfl
@[go_sem] theorem Tryd.agg120 : aggO Tryd.prog 120 = some true := by kernel_rfl
@[go_sem] theorem Tryd.pln120 : plainO Tryd.prog 120 = some true := by kernel_rfl
@[go_sem] theorem Tryd.sz120 : szO Tryd.prog 120 = some 3 := by kernel_rfl
@[go_sem] theorem Tryd.zero120 : zeroL Tryd.prog 120 = some [.nilSl, .int .i64 0, .int .i64 0] := by kernel_rfl
@[go_sem] theorem Tryd.small120 : smallO Tryd.prog 120 = some (3, 40) := by kernel_rfl
@[go_sem] theorem Tryd.zt120 : zeroT Tryd.prog 120 = some (.agg [.nilSl, .int .i64 0, .int .i64 0]) := by kernel_rfl
@[go_sem] theorem Tryd.fld120_0 : fieldO Tryd.prog 120 0 = some (0, 32) := by kernel_rfl
@[go_sem] theorem Tryd.bld120 (parts : List (Nat × TV)) : buildO Tryd.prog 120 parts = (fillT (fun i => ([(0, 3)] : List (Nat × Nat))[i]?) [.nilSl, .int .i64 0, .int .i64 0] parts).map .agg := by kernel_rfl
@[go_sem] theorem Tryd.bldp120 (parts : List (Nat × PV)) : buildP Tryd.prog 120 parts = fillP (fun i => ([(0, 3)] : List (Nat × Nat))[i]?) [.t (.nilSl), .t (.int .i64 0), .t (.int .i64 0)] parts := by kernel_rfl
@[go_sem] theorem Tryd.eqg120 : Program.eqGuardType Tryd.prog (Program.depth Tryd.prog) 120 = false := by kernel_rfl
@[go_sem] theorem Tryd.agg121 : aggO Tryd.prog 121 = some true := by kernel_rfl
@[go_sem] theorem Tryd.pln121 : plainO Tryd.prog 121 = some true := by kernel_rfl
@[go_sem] theorem Tryd.sz121 : szO Tryd.prog 121 = some 3 := by kernel_rfl
@[go_sem] theorem Tryd.zero121 : zeroL Tryd.prog 121 = some [.nilSl, .int .i64 0, .int .i64 0] := by kernel_rfl
@[go_sem] theorem Tryd.small121 : smallO Tryd.prog 121 = some (3, 40) := by kernel_rfl
@[go_sem] theorem Tryd.zt121 : zeroT Tryd.prog 121 = some (.agg [.nilSl, .int .i64 0, .int .i64 0]) := by kernel_rfl
@[go_sem] theorem Tryd.fld121_0 : fieldO Tryd.prog 121 0 = some (0, 32) := by kernel_rfl
@[go_sem] theorem Tryd.bld121 (parts : List (Nat × TV)) : buildO Tryd.prog 121 parts = (fillT (fun i => ([(0, 3)] : List (Nat × Nat))[i]?) [.nilSl, .int .i64 0, .int .i64 0] parts).map .agg := by kernel_rfl
@[go_sem] theorem Tryd.bldp121 (parts : List (Nat × PV)) : buildP Tryd.prog 121 parts = fillP (fun i => ([(0, 3)] : List (Nat × Nat))[i]?) [.t (.nilSl), .t (.int .i64 0), .t (.int .i64 0)] parts := by kernel_rfl
@[go_sem] theorem Tryd.eqg121 : Program.eqGuardType Tryd.prog (Program.depth Tryd.prog) 121 = false := by kernel_rfl
@[go_sem] theorem Tryd.agg123 : aggO Tryd.prog 123 = some false := by kernel_rfl
@[go_sem] theorem Tryd.pln123 : plainO Tryd.prog 123 = some true := by kernel_rfl
@[go_sem] theorem Tryd.sz123 : szO Tryd.prog 123 = some 1 := by kernel_rfl
@[go_sem] theorem Tryd.zero123 : zeroL Tryd.prog 123 = some [.nilMap] := by kernel_rfl
@[go_sem] theorem Tryd.small123 : smallO Tryd.prog 123 = some (1, 8) := by kernel_rfl
@[go_sem] theorem Tryd.key123 (a0 : Int) (a1 : Int) : keyOk Tryd.prog 123 (.agg [.int .i64 a0, .int .i64 a1]) = true := by kernel_rfl
@[go_sem] theorem Tryd.map123 : mapO Tryd.prog 123 = some (118, 22) := by kernel_rfl
@[go_sem] theorem Tryd.und123 : Program.underlying Tryd.prog 123 = some (.map 118 22) := by kernel_rfl
@[go_sem] theorem Tryd.zt123 : zeroT Tryd.prog 123 = some (.nilMap) := by kernel_rfl
@[go_sem] theorem Tryd.agg128 : aggO Tryd.prog 128 = some false := by kernel_rfl
@[go_sem] theorem Tryd.pln128 : plainO Tryd.prog 128 = some true := by kernel_rfl
@[go_sem] theorem Tryd.sz128 : szO Tryd.prog 128 = some 1 := by kernel_rfl
@[go_sem] theorem Tryd.zero128 : zeroL Tryd.prog 128 = some [.nilSl] := by kernel_rfl
@[go_sem] theorem Tryd.small128 : smallO Tryd.prog 128 = some (1, 24) := by kernel_rfl
@[go_sem] theorem Tryd.zt128 : zeroT Tryd.prog 128 = some (.nilSl) := by kernel_rfl
@[go_sem] theorem Tryd.eqn128 : eqT Tryd.prog 20 128 .nilSl .nilSl = some true := by kernel_rfl
@[go_sem] theorem Tryd.eqs128 (cs : List TV) (n : Nat) (f : Bool) : eqT Tryd.prog 20 128 (.sl cs n f) .nilSl = some false := by kernel_rfl
@[go_sem] theorem Tryd.eqt128 (cs : List TV) (n : Nat) (f : Bool) : eqT Tryd.prog 20 128 .nilSl (.sl cs n f) = some false := by kernel_rfl
@[go_sem] theorem Tryd.sl128 : sliceO Tryd.prog 128 = some 41 := by kernel_rfl
@[go_sem] theorem Tryd.und128 : Program.underlying Tryd.prog 128 = some (.slice 41) := by kernel_rfl
@[go_sem] theorem Tryd.agg132 : aggO Tryd.prog 132 = some true := by kernel_rfl
@[go_sem] theorem Tryd.pln132 : plainO Tryd.prog 132 = some true := by kernel_rfl
@[go_sem] theorem Tryd.sz132 : szO Tryd.prog 132 = some 5 := by kernel_rfl
@[go_sem] theorem Tryd.zero132 : zeroL Tryd.prog 132 = some [.int .i64 0, .int .i64 0, .int .i64 0, .int .i64 0, .int .i64 0] := by kernel_rfl
@[go_sem] theorem Tryd.small132 : smallO Tryd.prog 132 = some (5, 40) := by kernel_rfl
@[go_sem] theorem Tryd.zt132 : zeroT Tryd.prog 132 = some (.agg [.int .i64 0, .int .i64 0, .int .i64 0, .int .i64 0, .int .i64 0]) := by kernel_rfl
@[go_sem] theorem Tryd.fld132_0 : fieldO Tryd.prog 132 0 = some (0, 41) := by kernel_rfl
@[go_sem] theorem Tryd.fld132_1 : fieldO Tryd.prog 132 1 = some (2, 41) := by kernel_rfl
@[go_sem] theorem Tryd.fld132_2 : fieldO Tryd.prog 132 2 = some (4, 3) := by kernel_rfl
@[go_sem] theorem Tryd.bld132 (parts : List (Nat × TV)) : buildO Tryd.prog 132 parts = (fillT (fun i => ([(0, 2), (2, 2), (4, 1)] : List (Nat × Nat))[i]?) [.int .i64 0, .int .i64 0, .int .i64 0, .int .i64 0, .int .i64 0] parts).map .agg := by kernel_rfl
@[go_sem] theorem Tryd.eq132 (a0 b0 : Int) (a1 b1 : Int) (a2 b2 : Int) (a3 b3 : Int) (a4 b4 : Int) : eqT Tryd.prog 20 132 (.agg [.int .i64 a0, .int .i64 a1, .int .i64 a2, .int .i64 a3, .int .i64 a4]) (.agg [.int .i64 b0, .int .i64 b1, .int .i64 b2, .int .i64 b3, .int .i64 b4]) = some (((a0 == b0) && ((a1 == b1) && true)) && (((a2 == b2) && ((a3 == b3) && true)) && ((a4 == b4) && true))) := by kernel_rfl
@[go_sem] theorem Tryd.eqg132 : Program.eqGuardType Tryd.prog (Program.depth Tryd.prog) 132 = false := by kernel_rfl
@[go_sem] theorem Tryd.agg133 : aggO Tryd.prog 133 = some false := by kernel_rfl
@[go_sem] theorem Tryd.pln133 : plainO Tryd.prog 133 = some true := by kernel_rfl
@[go_sem] theorem Tryd.sz133 : szO Tryd.prog 133 = some 1 := by kernel_rfl
@[go_sem] theorem Tryd.zero133 : zeroL Tryd.prog 133 = some [.nilSl] := by kernel_rfl
@[go_sem] theorem Tryd.small133 : smallO Tryd.prog 133 = some (1, 24) := by kernel_rfl
@[go_sem] theorem Tryd.zt133 : zeroT Tryd.prog 133 = some (.nilSl) := by kernel_rfl
@[go_sem] theorem Tryd.eqn133 : eqT Tryd.prog 20 133 .nilSl .nilSl = some true := by kernel_rfl
@[go_sem] theorem Tryd.eqs133 (cs : List TV) (n : Nat) (f : Bool) : eqT Tryd.prog 20 133 (.sl cs n f) .nilSl = some false := by kernel_rfl
@[go_sem] theorem Tryd.eqt133 (cs : List TV) (n : Nat) (f : Bool) : eqT Tryd.prog 20 133 .nilSl (.sl cs n f) = some false := by kernel_rfl
@[go_sem] theorem Tryd.sl133 : sliceO Tryd.prog 133 = some 132 := by kernel_rfl
@[go_sem] theorem Tryd.und133 : Program.underlying Tryd.prog 133 = some (.slice 132) := by kernel_rfl
@[go_sem] theorem Tryd.agg148 : aggO Tryd.prog 148 = some false := by kernel_rfl
@[go_sem] theorem Tryd.pln148 : plainO Tryd.prog 148 = some true := by kernel_rfl
@[go_sem] theorem Tryd.sz148 : szO Tryd.prog 148 = some 1 := by kernel_rfl
@[go_sem] theorem Tryd.zero148 : zeroL Tryd.prog 148 = some [.nilFn] := by kernel_rfl
@[go_sem] theorem Tryd.small148 : smallO Tryd.prog 148 = some (1, 8) := by kernel_rfl
@[go_sem] theorem Tryd.zt148 : zeroT Tryd.prog 148 = some (.nilFn) := by kernel_rfl
@[go_sem] theorem Tryd.agg149 : aggO Tryd.prog 149 = some false := by kernel_rfl
@[go_sem] theorem Tryd.pln149 : plainO Tryd.prog 149 = some true := by kernel_rfl
@[go_sem] theorem Tryd.sz149 : szO Tryd.prog 149 = some 1 := by kernel_rfl
@[go_sem] theorem Tryd.zero149 : zeroL Tryd.prog 149 = some [.nilSl] := by kernel_rfl
@[go_sem] theorem Tryd.small149 : smallO Tryd.prog 149 = some (1, 24) := by kernel_rfl
@[go_sem] theorem Tryd.zt149 : zeroT Tryd.prog 149 = some (.nilSl) := by kernel_rfl
@[go_sem] theorem Tryd.eqn149 : eqT Tryd.prog 20 149 .nilSl .nilSl = some true := by kernel_rfl
@[go_sem] theorem Tryd.eqs149 (cs : List TV) (n : Nat) (f : Bool) : eqT Tryd.prog 20 149 (.sl cs n f) .nilSl = some false := by kernel_rfl
@[go_sem] theorem Tryd.eqt149 (cs : List TV) (n : Nat) (f : Bool) : eqT Tryd.prog 20 149 .nilSl (.sl cs n f) = some false := by kernel_rfl
@[go_sem] theorem Tryd.sl149 : sliceO Tryd.prog 149 = some 82 := by kernel_rfl
@[go_sem] theorem Tryd.und149 : Program.underlying Tryd.prog 149 = some (.slice 82) := by kernel_rfl
@[go_sem] theorem Tryd.agg150 : aggO Tryd.prog 150 = some false := by kernel_rfl
@[go_sem] theorem Tryd.pln150 : plainO Tryd.prog 150 = some true := by kernel_rfl
@[go_sem] theorem Tryd.sz150 : szO Tryd.prog 150 = some 1 := by kernel_rfl
@[go_sem] theorem Tryd.zero150 : zeroL Tryd.prog 150 = some [.nilSl] := by kernel_rfl
@[go_sem] theorem Tryd.small150 : smallO Tryd.prog 150 = some (1, 24) := by kernel_rfl
@[go_sem] theorem Tryd.zt150 : zeroT Tryd.prog 150 = some (.nilSl) := by kernel_rfl
@[go_sem] theorem Tryd.eqn150 : eqT Tryd.prog 20 150 .nilSl .nilSl = some true := by kernel_rfl
@[go_sem] theorem Tryd.eqs150 (cs : List TV) (n : Nat) (f : Bool) : eqT Tryd.prog 20 150 (.sl cs n f) .nilSl = some false := by kernel_rfl
@[go_sem] theorem Tryd.eqt150 (cs : List TV) (n : Nat) (f : Bool) : eqT Tryd.prog 20 150 .nilSl (.sl cs n f) = some false := by kernel_rfl
@[go_sem] theorem Tryd.sl150 : sliceO Tryd.prog 150 = some 72 := by kernel_rfl
@[go_sem] theorem Tryd.und150 : Program.underlying Tryd.prog 150 = some (.slice 72) := by kernel_rfl
@[go_sem] theorem Tryd.agg151 : aggO Tryd.prog 151 = some false := by kernel_rfl
@[go_sem] theorem Tryd.pln151 : plainO Tryd.prog 151 = some true := by kernel_rfl
@[go_sem] theorem Tryd.sz151 : szO Tryd.prog 151 = some 1 := by kernel_rfl
@[go_sem] theorem Tryd.zero151 : zeroL Tryd.prog 151 = some [.nilMap] := by kernel_rfl
@[go_sem] theorem Tryd.small151 : smallO Tryd.prog 151 = some (1, 8) := by kernel_rfl
@[go_sem] theorem Tryd.key151 (a0 : Int) (a1 : Int) (a2 : Int) : keyOk Tryd.prog 151 (.agg [.int .i64 a0, .int .i64 a1, .int .i64 a2]) = true := by kernel_rfl
@[go_sem] theorem Tryd.map151 : mapO Tryd.prog 151 = some (72, 3) := by kernel_rfl
@[go_sem] theorem Tryd.und151 : Program.underlying Tryd.prog 151 = some (.map 72 3) := by kernel_rfl
@[go_sem] theorem Tryd.zt151 : zeroT Tryd.prog 151 = some (.nilMap) := by kernel_rfl
@[go_sem] theorem Tryd.agg152 : aggO Tryd.prog 152 = some true := by kernel_rfl
@[go_sem] theorem Tryd.pln152 : plainO Tryd.prog 152 = some true := by kernel_rfl
@[go_sem] theorem Tryd.sz152 : szO Tryd.prog 152 = some 3 := by kernel_rfl
@[go_sem] theorem Tryd.zero152 : zeroL Tryd.prog 152 = some [.nilSl, .nilSl, .nilMap] := by kernel_rfl
@[go_sem] theorem Tryd.small152 : smallO Tryd.prog 152 = some (3, 56) := by kernel_rfl
@[go_sem] theorem Tryd.zt152 : zeroT Tryd.prog 152 = some (.agg [.nilSl, .nilSl, .nilMap]) := by kernel_rfl
@[go_sem] theorem Tryd.fld152_0 : fieldO Tryd.prog 152 0 = some (0, 149) := by kernel_rfl
@[go_sem] theorem Tryd.fld152_1 : fieldO Tryd.prog 152 1 = some (1, 150) := by kernel_rfl
@[go_sem] theorem Tryd.fld152_2 : fieldO Tryd.prog 152 2 = some (2, 151) := by kernel_rfl
@[go_sem] theorem Tryd.bld152 (parts : List (Nat × TV)) : buildO Tryd.prog 152 parts = (fillT (fun i => ([(0, 1), (1, 1), (2, 1)] : List (Nat × Nat))[i]?) [.nilSl, .nilSl, .nilMap] parts).map .agg := by kernel_rfl
@[go_sem] theorem Tryd.bldp152 (parts : List (Nat × PV)) : buildP Tryd.prog 152 parts = fillP (fun i => ([(0, 1), (1, 1), (2, 1)] : List (Nat × Nat))[i]?) [.t (.nilSl), .t (.nilSl), .t (.nilMap)] parts := by kernel_rfl
@[go_sem] theorem Tryd.eqg152 : Program.eqGuardType Tryd.prog (Program.depth Tryd.prog) 152 = false := by kernel_rfl
@[go_sem] theorem Tryd.agg162 : aggO Tryd.prog 162 = some false := by kernel_rfl
@[go_sem] theorem Tryd.pln162 : plainO Tryd.prog 162 = some true := by kernel_rfl
@[go_sem] theorem Tryd.sz162 : szO Tryd.prog 162 = some 1 := by kernel_rfl
@[go_sem] theorem Tryd.zero162 : zeroL Tryd.prog 162 = some [.nilSl] := by kernel_rfl
@[go_sem] theorem Tryd.small162 : smallO Tryd.prog 162 = some (1, 24) := by kernel_rfl
@[go_sem] theorem Tryd.zt162 : zeroT Tryd.prog 162 = some (.nilSl) := by kernel_rfl
@[go_sem] theorem Tryd.eqn162 : eqT Tryd.prog 20 162 .nilSl .nilSl = some true := by kernel_rfl
@[go_sem] theorem Tryd.eqs162 (cs : List TV) (n : Nat) (f : Bool) : eqT Tryd.prog 20 162 (.sl cs n f) .nilSl = some false := by kernel_rfl
@[go_sem] theorem Tryd.eqt162 (cs : List TV) (n : Nat) (f : Bool) : eqT Tryd.prog 20 162 .nilSl (.sl cs n f) = some false := by kernel_rfl
@[go_sem] theorem Tryd.sl162 : sliceO Tryd.prog 162 = some 5 := by kernel_rfl
@[go_sem] theorem Tryd.und162 : Program.underlying Tryd.prog 162 = some (.slice 5) := by kernel_rfl
@[go_sem] theorem Tryd.agg174 : aggO Tryd.prog 174 = some false := by kernel_rfl
@[go_sem] theorem Tryd.pln174 : plainO Tryd.prog 174 = some true := by kernel_rfl
@[go_sem] theorem Tryd.sz174 : szO Tryd.prog 174 = some 1 := by kernel_rfl
@[go_sem] theorem Tryd.zero174 : zeroL Tryd.prog 174 = some [.nilPtr] := by kernel_rfl
@[go_sem] theorem Tryd.small174 : smallO Tryd.prog 174 = some (1, 8) := by kernel_rfl
@[go_sem] theorem Tryd.zt174 : zeroT Tryd.prog 174 = some (.nilPtr) := by kernel_rfl
@[go_sem] theorem Tryd.agg175 : aggO Tryd.prog 175 = some true := by kernel_rfl
@[go_sem] theorem Tryd.pln175 : plainO Tryd.prog 175 = some true := by kernel_rfl
@[go_sem] theorem Tryd.sz175 : szO Tryd.prog 175 = some 2 := by kernel_rfl
@[go_sem] theorem Tryd.zero175 : zeroL Tryd.prog 175 = some [.nilPtr, .nilSl] := by kernel_rfl
@[go_sem] theorem Tryd.small175 : smallO Tryd.prog 175 = some (2, 32) := by kernel_rfl
@[go_sem] theorem Tryd.zt175 : zeroT Tryd.prog 175 = some (.agg [.nilPtr, .nilSl]) := by kernel_rfl
@[go_sem] theorem Tryd.fld175_0 : fieldO Tryd.prog 175 0 = some (0, 174) := by kernel_rfl
@[go_sem] theorem Tryd.fld175_1 : fieldO Tryd.prog 175 1 = some (1, 162) := by kernel_rfl
@[go_sem] theorem Tryd.bld175 (parts : List (Nat × TV)) : buildO Tryd.prog 175 parts = (fillT (fun i => ([(0, 1), (1, 1)] : List (Nat × Nat))[i]?) [.nilPtr, .nilSl] parts).map .agg := by kernel_rfl
@[go_sem] theorem Tryd.bldp175 (parts : List (Nat × PV)) : buildP Tryd.prog 175 parts = fillP (fun i => ([(0, 1), (1, 1)] : List (Nat × Nat))[i]?) [.t (.nilPtr), .t (.nilSl)] parts := by kernel_rfl
@[go_sem] theorem Tryd.eqg175 : Program.eqGuardType Tryd.prog (Program.depth Tryd.prog) 175 = false := by kernel_rfl
@[go_sem] theorem Tryd.agg191 : aggO Tryd.prog 191 = some false := by kernel_rfl
@[go_sem] theorem Tryd.pln191 : plainO Tryd.prog 191 = some true := by kernel_rfl
@[go_sem] theorem Tryd.sz191 : szO Tryd.prog 191 = some 1 := by kernel_rfl
@[go_sem] theorem Tryd.zero191 : zeroL Tryd.prog 191 = some [.nilFn] := by kernel_rfl
@[go_sem] theorem Tryd.small191 : smallO Tryd.prog 191 = some (1, 8) := by kernel_rfl
@[go_sem] theorem Tryd.zt191 : zeroT Tryd.prog 191 = some (.nilFn) := by kernel_rfl
@[go_sem] theorem Tryd.agg200 : aggO Tryd.prog 200 = some false := by kernel_rfl
@[go_sem] theorem Tryd.pln200 : plainO Tryd.prog 200 = some true := by kernel_rfl
@[go_sem] theorem Tryd.sz200 : szO Tryd.prog 200 = some 1 := by kernel_rfl
@[go_sem] theorem Tryd.zero200 : zeroL Tryd.prog 200 = some [.nilFn] := by kernel_rfl
@[go_sem] theorem Tryd.small200 : smallO Tryd.prog 200 = some (1, 8) := by kernel_rfl
@[go_sem] theorem Tryd.zt200 : zeroT Tryd.prog 200 = some (.nilFn) := by kernel_rfl
@[go_sem] theorem Tryd.agg202 : aggO Tryd.prog 202 = some false := by kernel_rfl
@[go_sem] theorem Tryd.pln202 : plainO Tryd.prog 202 = some true := by kernel_rfl
@[go_sem] theorem Tryd.sz202 : szO Tryd.prog 202 = some 1 := by kernel_rfl
@[go_sem] theorem Tryd.zero202 : zeroL Tryd.prog 202 = some [.nilMap] := by kernel_rfl
@[go_sem] theorem Tryd.small202 : smallO Tryd.prog 202 = some (1, 8) := by kernel_rfl
@[go_sem] theorem Tryd.map202 : mapO Tryd.prog 202 = some (3, 3) := by kernel_rfl
@[go_sem] theorem Tryd.und202 : Program.underlying Tryd.prog 202 = some (.map 3 3) := by kernel_rfl
@[go_sem] theorem Tryd.zt202 : zeroT Tryd.prog 202 = some (.nilMap) := by kernel_rfl
@[go_sem] theorem Tryd.agg203 : aggO Tryd.prog 203 = some false := by kernel_rfl
@[go_sem] theorem Tryd.pln203 : plainO Tryd.prog 203 = some true := by kernel_rfl
@[go_sem] theorem Tryd.sz203 : szO Tryd.prog 203 = some 1 := by kernel_rfl
@[go_sem] theorem Tryd.zero203 : zeroL Tryd.prog 203 = some [.nilFn] := by kernel_rfl
@[go_sem] theorem Tryd.small203 : smallO Tryd.prog 203 = some (1, 8) := by kernel_rfl
@[go_sem] theorem Tryd.zt203 : zeroT Tryd.prog 203 = some (.nilFn) := by kernel_rfl
@[go_sem] theorem Tryd.agg205 : aggO Tryd.prog 205 = some true := by kernel_rfl
@[go_sem] theorem Tryd.pln205 : plainO Tryd.prog 205 = some true := by kernel_rfl
@[go_sem] theorem Tryd.sz205 : szO Tryd.prog 205 = some 5 := by kernel_rfl
@[go_sem] theorem Tryd.zero205 : zeroL Tryd.prog 205 = some [.int .i64 0, .int .i64 0, .int .i64 0, .int .i64 0, .int .i64 0] := by kernel_rfl
@[go_sem] theorem Tryd.small205 : smallO Tryd.prog 205 = some (5, 40) := by kernel_rfl
@[go_sem] theorem Tryd.zt205 : zeroT Tryd.prog 205 = some (.agg [.int .i64 0, .int .i64 0, .int .i64 0, .int .i64 0, .int .i64 0]) := by kernel_rfl
@[go_sem] theorem Tryd.fld205_0 : fieldO Tryd.prog 205 0 = some (0, 132) := by kernel_rfl
@[go_sem] theorem Tryd.bld205 (parts : List (Nat × TV)) : buildO Tryd.prog 205 parts = (fillT (fun i => ([(0, 5)] : List (Nat × Nat))[i]?) [.int .i64 0, .int .i64 0, .int .i64 0, .int .i64 0, .int .i64 0] parts).map .agg := by kernel_rfl
@[go_sem] theorem Tryd.eq205 (a0 b0 : Int) (a1 b1 : Int) (a2 b2 : Int) (a3 b3 : Int) (a4 b4 : Int) : eqT Tryd.prog 20 205 (.agg [.int .i64 a0, .int .i64 a1, .int .i64 a2, .int .i64 a3, .int .i64 a4]) (.agg [.int .i64 b0, .int .i64 b1, .int .i64 b2, .int .i64 b3, .int .i64 b4]) = some ((((a0 == b0) && ((a1 == b1) && true)) && (((a2 == b2) && ((a3 == b3) && true)) && ((a4 == b4) && true))) && true) := by kernel_rfl
@[go_sem] theorem Tryd.eqg205 : Program.eqGuardType Tryd.prog (Program.depth Tryd.prog) 205 = false := by kernel_rfl
@[go_sem] theorem Tryd.agg208 : aggO Tryd.prog 208 = some true := by kernel_rfl
@[go_sem] theorem Tryd.pln208 : plainO Tryd.prog 208 = some true := by kernel_rfl
@[go_sem] theorem Tryd.sz208 : szO Tryd.prog 208 = some 3 := by kernel_rfl
@[go_sem] theorem Tryd.zero208 : zeroL Tryd.prog 208 = some [.int .i64 0, .int .i64 0, .bool false] := by kernel_rfl
@[go_sem] theorem Tryd.small208 : smallO Tryd.prog 208 = some (3, 24) := by kernel_rfl
@[go_sem] theorem Tryd.zt208 : zeroT Tryd.prog 208 = some (.agg [.int .i64 0, .int .i64 0, .bool false]) := by kernel_rfl
@[go_sem] theorem Tryd.fld208_0 : fieldO Tryd.prog 208 0 = some (0, 3) := by kernel_rfl
@[go_sem] theorem Tryd.fld208_1 : fieldO Tryd.prog 208 1 = some (1, 3) := by kernel_rfl
@[go_sem] theorem Tryd.fld208_2 : fieldO Tryd.prog 208 2 = some (2, 4) := by kernel_rfl
@[go_sem] theorem Tryd.bld208 (parts : List (Nat × TV)) : buildO Tryd.prog 208 parts = (fillT (fun i => ([(0, 1), (1, 1), (2, 1)] : List (Nat × Nat))[i]?) [.int .i64 0, .int .i64 0, .bool false] parts).map .agg := by kernel_rfl
@[go_sem] theorem Tryd.eq208 (a0 b0 : Int) (a1 b1 : Int) (a2 b2 : Bool) : eqT Tryd.prog 20 208 (.agg [.int .i64 a0, .int .i64 a1, .bool a2]) (.agg [.int .i64 b0, .int .i64 b1, .bool b2]) = some ((a0 == b0) && ((a1 == b1) && ((a2 == b2) && true))) := by kernel_rfl
@[go_sem] theorem Tryd.eqg208 : Program.eqGuardType Tryd.prog (Program.depth Tryd.prog) 208 = false := by kernel_rfl
@[go_sem] theorem Tryd.agg241 : aggO Tryd.prog 241 = some true := by kernel_rfl
@[go_sem] theorem Tryd.pln241 : plainO Tryd.prog 241 = some true := by kernel_rfl
@[go_sem] theorem Tryd.sz241 : szO Tryd.prog 241 = some 2 := by kernel_rfl
@[go_sem] theorem Tryd.zero241 : zeroL Tryd.prog 241 = some [.int .i64 0, .int .i64 0] := by kernel_rfl
@[go_sem] theorem Tryd.small241 : smallO Tryd.prog 241 = some (2, 16) := by kernel_rfl
@[go_sem] theorem Tryd.zt241 : zeroT Tryd.prog 241 = some (.agg [.int .i64 0, .int .i64 0]) := by kernel_rfl
@[go_sem] theorem Tryd.fld241_0 : fieldO Tryd.prog 241 0 = some (0, 41) := by kernel_rfl
@[go_sem] theorem Tryd.bld241 (parts : List (Nat × TV)) : buildO Tryd.prog 241 parts = (fillT (fun i => ([(0, 2)] : List (Nat × Nat))[i]?) [.int .i64 0, .int .i64 0] parts).map .agg := by kernel_rfl
@[go_sem] theorem Tryd.eq241 (a0 b0 : Int) (a1 b1 : Int) : eqT Tryd.prog 20 241 (.agg [.int .i64 a0, .int .i64 a1]) (.agg [.int .i64 b0, .int .i64 b1]) = some (((a0 == b0) && ((a1 == b1) && true)) && true) := by kernel_rfl
@[go_sem] theorem Tryd.eqg241 : Program.eqGuardType Tryd.prog (Program.depth Tryd.prog) 241 = false := by kernel_rfl
theorem Tryd.mixes : Tryd.prog.follows .mixedOrders = true := by kernel_rfl
end Go.Proofs.YtlonlnfenbadbaaDoor

/- Part Pb. -/
namespace Go.Oc
open Go Go.Pm

/-- A number that an int can hold. -/
def In64 (n : Int) : Prop := -9223372036854775808 ≤ n ∧ n ≤ 9223372036854775807
theorem wrap_id {n : Int} (h : In64 n) : IntKind.i64.wrap n = n := wrap_in h.1 h.2

def inB (n lo hi : Int) : Bool := decide (lo ≤ n) && decide (n ≤ hi)
theorem inB_iff {n lo hi : Int} : inB n lo hi = true ↔ lo ≤ n ∧ n ≤ hi := by simp [inB]

structure Span where
  lo : Int
  hi : Int
  deriving DecidableEq
def Span.cs (s : Span) : List TV := [.int .i64 s.lo, .int .i64 s.hi]
def Span.t (s : Span) : TV := .agg s.cs
def spannedB (s : Span) (lo hi : Int) : Bool := decide (lo ≤ s.lo) && decide (s.lo ≤ s.hi) && decide (s.hi ≤ hi)
def widerS (s : Span) (n : Int) (first : Bool) : Span := if first then ⟨n, n⟩ else ⟨min s.lo n, max s.hi n⟩
def chosen (lo hi n : Int) : Int := if lo ≥ hi then lo else if 9223372036854775807 < hi - lo + 1 then min (max n lo) hi else lo + n % (hi - lo + 1)
theorem chosen_mem {lo hi : Int} (n : Int) (h : lo ≤ hi) : lo ≤ chosen lo hi n ∧ chosen lo hi n ≤ hi := by
  unfold chosen
  split
  · omega
  · split
    · omega
    · have h1 := Int.emod_nonneg n (show hi - lo + 1 ≠ 0 by omega)
      have h2 := Int.emod_lt_of_pos n (show 0 < hi - lo + 1 by omega)
      omega
theorem chosen_low {lo hi : Int} (n : Int) (h : ¬ lo ≤ hi) : chosen lo hi n = lo := by
  unfold chosen; rw [if_pos (by omega)]

/-- A list of ints, as cells. -/
def ints (l : List Int) : List TV := l.map (TV.int .i64)
theorem ints_at {l : List Int} {k : Nat} {x : Int} (h : l[k]? = some x) : (ints l).drop (k * 1) = .int .i64 x :: ints (l.drop (k + 1)) := by
  unfold ints
  rw [Nat.mul_one, ← List.map_drop]
  have hk := (List.getElem?_eq_some_iff.1 h).1
  rw [List.drop_eq_getElem_cons hk, List.map_cons]
  congr 2
  exact (List.getElem?_eq_some_iff.1 h).2
theorem ints_inj : ∀ {a b : List Int}, ints a = ints b → a = b
  | [], [], _ => rfl
  | x :: a, y :: b, h => by
    simp only [ints, List.map_cons, List.cons.injEq, TV.int.injEq, true_and] at h
    rw [h.1, ints_inj (a := a) (b := b) h.2]
  | [], _ :: _, h => by simp [ints] at h
  | _ :: _, [], h => by simp [ints] at h
theorem ints_len (l : List Int) : (ints l).length = l.length := by simp [ints]
noncomputable def unints (cs : List TV) : Option (List Int) := open Classical in if h : ∃ l, cs = ints l then some h.choose else none
theorem unints_eq (l : List Int) : unints (ints l) = some l := by
  have h : ∃ l', ints l = ints l' := ⟨l, rfl⟩
  unfold unints
  rw [dif_pos h]
  congr 1
  exact (ints_inj h.choose_spec).symm

/-- Lists of structs. -/
theorem flat_at {α : Type} (c : α → List TV) {n : Nat} (hc : ∀ x, (c x).length = n) : ∀ {l : List α} {k : Nat} {x : α}, l[k]? = some x → (l.flatMap c).drop (k * n) = c x ++ (l.drop (k + 1)).flatMap c
  | [], k, x, h => by simp at h
  | y :: l, 0, x, h => by simp at h; subst h; simp
  | y :: l, k + 1, x, h => by
    simp at h
    have := flat_at c hc h
    simp only [List.flatMap_cons, List.drop_succ_cons, Nat.add_mul, Nat.one_mul]
    rw [Nat.add_comm, List.drop_append, hc y]
    simp [List.drop_eq_nil_of_le, hc y, this]
theorem flat_len {α : Type} (c : α → List TV) {n : Nat} (hc : ∀ x, (c x).length = n) (l : List α) : (l.flatMap c).length = l.length * n := by
  induction l with
  | nil => simp
  | cons x l ih => simp only [List.flatMap_cons, List.length_append, hc, ih, List.length_cons, Nat.add_mul]; omega
theorem flat_inj {α : Type} {c : α → List TV} {n : Nat} (hc : ∀ x, (c x).length = n) (hn : 0 < n) (hi : ∀ x y, c x = c y → x = y) : ∀ {a b : List α}, a.flatMap c = b.flatMap c → a = b
  | [], [], _ => rfl
  | x :: a, y :: b, h => by
    simp only [List.flatMap_cons] at h
    have h1 := List.append_inj h (by rw [hc, hc])
    rw [hi x y h1.1, flat_inj hc hn hi h1.2]
  | [], y :: b, h => by have := congrArg List.length h; simp [hc] at this; omega
  | x :: a, [], h => by have := congrArg List.length h; simp [hc] at this; omega
noncomputable def unflat {α : Type} (c : α → List TV) (cs : List TV) : Option (List α) := open Classical in if h : ∃ l, cs = l.flatMap c then some h.choose else none
theorem unflat_eq {α : Type} {c : α → List TV} {n : Nat} (hc : ∀ x, (c x).length = n) (hn : 0 < n) (hi : ∀ x y, c x = c y → x = y) (l : List α) : unflat c (l.flatMap c) = some l := by
  have h : ∃ l' : List α, l.flatMap c = l'.flatMap c := ⟨l, rfl⟩
  unfold unflat
  rw [dif_pos h]
  congr 1
  exact (flat_inj hc hn hi h.choose_spec).symm
theorem unflat_some {α : Type} {c : α → List TV} {cs : List TV} {l : List α} (h : unflat c cs = some l) : cs = l.flatMap c := by
  unfold unflat at h
  split at h
  · rename_i hc; cases h; exact hc.choose_spec
  · cases h
theorem unints_some {cs : List TV} {l : List Int} (h : unints cs = some l) : cs = ints l := by
  unfold unints at h
  split at h
  · rename_i hc; cases h; exact hc.choose_spec
  · cases h

/-- A row of structs. -/
def IsRow {α : Type} (c : α → List TV) (s : TV) (l : List α) : Prop := (s = .nilSl ∧ l = []) ∨ ∃ full, s = .sl (l.flatMap c) l.length full
noncomputable def rowL {α : Type} (un : List TV → Option (List α)) : TV → Option (List α)
  | .nilSl => un []
  | .sl cs n _ => match un cs with
    | some l => if n = l.length then some l else none
    | none => none
  | _ => none
attribute [go_sem] rowL
theorem rowL_some {α : Type} {c : α → List TV} {un : List TV → Option (List α)} (h0 : un [] = some []) (hu : ∀ {cs l}, un cs = some l → cs = l.flatMap c) {s : TV} {l : List α} (h : rowL un s = some l) : IsRow c s l := by
  unfold rowL at h
  split at h
  · rw [h0] at h; cases h; exact .inl ⟨rfl, rfl⟩
  · split at h
    · rename_i l' hl
      split at h
      · rename_i hn
        cases h
        have := hu hl
        subst this; subst hn
        exact .inr ⟨_, rfl⟩
      · cases h
    · cases h
  · cases h
theorem IsRow.ne {α : Type} {c : α → List TV} {s : TV} {l : List α} (h : IsRow c s l) (hl : 1 ≤ l.length) : ∃ full, s = .sl (l.flatMap c) l.length full := by
  rcases h with ⟨_, rfl⟩ | h
  · simp at hl
  · exact h

theorem get_lt {α : Type} {l : List α} {k : Nat} (h : (k : Int) < (l.length : Int)) : ∃ x, l[k]? = some x := ⟨l[k]'(by omega), List.getElem?_eq_getElem (by omega)⟩
theorem take_all {α : Type} (p : α → Bool) {l : List α} {k : Nat} {x : α} (h : l[k]? = some x) : (l.take (k + 1)).all p = ((l.take k).all p && p x) := by
  rw [List.take_add_one, h]; simp
theorem take_snoc {α : Type} {l : List α} {k : Nat} {x : α} (h : l[k]? = some x) : l.take (k + 1) = l.take k ++ [x] := by
  rw [List.take_add_one, h]; rfl
theorem all_of_take {α : Type} {p : α → Bool} {l : List α} {k : Nat} (h : (l.take k).all p = false) : l.all p = false := by
  rw [← List.take_append_drop k l, List.all_append, h]; rfl

/-- May the first list stand before the second one? -/
def before : List Int → List Int → Bool
  | [], [] => false
  | [], _ :: _ => true
  | _ :: _, [] => false
  | x :: a, y :: b => if x < y then true else if y < x then false else before a b
def risingB : Int → List Int → Int → Bool
  | _, [], _ => true
  | lo, x :: l, hi => decide (lo ≤ x) && decide (x < hi) && risingB (x + 1) l hi
/-- The numbers of a set, below another one. -/
def members (set below : Nat) : List Int := ((List.range below).filter set.testBit).map Int.ofNat
end Go.Oc

/- Part Bt. -/
namespace Go.Oc.Gl
end Go.Oc.Gl
namespace Go.Proofs.YtlonlnfenbadbaaDoor.Gl
end Go.Proofs.YtlonlnfenbadbaaDoor.Gl
namespace Go.Proofs.YtlonlnfenbadbaaDoor.Gl
open Go.RowKit Go.Pm Go.Oc Go.Oc.Gl
set_option maxRecDepth 100000
set_option maxHeartbeats 1000000

theorem In_c (n lo hi : Int) : PCalls Tryd.prog 55 [.int .i64 n, .int .i64 lo, .int .i64 hi] (.bool (inB n lo hi)) := by
  refine pcalls_by Tryd.mixes noSpec_ok (fn := Tryd.f55) Tryd.func55 rfl (by kernel_rfl) (by show 3 ≤ _; decide) ?_
  simp (decide := true) (maxSteps := 4000000) only [go_sem, Nat.reduceAdd, Nat.reduceSub, Nat.reduceMul, Nat.reduceDiv, Nat.reduceMod, Nat.reduceLT, Nat.reduceLeDiff, Nat.reduceEqDiff, Nat.reduceBEq, Nat.reduceBNe, Nat.reduceGT, Int.reduceAdd, Int.reduceSub, Int.reduceMul, Int.reduceNeg, Int.reduceLT, Int.reduceLE, Int.reduceEq, Int.reduceNe, Int.reduceBEq, Int.reduceBNe, Int.reduceToNat, Int.reduceGT, Int.reduceGE, ↓reduceIte, decide_true, decide_false, Tryd.f55, inB, ge_iff_le]
def gIn : List TV → Option TV
  | [.int .i64 n, .int .i64 a, .int .i64 b] => some (.bool (inB n a b))
  | _ => none
theorem gIn_ok : ∀ xs r, gIn xs = some r → PCalls Tryd.prog 55 xs r := by
  intro xs r h
  unfold gIn at h
  split at h
  · cases h; exact In_c _ _ _
  · cases h
def spIn : Pm.Spec := noSpec.one 55 gIn
attribute [go_sem] gIn
@[go_sem] theorem spIn_p (f : FuncId) (xs : List TV) : spIn.p f xs = Pm.Spec.p (noSpec.one 55 gIn) f xs := rfl
@[go_sem] theorem spIn_h (f : FuncId) (ps : List PV) (hl : List PO) : spIn.h f ps hl = Pm.Spec.h (noSpec.one 55 gIn) f ps hl := rfl
@[go_sem] theorem spIn_y (Y : Pm.YS) (f : FuncId) (ps : List PV) (hl : List PO) : spIn.y Y f ps hl = Pm.Spec.y (noSpec.one 55 gIn) Y f ps hl := rfl
@[go_sem] theorem spIn_fz (f : FuncId) : spIn.fz f = Pm.Spec.fz (noSpec.one 55 gIn) f := rfl
@[go_sem] theorem spIn_fr (f : FuncId) : spIn.fr f = Pm.Spec.fr (noSpec.one 55 gIn) f := rfl
@[go_sem] theorem spIn_yf (f : FuncId) : spIn.yf f = Pm.Spec.yf (noSpec.one 55 gIn) f := rfl
@[go_sem] theorem spIn_gd : spIn.gd = Pm.Spec.gd (noSpec.one 55 gIn) := rfl
@[go_sem] theorem spIn_mu (t : TypeId) : spIn.mu t = Pm.Spec.mu (noSpec.one 55 gIn) t := rfl
@[go_sem] theorem spIn_nf (t : TypeId) : spIn.nf t = Pm.Spec.nf (noSpec.one 55 gIn) t := rfl
theorem spIn_ok : SpecOk Tryd.prog spIn := Spec.one_ok gIn_ok noSpec_ok

theorem Holds_c (s : Span) (n : Int) : PCalls Tryd.prog 24 [s.t, .int .i64 n] (.bool (inB n s.lo s.hi)) := by
  refine pcalls_by Tryd.mixes spIn_ok (fn := Tryd.f24) Tryd.func24 rfl (by kernel_rfl) (by show 2 ≤ _; decide) ?_
  simp (decide := true) (maxSteps := 4000000) only [go_sem, Nat.reduceAdd, Nat.reduceSub, Nat.reduceMul, Nat.reduceDiv, Nat.reduceMod, Nat.reduceLT, Nat.reduceLeDiff, Nat.reduceEqDiff, Nat.reduceBEq, Nat.reduceBNe, Nat.reduceGT, Int.reduceAdd, Int.reduceSub, Int.reduceMul, Int.reduceNeg, Int.reduceLT, Int.reduceLE, Int.reduceEq, Int.reduceNe, Int.reduceBEq, Int.reduceBNe, Int.reduceToNat, Int.reduceGT, Int.reduceGE, ↓reduceIte, decide_true, decide_false, Tryd.f24, Span.t, Span.cs, spIn, gIn]
theorem Mod_c (n by_ : Int) (h : 0 < by_) (h2 : by_ ≤ 9223372036854775807) : PCalls Tryd.prog 16 [.int .i64 n, .int .i64 by_] (.int .i64 (n % by_)) := by
  refine pcalls_by Tryd.mixes noSpec_ok (fn := Tryd.f16) Tryd.func16 rfl (by kernel_rfl) (by show 2 ≤ _; decide) ?_
  have hne : ¬ by_ = 0 := by omega
  simp (decide := true) (maxSteps := 4000000) only [go_sem, Nat.reduceAdd, Nat.reduceSub, Nat.reduceMul, Nat.reduceDiv, Nat.reduceMod, Nat.reduceLT, Nat.reduceLeDiff, Nat.reduceEqDiff, Nat.reduceBEq, Nat.reduceBNe, Nat.reduceGT, Int.reduceAdd, Int.reduceSub, Int.reduceMul, Int.reduceNeg, Int.reduceLT, Int.reduceLE, Int.reduceEq, Int.reduceNe, Int.reduceBEq, Int.reduceBNe, Int.reduceToNat, Int.reduceGT, Int.reduceGE, ↓reduceIte, decide_true, decide_false, Tryd.f16, hne]
  have e := Int.tmod_eq_emod (a := n) (b := by_)
  have e1 := Int.emod_nonneg n hne
  have e2 := Int.emod_lt_of_pos n h
  by_cases hn : n.tmod by_ < 0
  · simp (decide := true) (maxSteps := 4000000) only [go_sem, Nat.reduceAdd, Nat.reduceSub, Nat.reduceMul, Nat.reduceDiv, Nat.reduceMod, Nat.reduceLT, Nat.reduceLeDiff, Nat.reduceEqDiff, Nat.reduceBEq, Nat.reduceBNe, Nat.reduceGT, Int.reduceAdd, Int.reduceSub, Int.reduceMul, Int.reduceNeg, Int.reduceLT, Int.reduceLE, Int.reduceEq, Int.reduceNe, Int.reduceBEq, Int.reduceBNe, Int.reduceToNat, Int.reduceGT, Int.reduceGE, ↓reduceIte, decide_true, decide_false, hn]
    have e3 : n.tmod by_ + by_ = n % by_ := by
      rw [e] at hn ⊢
      split at hn
      · omega
      · rename_i hc
        rw [if_neg hc]
        have : (by_.natAbs : Int) = by_ := by omega
        omega
    rw [e3, wrap_in (by omega) (by omega)]
  · simp (decide := true) (maxSteps := 4000000) only [go_sem, Nat.reduceAdd, Nat.reduceSub, Nat.reduceMul, Nat.reduceDiv, Nat.reduceMod, Nat.reduceLT, Nat.reduceLeDiff, Nat.reduceEqDiff, Nat.reduceBEq, Nat.reduceBNe, Nat.reduceGT, Int.reduceAdd, Int.reduceSub, Int.reduceMul, Int.reduceNeg, Int.reduceLT, Int.reduceLE, Int.reduceEq, Int.reduceNe, Int.reduceBEq, Int.reduceBNe, Int.reduceToNat, Int.reduceGT, Int.reduceGE, ↓reduceIte, decide_true, decide_false, hn]
    rw [e] at hn ⊢
    split at hn
    · rename_i hc; rw [if_pos hc]; simp
    · rename_i hc
      have : (by_.natAbs : Int) = by_ := by omega
      omega
theorem Abs_c (n : Int) : PCalls Tryd.prog 27 [.int .i64 n] (.int .i64 (max n (IntKind.i64.wrap (0 - n)))) := by
  refine pcalls_by Tryd.mixes noSpec_ok (fn := Tryd.f27) Tryd.func27 rfl (by kernel_rfl) (by show 1 ≤ _; decide) ?_
  simp (decide := true) (maxSteps := 4000000) only [go_sem, Nat.reduceAdd, Nat.reduceSub, Nat.reduceMul, Nat.reduceDiv, Nat.reduceMod, Nat.reduceLT, Nat.reduceLeDiff, Nat.reduceEqDiff, Nat.reduceBEq, Nat.reduceBNe, Nat.reduceGT, Int.reduceAdd, Int.reduceSub, Int.reduceMul, Int.reduceNeg, Int.reduceLT, Int.reduceLE, Int.reduceEq, Int.reduceNe, Int.reduceBEq, Int.reduceBNe, Int.reduceToNat, Int.reduceGT, Int.reduceGE, ↓reduceIte, decide_true, decide_false, Tryd.f27]
def gHolds : List TV → Option TV
  | [.agg [.int .i64 x, .int .i64 y], .int .i64 n] => some (.bool (inB n x y))
  | _ => none
theorem gHolds_ok : ∀ xs r, gHolds xs = some r → PCalls Tryd.prog 24 xs r := by
  intro xs r h
  unfold gHolds at h
  split at h
  · cases h; exact Holds_c ⟨_, _⟩ _
  · cases h
def gMod : List TV → Option TV
  | [.int .i64 n, .int .i64 b] => if 0 < b ∧ b ≤ 9223372036854775807 then some (.int .i64 (n % b)) else none
  | _ => none
theorem gMod_ok : ∀ xs r, gMod xs = some r → PCalls Tryd.prog 16 xs r := by
  intro xs r h
  unfold gMod at h
  split at h
  · split at h
    · rename_i hc; cases h; exact Mod_c _ _ hc.1 hc.2
    · cases h
  · cases h
def gAbs : List TV → Option TV
  | [.int .i64 n] => some (.int .i64 (max n (IntKind.i64.wrap (0 - n))))
  | _ => none
theorem gAbs_ok : ∀ xs r, gAbs xs = some r → PCalls Tryd.prog 27 xs r := by
  intro xs r h
  unfold gAbs at h
  split at h
  · cases h; exact Abs_c _
  · cases h
noncomputable def spBs : Pm.Spec := spIn
theorem spBs_ok : SpecOk Tryd.prog spBs := spIn_ok
@[go_sem] theorem spBs_p (f : FuncId) (xs : List TV) : spBs.p f xs = Pm.Spec.p (spIn) f xs := rfl
@[go_sem] theorem spBs_h (f : FuncId) (ps : List PV) (hl : List PO) : spBs.h f ps hl = Pm.Spec.h (spIn) f ps hl := rfl
@[go_sem] theorem spBs_y (Y : Pm.YS) (f : FuncId) (ps : List PV) (hl : List PO) : spBs.y Y f ps hl = Pm.Spec.y (spIn) Y f ps hl := rfl
@[go_sem] theorem spBs_fz (f : FuncId) : spBs.fz f = Pm.Spec.fz (spIn) f := rfl
@[go_sem] theorem spBs_fr (f : FuncId) : spBs.fr f = Pm.Spec.fr (spIn) f := rfl
@[go_sem] theorem spBs_yf (f : FuncId) : spBs.yf f = Pm.Spec.yf (spIn) f := rfl
@[go_sem] theorem spBs_gd : spBs.gd = Pm.Spec.gd (spIn) := rfl
@[go_sem] theorem spBs_mu (t : TypeId) : spBs.mu t = Pm.Spec.mu (spIn) t := rfl
@[go_sem] theorem spBs_nf (t : TypeId) : spBs.nf t = Pm.Spec.nf (spIn) t := rfl
noncomputable def spBh : Pm.Spec := spBs.one 24 gHolds
theorem spBh_ok : SpecOk Tryd.prog spBh := Spec.one_ok gHolds_ok spBs_ok
attribute [go_sem] gHolds
@[go_sem] theorem spBh_p (f : FuncId) (xs : List TV) : spBh.p f xs = Pm.Spec.p (spBs.one 24 gHolds) f xs := rfl
@[go_sem] theorem spBh_h (f : FuncId) (ps : List PV) (hl : List PO) : spBh.h f ps hl = Pm.Spec.h (spBs.one 24 gHolds) f ps hl := rfl
@[go_sem] theorem spBh_y (Y : Pm.YS) (f : FuncId) (ps : List PV) (hl : List PO) : spBh.y Y f ps hl = Pm.Spec.y (spBs.one 24 gHolds) Y f ps hl := rfl
@[go_sem] theorem spBh_fz (f : FuncId) : spBh.fz f = Pm.Spec.fz (spBs.one 24 gHolds) f := rfl
@[go_sem] theorem spBh_fr (f : FuncId) : spBh.fr f = Pm.Spec.fr (spBs.one 24 gHolds) f := rfl
@[go_sem] theorem spBh_yf (f : FuncId) : spBh.yf f = Pm.Spec.yf (spBs.one 24 gHolds) f := rfl
@[go_sem] theorem spBh_gd : spBh.gd = Pm.Spec.gd (spBs.one 24 gHolds) := rfl
@[go_sem] theorem spBh_mu (t : TypeId) : spBh.mu t = Pm.Spec.mu (spBs.one 24 gHolds) t := rfl
@[go_sem] theorem spBh_nf (t : TypeId) : spBh.nf t = Pm.Spec.nf (spBs.one 24 gHolds) t := rfl
noncomputable def spBw : Pm.Spec := spBh
theorem spBw_ok : SpecOk Tryd.prog spBw := spBh_ok
@[go_sem] theorem spBw_p (f : FuncId) (xs : List TV) : spBw.p f xs = Pm.Spec.p (spBh) f xs := rfl
@[go_sem] theorem spBw_h (f : FuncId) (ps : List PV) (hl : List PO) : spBw.h f ps hl = Pm.Spec.h (spBh) f ps hl := rfl
@[go_sem] theorem spBw_y (Y : Pm.YS) (f : FuncId) (ps : List PV) (hl : List PO) : spBw.y Y f ps hl = Pm.Spec.y (spBh) Y f ps hl := rfl
@[go_sem] theorem spBw_fz (f : FuncId) : spBw.fz f = Pm.Spec.fz (spBh) f := rfl
@[go_sem] theorem spBw_fr (f : FuncId) : spBw.fr f = Pm.Spec.fr (spBh) f := rfl
@[go_sem] theorem spBw_yf (f : FuncId) : spBw.yf f = Pm.Spec.yf (spBh) f := rfl
@[go_sem] theorem spBw_gd : spBw.gd = Pm.Spec.gd (spBh) := rfl
@[go_sem] theorem spBw_mu (t : TypeId) : spBw.mu t = Pm.Spec.mu (spBh) t := rfl
@[go_sem] theorem spBw_nf (t : TypeId) : spBw.nf t = Pm.Spec.nf (spBh) t := rfl
noncomputable def spBm : Pm.Spec := spBw.one 16 gMod
theorem spBm_ok : SpecOk Tryd.prog spBm := Spec.one_ok gMod_ok spBw_ok
attribute [go_sem] gMod
@[go_sem] theorem spBm_p (f : FuncId) (xs : List TV) : spBm.p f xs = Pm.Spec.p (spBw.one 16 gMod) f xs := rfl
@[go_sem] theorem spBm_h (f : FuncId) (ps : List PV) (hl : List PO) : spBm.h f ps hl = Pm.Spec.h (spBw.one 16 gMod) f ps hl := rfl
@[go_sem] theorem spBm_y (Y : Pm.YS) (f : FuncId) (ps : List PV) (hl : List PO) : spBm.y Y f ps hl = Pm.Spec.y (spBw.one 16 gMod) Y f ps hl := rfl
@[go_sem] theorem spBm_fz (f : FuncId) : spBm.fz f = Pm.Spec.fz (spBw.one 16 gMod) f := rfl
@[go_sem] theorem spBm_fr (f : FuncId) : spBm.fr f = Pm.Spec.fr (spBw.one 16 gMod) f := rfl
@[go_sem] theorem spBm_yf (f : FuncId) : spBm.yf f = Pm.Spec.yf (spBw.one 16 gMod) f := rfl
@[go_sem] theorem spBm_gd : spBm.gd = Pm.Spec.gd (spBw.one 16 gMod) := rfl
@[go_sem] theorem spBm_mu (t : TypeId) : spBm.mu t = Pm.Spec.mu (spBw.one 16 gMod) t := rfl
@[go_sem] theorem spBm_nf (t : TypeId) : spBm.nf t = Pm.Spec.nf (spBw.one 16 gMod) t := rfl
noncomputable def spB1 : Pm.Spec := spBm.one 27 gAbs
theorem spB1_ok : SpecOk Tryd.prog spB1 := Spec.one_ok gAbs_ok spBm_ok
attribute [go_sem] gAbs
@[go_sem] theorem spB1_p (f : FuncId) (xs : List TV) : spB1.p f xs = Pm.Spec.p (spBm.one 27 gAbs) f xs := rfl
@[go_sem] theorem spB1_h (f : FuncId) (ps : List PV) (hl : List PO) : spB1.h f ps hl = Pm.Spec.h (spBm.one 27 gAbs) f ps hl := rfl
@[go_sem] theorem spB1_y (Y : Pm.YS) (f : FuncId) (ps : List PV) (hl : List PO) : spB1.y Y f ps hl = Pm.Spec.y (spBm.one 27 gAbs) Y f ps hl := rfl
@[go_sem] theorem spB1_fz (f : FuncId) : spB1.fz f = Pm.Spec.fz (spBm.one 27 gAbs) f := rfl
@[go_sem] theorem spB1_fr (f : FuncId) : spB1.fr f = Pm.Spec.fr (spBm.one 27 gAbs) f := rfl
@[go_sem] theorem spB1_yf (f : FuncId) : spB1.yf f = Pm.Spec.yf (spBm.one 27 gAbs) f := rfl
@[go_sem] theorem spB1_gd : spB1.gd = Pm.Spec.gd (spBm.one 27 gAbs) := rfl
@[go_sem] theorem spB1_mu (t : TypeId) : spB1.mu t = Pm.Spec.mu (spBm.one 27 gAbs) t := rfl
@[go_sem] theorem spB1_nf (t : TypeId) : spB1.nf t = Pm.Spec.nf (spBm.one 27 gAbs) t := rfl
noncomputable def spB2 : Pm.Spec := spB1
theorem spB2_ok : SpecOk Tryd.prog spB2 := spB1_ok
@[go_sem] theorem spB2_p (f : FuncId) (xs : List TV) : spB2.p f xs = Pm.Spec.p (spB1) f xs := rfl
@[go_sem] theorem spB2_h (f : FuncId) (ps : List PV) (hl : List PO) : spB2.h f ps hl = Pm.Spec.h (spB1) f ps hl := rfl
@[go_sem] theorem spB2_y (Y : Pm.YS) (f : FuncId) (ps : List PV) (hl : List PO) : spB2.y Y f ps hl = Pm.Spec.y (spB1) Y f ps hl := rfl
@[go_sem] theorem spB2_fz (f : FuncId) : spB2.fz f = Pm.Spec.fz (spB1) f := rfl
@[go_sem] theorem spB2_fr (f : FuncId) : spB2.fr f = Pm.Spec.fr (spB1) f := rfl
@[go_sem] theorem spB2_yf (f : FuncId) : spB2.yf f = Pm.Spec.yf (spB1) f := rfl
@[go_sem] theorem spB2_gd : spB2.gd = Pm.Spec.gd (spB1) := rfl
@[go_sem] theorem spB2_mu (t : TypeId) : spB2.mu t = Pm.Spec.mu (spB1) t := rfl
@[go_sem] theorem spB2_nf (t : TypeId) : spB2.nf t = Pm.Spec.nf (spB1) t := rfl
noncomputable def spB3 : Pm.Spec := spB2
theorem spB3_ok : SpecOk Tryd.prog spB3 := spB2_ok
@[go_sem] theorem spB3_p (f : FuncId) (xs : List TV) : spB3.p f xs = Pm.Spec.p (spB2) f xs := rfl
@[go_sem] theorem spB3_h (f : FuncId) (ps : List PV) (hl : List PO) : spB3.h f ps hl = Pm.Spec.h (spB2) f ps hl := rfl
@[go_sem] theorem spB3_y (Y : Pm.YS) (f : FuncId) (ps : List PV) (hl : List PO) : spB3.y Y f ps hl = Pm.Spec.y (spB2) Y f ps hl := rfl
@[go_sem] theorem spB3_fz (f : FuncId) : spB3.fz f = Pm.Spec.fz (spB2) f := rfl
@[go_sem] theorem spB3_fr (f : FuncId) : spB3.fr f = Pm.Spec.fr (spB2) f := rfl
@[go_sem] theorem spB3_yf (f : FuncId) : spB3.yf f = Pm.Spec.yf (spB2) f := rfl
@[go_sem] theorem spB3_gd : spB3.gd = Pm.Spec.gd (spB2) := rfl
@[go_sem] theorem spB3_mu (t : TypeId) : spB3.mu t = Pm.Spec.mu (spB2) t := rfl
@[go_sem] theorem spB3_nf (t : TypeId) : spB3.nf t = Pm.Spec.nf (spB2) t := rfl
theorem Same_c (a b : List Int) (fa fb : Bool) (ha : a.length ≤ 9223372036854775806) : PCalls Tryd.prog 21 [.sl (ints a) a.length fa, .sl (ints b) b.length fb] (.bool (decide (a = b))) := by
  refine pcalls_by Tryd.mixes noSpec_ok (fn := Tryd.f21) Tryd.func21 rfl (by kernel_rfl) (by show 2 ≤ _; decide) ?_
  by_cases hl : a.length = b.length
  · have hl' : (a.length : Int) = b.length := by omega
    simp (decide := true) (maxSteps := 4000000) only [go_sem, Nat.reduceAdd, Nat.reduceSub, Nat.reduceMul, Nat.reduceDiv, Nat.reduceMod, Nat.reduceLT, Nat.reduceLeDiff, Nat.reduceEqDiff, Nat.reduceBEq, Nat.reduceBNe, Nat.reduceGT, Int.reduceAdd, Int.reduceSub, Int.reduceMul, Int.reduceNeg, Int.reduceLT, Int.reduceLE, Int.reduceEq, Int.reduceNe, Int.reduceBEq, Int.reduceBNe, Int.reduceToNat, Int.reduceGT, Int.reduceGE, ↓reduceIte, decide_true, decide_false, Tryd.f21, hl', bne_self_eq_false]
    refine pwpC_loop (A := { k : Nat // a.take k = b.take k ∧ k ≤ a.length }) (fun k => { env := [(5, .t (.int .i64 k.1)), (0, .t (.sl (ints a) a.length fa)), (1, .t (.sl (ints b) b.length fb))], heap := [] }) (fun k => a.length - k.1) ⟨0, by simp⟩ ?_ (fun _ => by rfl) fun ⟨k, hk, hka⟩ => ?_
    · simp (decide := true) (maxSteps := 4000000) only [go_sem, Nat.reduceAdd, Nat.reduceSub, Nat.reduceMul, Nat.reduceDiv, Nat.reduceMod, Nat.reduceLT, Nat.reduceLeDiff, Nat.reduceEqDiff, Nat.reduceBEq, Nat.reduceBNe, Nat.reduceGT, Int.reduceAdd, Int.reduceSub, Int.reduceMul, Int.reduceNeg, Int.reduceLT, Int.reduceLE, Int.reduceEq, Int.reduceNe, Int.reduceBEq, Int.reduceBNe, Int.reduceToNat, Int.reduceGT, Int.reduceGE, ↓reduceIte, decide_true, decide_false]
    · by_cases hlt : (k : Int) < a.length
      · have hltb : (k : Int) < b.length := by omega
        obtain ⟨x, hx⟩ := get_lt hlt
        obtain ⟨y, hy⟩ := get_lt hltb
        by_cases hxy : x = y
        · subst hxy
          simp (decide := true) (maxSteps := 4000000) only [go_sem, Nat.reduceAdd, Nat.reduceSub, Nat.reduceMul, Nat.reduceDiv, Nat.reduceMod, Nat.reduceLT, Nat.reduceLeDiff, Nat.reduceEqDiff, Nat.reduceBEq, Nat.reduceBNe, Nat.reduceGT, Int.reduceAdd, Int.reduceSub, Int.reduceMul, Int.reduceNeg, Int.reduceLT, Int.reduceLE, Int.reduceEq, Int.reduceNe, Int.reduceBEq, Int.reduceBNe, Int.reduceToNat, Int.reduceGT, Int.reduceGE, ↓reduceIte, decide_true, decide_false, hlt, hltb, ints_at hx, ints_at hy, hl', bne_self_eq_false]
          refine ⟨⟨k + 1, by rw [take_snoc hx, take_snoc hy, hk], by omega⟩, by rw [wrap_in (by omega) (by omega)]; simp, by simp only; omega⟩
        · have hxy' : (x != y) = true := by simpa using hxy
          simp (decide := true) (maxSteps := 4000000) only [go_sem, Nat.reduceAdd, Nat.reduceSub, Nat.reduceMul, Nat.reduceDiv, Nat.reduceMod, Nat.reduceLT, Nat.reduceLeDiff, Nat.reduceEqDiff, Nat.reduceBEq, Nat.reduceBNe, Nat.reduceGT, Int.reduceAdd, Int.reduceSub, Int.reduceMul, Int.reduceNeg, Int.reduceLT, Int.reduceLE, Int.reduceEq, Int.reduceNe, Int.reduceBEq, Int.reduceBNe, Int.reduceToNat, Int.reduceGT, Int.reduceGE, ↓reduceIte, decide_true, decide_false, hlt, hltb, ints_at hx, ints_at hy, hl', hxy']
          symm
          rw [decide_eq_false_iff_not]
          rintro rfl
          rw [hx] at hy; cases hy; exact hxy rfl
      · have hltb : ¬ (k : Int) < b.length := by omega
        simp (decide := true) (maxSteps := 4000000) only [go_sem, Nat.reduceAdd, Nat.reduceSub, Nat.reduceMul, Nat.reduceDiv, Nat.reduceMod, Nat.reduceLT, Nat.reduceLeDiff, Nat.reduceEqDiff, Nat.reduceBEq, Nat.reduceBNe, Nat.reduceGT, Int.reduceAdd, Int.reduceSub, Int.reduceMul, Int.reduceNeg, Int.reduceLT, Int.reduceLE, Int.reduceEq, Int.reduceNe, Int.reduceBEq, Int.reduceBNe, Int.reduceToNat, Int.reduceGT, Int.reduceGE, ↓reduceIte, decide_true, decide_false, hlt, hltb, hl']
        symm
        rw [decide_eq_true_eq]
        rwa [List.take_of_length_le (by omega), List.take_of_length_le (by omega)] at hk
  · have hl' : ((a.length : Int) != b.length) = true := by simp; omega
    simp (decide := true) (maxSteps := 4000000) only [go_sem, Nat.reduceAdd, Nat.reduceSub, Nat.reduceMul, Nat.reduceDiv, Nat.reduceMod, Nat.reduceLT, Nat.reduceLeDiff, Nat.reduceEqDiff, Nat.reduceBEq, Nat.reduceBNe, Nat.reduceGT, Int.reduceAdd, Int.reduceSub, Int.reduceMul, Int.reduceNeg, Int.reduceLT, Int.reduceLE, Int.reduceEq, Int.reduceNe, Int.reduceBEq, Int.reduceBNe, Int.reduceToNat, Int.reduceGT, Int.reduceGE, ↓reduceIte, decide_true, decide_false, Tryd.f21, hl']
    symm
    rw [decide_eq_false_iff_not]
    rintro rfl; exact hl rfl
end Go.Proofs.YtlonlnfenbadbaaDoor.Gl

/- Part Gp. -/
namespace Go.Oc.Gl
end Go.Oc.Gl
namespace Go.Proofs.YtlonlnfenbadbaaDoor.Gl
end Go.Proofs.YtlonlnfenbadbaaDoor.Gl
namespace Go.Oc.Gl
open Go Go.Pm

structure Blank where
  i : Span
  c : Span
  pr : Int
  deriving DecidableEq
def Blank.cs (b : Blank) : List TV := [.int .i64 b.i.lo, .int .i64 b.i.hi, .int .i64 b.c.lo, .int .i64 b.c.hi, .int .i64 b.pr]
def unBlanks : List TV → Option (List Blank)
  | [] => some []
  | .int .i64 a :: .int .i64 b :: .int .i64 c :: .int .i64 d :: .int .i64 e :: r => (unBlanks r).map (⟨⟨a, b⟩, ⟨c, d⟩, e⟩ :: ·)
  | _ => none
theorem unBlanks_eq : ∀ l : List Blank, unBlanks (l.flatMap Blank.cs) = some l
  | [] => rfl
  | x :: l => by simp [Blank.cs, unBlanks, unBlanks_eq l]
theorem unBlanks_some : ∀ {cs : List TV} {l : List Blank}, unBlanks cs = some l → cs = l.flatMap Blank.cs := by
  intro cs
  induction cs using unBlanks.induct with
  | case1 => intro l h; simp [unBlanks] at h; subst h; rfl
  | case2 a b c d e r ih =>
    intro l h
    simp only [unBlanks, Option.map_eq_some_iff] at h
    obtain ⟨l', h1, rfl⟩ := h
    rw [ih h1]; rfl
  | case3 r h1 h2 =>
    intro l h
    unfold unBlanks at h
    split at h
    · exact absurd rfl h1
    · exact absurd rfl (h2 _ _ _ _ _ _)
    · cases h
def unSpans : List TV → Option (List Span)
  | [] => some []
  | .int .i64 a :: .int .i64 b :: r => (unSpans r).map (⟨a, b⟩ :: ·)
  | _ => none
theorem unSpans_eq : ∀ l : List Span, unSpans (l.flatMap Span.cs) = some l
  | [] => rfl
  | x :: l => by simp [Span.cs, unSpans, unSpans_eq l]
theorem unSpans_some : ∀ {cs : List TV} {l : List Span}, unSpans cs = some l → cs = l.flatMap Span.cs := by
  intro cs
  induction cs using unSpans.induct with
  | case1 => intro l h; simp [unSpans] at h; subst h; rfl
  | case2 a b r ih =>
    intro l h
    simp only [unSpans, Option.map_eq_some_iff] at h
    obtain ⟨l', h1, rfl⟩ := h
    rw [ih h1]; rfl
  | case3 r h1 h2 =>
    intro l h
    unfold unSpans at h
    split at h
    · exact absurd rfl h1
    · exact absurd rfl (h2 _ _ _)
    · cases h
attribute [go_sem] unBlanks_eq unSpans_eq
/-- A row of numbers, read. -/
def ic (n : Int) : List TV := [.int .i64 n]
theorem ic_ints (l : List Int) : l.flatMap ic = ints l := by
  induction l with
  | nil => rfl
  | cons x l ih => simp only [List.flatMap_cons, ih]; rfl
def unI : List TV → Option (List Int)
  | [] => some []
  | .int .i64 a :: r => (unI r).map (a :: ·)
  | _ => none
theorem unI_eq : ∀ l : List Int, unI (ints l) = some l
  | [] => rfl
  | x :: l => by
    show (unI (ints l)).map (x :: ·) = some (x :: l)
    rw [unI_eq l]; rfl
theorem unI_some : ∀ {cs : List TV} {l : List Int}, unI cs = some l → cs = l.flatMap ic := by
  intro cs
  induction cs using unI.induct with
  | case1 => intro l h; simp [unI] at h; subst h; rfl
  | case2 a r ih =>
    intro l h
    simp only [unI, Option.map_eq_some_iff] at h
    obtain ⟨l', h1, rfl⟩ := h
    rw [ih h1]; rfl
  | case3 r h1 h2 =>
    intro l h
    unfold unI at h
    split at h
    · exact absurd rfl h1
    · exact absurd rfl (h2 _ _)
    · cases h
attribute [go_sem] unI_eq

/-- An objective. -/
structure Ob where
  f : Int
  s : Int
  a : Int
  b : Int
  c : Int
  deriving DecidableEq
def Ob.cs (o : Ob) : List TV := [.int .i64 o.f, .int .i64 o.s, .int .i64 o.a, .int .i64 o.b, .int .i64 o.c]
def Ob.t (o : Ob) : TV := .agg o.cs
/-- A wish. -/
structure Want where
  p : Span
  c : Int
  deriving DecidableEq
def Want.t (w : Want) : TV := .agg [.int .i64 w.p.lo, .int .i64 w.p.hi, .int .i64 w.c]

def blankOk (b : Blank) : Bool := spannedB b.i 1 100000 && spannedB b.c 1 5000 && inB b.pr 0 1000000
def toolOk (t : Span) : Bool := spannedB t (-1000) 1000
def stockOk (B : List Blank) (T : List Span) : Bool := (inB B.length 2 8 && inB T.length 1 6) && B.all blankOk && T.all toolOk
def wantOk (w : Want) : Bool := spannedB w.p (-400000000) 400000000 && inB w.c 0 400000000
/-- Is something an objective of so many blanks and tools? -/
def obOk (n m : Int) (o : Ob) : Bool := inB o.f 0 (n - 1) && inB o.s 0 (n - 1) && (o.f != o.s) && inB o.a 0 (m - 1) && inB o.b 0 (m - 1) && inB o.c 0 (m - 1)
/-- The error of a stock, a wish and an objective. -/
def askedG (B : List Blank) (T : List Span) (w : Want) (o : Ob) : Int := if stockOk B T = false then 40 else if wantOk w = false then 43 else if obOk B.length T.length o = false then 41 else 0

/-- A number of a row. -/
def nth (l : List Int) (i : Int) : Int := l.getD i.toNat 0
/-- What both lenses do: of two numbers, with three curvatures. -/
def pw (n1 n2 f m b : Int) : Int := n1 * (f - m) + n2 * (m - b)
/-- An end of a span. -/
def endS (s : Span) (h : Bool) : Int := if h then s.hi else s.lo
theorem endS_mem {s : Span} (h : s.lo ≤ s.hi) (b : Bool) : s.lo ≤ endS s b ∧ endS s b ≤ s.hi := by
  unfold endS; cases b <;> simp <;> omega
/-- The bit of the second tool, and of the third one. -/
def bit1 (o : Ob) : Nat := if o.a = o.b then 0 else 1
def bit2 (o : Ob) : Nat := if o.a = o.c then 0 else if o.b = o.c then 1 else 2
/-- In a corner: what both lenses do. -/
def cornV (s1 s2 t1 t2 t3 : Span) (o : Ob) (k : Nat) : Int := pw (endS s1 (k.testBit 3)) (endS s2 (k.testBit 4)) (endS t1 (k.testBit 0)) (endS t2 (k.testBit (bit1 o))) (endS t3 (k.testBit (bit2 o)))
/-- The least and the greatest of some numbers. -/
def minmax : List Int → Span
  | [] => ⟨0, 0⟩
  | x :: l => ⟨l.foldl min x, l.foldl max x⟩
def corners (s1 s2 t1 t2 t3 : Span) (o : Ob) (k : Nat) : List Int := (List.range k).map (cornV s1 s2 t1 t2 t3 o)
/-- Between what power and colour lie. -/
structure Sn where
  p : Span
  c : Span
  deriving DecidableEq
def Sn.t (x : Sn) : TV := .agg [.int .i64 x.p.lo, .int .i64 x.p.hi, .int .i64 x.c.lo, .int .i64 x.c.hi]
def blankAt (B : List Blank) (i : Int) : Blank := B.getD i.toNat ⟨⟨0, 0⟩, ⟨0, 0⟩, 0⟩
def toolAt (T : List Span) (i : Int) : Span := T.getD i.toNat ⟨0, 0⟩
/-- Are true numbers within spans? -/
def tOkB (B : List Blank) (ix co : List Int) (k : Nat) : Bool := (List.range k).all fun (i : Nat) => inB (nth ix i) (blankAt B i).i.lo (blankAt B i).i.hi && inB (nth co i) (blankAt B i).c.lo (blankAt B i).c.hi
def tOkT (T : List Span) (cu : List Int) (k : Nat) : Bool := (List.range k).all fun (i : Nat) => inB (nth cu i) (toolAt T i).lo (toolAt T i).hi
theorem tOkB_succ (B : List Blank) (ix co : List Int) (k : Nat) : tOkB B ix co (k + 1) = (tOkB B ix co k && (inB (nth ix k) (blankAt B k).i.lo (blankAt B k).i.hi && inB (nth co k) (blankAt B k).c.lo (blankAt B k).c.hi)) := by
  unfold tOkB; rw [List.range_succ, List.all_append]; simp
theorem tOkT_succ (T : List Span) (cu : List Int) (k : Nat) : tOkT T cu (k + 1) = (tOkT T cu k && inB (nth cu k) (toolAt T k).lo (toolAt T k).hi) := by
  unfold tOkT; rw [List.range_succ, List.all_append]; simp
theorem tOkB_at {B : List Blank} {ix co : List Int} {k i : Nat} (h : tOkB B ix co k = true) (hi : i < k) : (((blankAt B i).i.lo ≤ nth ix i ∧ nth ix i ≤ (blankAt B i).i.hi)) ∧ (blankAt B i).c.lo ≤ nth co i ∧ nth co i ≤ (blankAt B i).c.hi := by
  unfold tOkB at h
  have := List.all_eq_true.1 h i (List.mem_range.2 hi)
  simp only [Bool.and_eq_true, inB_iff] at this
  exact this
theorem tOkT_at {T : List Span} {cu : List Int} {k i : Nat} (h : tOkT T cu k = true) (hi : i < k) : (toolAt T i).lo ≤ nth cu i ∧ nth cu i ≤ (toolAt T i).hi := by
  unfold tOkT at h
  have := List.all_eq_true.1 h i (List.mem_range.2 hi)
  exact inB_iff.1 this
theorem tOkB_no {B : List Blank} {ix co : List Int} {k n : Nat} (h : tOkB B ix co k = false) (hk : k ≤ n) : tOkB B ix co n = false := by
  rw [← Bool.not_eq_true] at h ⊢
  intro h'
  apply h
  unfold tOkB at h' ⊢
  rw [List.all_eq_true] at h' ⊢
  exact fun i hi => h' i (List.mem_range.2 (by have := List.mem_range.1 hi; omega))
theorem tOkT_no {T : List Span} {cu : List Int} {k n : Nat} (h : tOkT T cu k = false) (hk : k ≤ n) : tOkT T cu n = false := by
  rw [← Bool.not_eq_true] at h ⊢
  intro h'
  apply h
  unfold tOkT at h' ⊢
  rw [List.all_eq_true] at h' ⊢
  exact fun i hi => h' i (List.mem_range.2 (by have := List.mem_range.1 hi; omega))
def truthOk (B : List Blank) (T : List Span) (ix co cu : List Int) : Bool := ((ix.length == B.length) && (co.length == B.length) && (cu.length == T.length)) && (tOkB B ix co B.length && tOkT T cu T.length)
theorem nth_eq {l : List Int} {i : Nat} {x : Int} (h : l[i]? = some x) : nth l (i : Int) = x := by
  unfold nth
  rw [Int.toNat_natCast, List.getD_eq_getElem?_getD, h]; rfl
/-- The power and the colour of an objective in a truth, and the error. -/
def seenP (B : List Blank) (T : List Span) (o : Ob) (ix co cu : List Int) : Int × Int × Int :=
  if stockOk B T = false then (0, 0, 40) else if obOk B.length T.length o = false then (0, 0, 41) else if truthOk B T ix co cu = false then (0, 0, 42)
  else (pw (nth ix o.f) (nth ix o.s) (nth cu o.a) (nth cu o.b) (nth cu o.c), pw (nth co o.f) (nth co o.s) (nth cu o.a) (nth cu o.b) (nth cu o.c), 0)

def spansP (B : List Blank) (T : List Span) (o : Ob) : Sn :=
  ⟨minmax (corners (blankAt B o.f).i (blankAt B o.s).i (toolAt T o.a) (toolAt T o.b) (toolAt T o.c) o 32), minmax (corners (blankAt B o.f).c (blankAt B o.s).c (toolAt T o.a) (toolAt T o.b) (toolAt T o.c) o 32)⟩
def spansE (B : List Blank) (T : List Span) (o : Ob) : Sn × Int :=
  if stockOk B T = false then (⟨⟨0, 0⟩, ⟨0, 0⟩⟩, 40) else if obOk B.length T.length o = false then (⟨⟨0, 0⟩, ⟨0, 0⟩⟩, 41) else (spansP B T o, 0)
def worstS (c : Span) : Int := max c.hi (-c.lo)
def goodB (x : Sn) (w : Want) : Bool := decide (x.p.lo ≥ w.p.lo) && decide (x.p.hi ≤ w.p.hi) && decide (worstS x.c ≤ w.c)
def goodE (B : List Blank) (T : List Span) (w : Want) (o : Ob) : Bool × Int := if askedG B T w o = 0 then (goodB (spansP B T o) w, 0) else (false, askedG B T w o)

/-- All objectives of two blanks, and all. -/
def obs2 (m : Nat) (i j : Nat) : List Ob := (List.range (m * m * m)).map fun n => ⟨i, j, ((n / m / m : Nat) : Int), ((n / m % m : Nat) : Int), ((n % m : Nat) : Int)⟩
def obs1 (n m i : Nat) : List Ob := (List.range n).flatMap fun j => if i = j then [] else obs2 m i j
def obsA (n m : Nat) : List Ob := (List.range n).flatMap (obs1 n m)
/-- What the search has found: the objective, its worst colour, its price, and whether there is one. -/
structure Bst where
  o : Ob
  n : Int
  p : Int
  is : Bool
  deriving DecidableEq
def bst0 : Bst := ⟨⟨0, 0, 0, 0, 0⟩, 0, 0, false⟩
def priceO (B : List Blank) (o : Ob) : Int := (blankAt B o.f).pr + (blankAt B o.s).pr
def bstStep (B : List Blank) (T : List Span) (w : Want) (x : Bst) (o : Ob) : Bst :=
  if goodB (spansP B T o) w then
    if x.is = false ∨ worstS (spansP B T o).c < x.n ∨ worstS (spansP B T o).c = x.n ∧ priceO B o < x.p then ⟨o, worstS (spansP B T o).c, priceO B o, true⟩ else x
  else x
def bstTo (B : List Blank) (T : List Span) (w : Want) (k : Nat) : Bst := ((obsA B.length T.length).take k).foldl (bstStep B T w) bst0
def bestP (B : List Blank) (T : List Span) (w : Want) : Ob × Int × Int :=
  if stockOk B T = false then (bst0.o, 0, 40) else if wantOk w = false then (bst0.o, 0, 43) else
  let x := (obsA B.length T.length).foldl (bstStep B T w) bst0
  if x.is then (x.o, x.n, 0) else (bst0.o, 0, 4)
end Go.Oc.Gl
namespace Go.Oc.Gl
open Go Go.Pm
/-- What a check has come to. -/
def accB (B : List Blank) (T : List Span) (k : Nat) : Bool := (inB B.length 2 8 && inB T.length 1 6) && (B.take k).all blankOk
def accT (B : List Blank) (T : List Span) (k : Nat) : Bool := accB B T B.length && (T.take k).all toolOk
theorem accB_succ {B : List Blank} (T : List Span) {k : Nat} {x : Blank} (h : B[k]? = some x) : accB B T (k + 1) = (accB B T k && blankOk x) := by
  unfold accB; rw [take_all _ h, ← Bool.and_assoc]
theorem accT_succ (B : List Blank) {T : List Span} {k : Nat} {x : Span} (h : T[k]? = some x) : accT B T (k + 1) = (accT B T k && toolOk x) := by
  unfold accT; rw [take_all _ h, ← Bool.and_assoc]
theorem accB_zero (B : List Blank) (T : List Span) : accB B T 0 = (inB B.length 2 8 && inB T.length 1 6) := by simp [accB]
theorem accT_zero (B : List Blank) (T : List Span) : accT B T 0 = accB B T B.length := by simp [accT]
theorem accT_all (B : List Blank) (T : List Span) : accT B T T.length = stockOk B T := by
  unfold accT accB stockOk
  rw [List.take_length, List.take_length]
theorem accB_false {B : List Blank} {T : List Span} {k : Nat} (h : accB B T k = false) : stockOk B T = false := by
  unfold accB at h
  unfold stockOk
  rw [Bool.and_eq_false_iff] at h
  rcases h with h | h
  · rw [h]; rfl
  · rw [all_of_take h, Bool.and_false, Bool.false_and]
theorem accT_false {B : List Blank} {T : List Span} {k : Nat} (h : accT B T k = false) : stockOk B T = false := by
  unfold accT at h
  rw [Bool.and_eq_false_iff] at h
  rcases h with h | h
  · exact accB_false h
  · unfold stockOk; rw [all_of_take h, Bool.and_false]
theorem stockOk_iff {B : List Blank} {T : List Span} : stockOk B T = true ↔ (2 ≤ B.length ∧ B.length ≤ 8) ∧ (1 ≤ T.length ∧ T.length ≤ 6) ∧
    (∀ b ∈ B, (1 ≤ b.i.lo ∧ b.i.lo ≤ b.i.hi ∧ b.i.hi ≤ 100000) ∧ (1 ≤ b.c.lo ∧ b.c.lo ≤ b.c.hi ∧ b.c.hi ≤ 5000) ∧ 0 ≤ b.pr ∧ b.pr ≤ 1000000) ∧ ∀ t ∈ T, -1000 ≤ t.lo ∧ t.lo ≤ t.hi ∧ t.hi ≤ 1000 := by
  simp only [stockOk, inB, blankOk, toolOk, spannedB, Bool.and_eq_true, decide_eq_true_eq, List.all_eq_true]
  constructor
  · rintro ⟨⟨⟨⟨a, b⟩, c, d⟩, e⟩, f⟩
    refine ⟨by omega, by omega, fun x hx => ?_, fun x hx => ?_⟩
    · have := e x hx; omega
    · have := f x hx; omega
  · rintro ⟨a, b, c, d⟩
    refine ⟨⟨⟨by omega, by omega⟩, fun x hx => ?_⟩, fun x hx => ?_⟩
    · have := c x hx; omega
    · have := d x hx; omega
end Go.Oc.Gl

/- Part Gu. -/
namespace Go.Oc.Gl
end Go.Oc.Gl
namespace Go.Proofs.YtlonlnfenbadbaaDoor.Gl
end Go.Proofs.YtlonlnfenbadbaaDoor.Gl
namespace Go.Proofs.YtlonlnfenbadbaaDoor.Gl
open Go.RowKit Go.Pm Go.Oc Go.Oc.Gl
set_option maxRecDepth 100000
set_option linter.unusedVariables false
set_option maxHeartbeats 4000000

theorem gWithin_c (n lo hi : Int) : PCalls Tryd.prog 117 [.int .i64 n, .int .i64 lo, .int .i64 hi] (.bool (inB n lo hi)) := by
  refine pcalls_by Tryd.mixes noSpec_ok (fn := Tryd.f117) Tryd.func117 rfl (by kernel_rfl) (by show 3 ≤ _; decide) ?_
  simp (decide := true) (maxSteps := 4000000) only [go_sem, Nat.reduceAdd, Nat.reduceSub, Nat.reduceMul, Nat.reduceDiv, Nat.reduceMod, Nat.reduceLT, Nat.reduceLeDiff, Nat.reduceEqDiff, Nat.reduceBEq, Nat.reduceBNe, Nat.reduceGT, Int.reduceAdd, Int.reduceSub, Int.reduceMul, Int.reduceNeg, Int.reduceLT, Int.reduceLE, Int.reduceEq, Int.reduceNe, Int.reduceBEq, Int.reduceBNe, Int.reduceToNat, Int.reduceGT, Int.reduceGE, ↓reduceIte, decide_true, decide_false, eq_self, Nat.mul_one, Nat.zero_mul, Nat.one_mul, Int.le_refl, Nat.le_refl, Int.cast_ofNat_Int, Tryd.f117, inB]
noncomputable def glWithin : List TV → Option TV
  | [.int .i64 n, .int .i64 a, .int .i64 b] => some (.bool (inB n a b))
  | _ => none
theorem glWithin_ok : ∀ xs r, glWithin xs = some r → PCalls Tryd.prog 117 xs r := by
  intro xs r h
  unfold glWithin at h
  split at h
  · cases h; exact gWithin_c _ _ _
  · cases h
attribute [go_sem] glWithin
noncomputable def spU1 : Pm.Spec := noSpec.one 117 glWithin
@[go_sem] theorem spU1_p (f : FuncId) (xs : List TV) : spU1.p f xs = Pm.Spec.p (noSpec.one 117 glWithin) f xs := rfl
@[go_sem] theorem spU1_h (f : FuncId) (ps : List PV) (hl : List PO) : spU1.h f ps hl = Pm.Spec.h (noSpec.one 117 glWithin) f ps hl := rfl
@[go_sem] theorem spU1_y (Y : Pm.YS) (f : FuncId) (ps : List PV) (hl : List PO) : spU1.y Y f ps hl = Pm.Spec.y (noSpec.one 117 glWithin) Y f ps hl := rfl
@[go_sem] theorem spU1_fz (f : FuncId) : spU1.fz f = Pm.Spec.fz (noSpec.one 117 glWithin) f := rfl
@[go_sem] theorem spU1_fr (f : FuncId) : spU1.fr f = Pm.Spec.fr (noSpec.one 117 glWithin) f := rfl
@[go_sem] theorem spU1_yf (f : FuncId) : spU1.yf f = Pm.Spec.yf (noSpec.one 117 glWithin) f := rfl
@[go_sem] theorem spU1_gd : spU1.gd = Pm.Spec.gd (noSpec.one 117 glWithin) := rfl
@[go_sem] theorem spU1_mu (t : TypeId) : spU1.mu t = Pm.Spec.mu (noSpec.one 117 glWithin) t := rfl
@[go_sem] theorem spU1_nf (t : TypeId) : spU1.nf t = Pm.Spec.nf (noSpec.one 117 glWithin) t := rfl
theorem spU1_ok : SpecOk Tryd.prog spU1 := Spec.one_ok glWithin_ok noSpec_ok
theorem gValid_c (s : Span) (lo hi : Int) : PCalls Tryd.prog 151 [s.t, .int .i64 lo, .int .i64 hi] (.bool (spannedB s lo hi)) := by
  refine pcalls_by Tryd.mixes spU1_ok (fn := Tryd.f151) Tryd.func151 rfl (by kernel_rfl) (by show 3 ≤ _; decide) ?_
  simp (decide := true) (maxSteps := 4000000) only [go_sem, Nat.reduceAdd, Nat.reduceSub, Nat.reduceMul, Nat.reduceDiv, Nat.reduceMod, Nat.reduceLT, Nat.reduceLeDiff, Nat.reduceEqDiff, Nat.reduceBEq, Nat.reduceBNe, Nat.reduceGT, Int.reduceAdd, Int.reduceSub, Int.reduceMul, Int.reduceNeg, Int.reduceLT, Int.reduceLE, Int.reduceEq, Int.reduceNe, Int.reduceBEq, Int.reduceBNe, Int.reduceToNat, Int.reduceGT, Int.reduceGE, ↓reduceIte, decide_true, decide_false, eq_self, Nat.mul_one, Nat.zero_mul, Nat.one_mul, Int.le_refl, Nat.le_refl, Int.cast_ofNat_Int, Tryd.f151, Span.t, Span.cs, spannedB]
theorem gHoldsM_c (s : Span) (n : Int) : PCalls Tryd.prog 152 [s.t, .int .i64 n] (.bool (inB n s.lo s.hi)) := by
  refine pcalls_by Tryd.mixes spU1_ok (fn := Tryd.f152) Tryd.func152 rfl (by kernel_rfl) (by show 2 ≤ _; decide) ?_
  simp (decide := true) (maxSteps := 4000000) only [go_sem, Nat.reduceAdd, Nat.reduceSub, Nat.reduceMul, Nat.reduceDiv, Nat.reduceMod, Nat.reduceLT, Nat.reduceLeDiff, Nat.reduceEqDiff, Nat.reduceBEq, Nat.reduceBNe, Nat.reduceGT, Int.reduceAdd, Int.reduceSub, Int.reduceMul, Int.reduceNeg, Int.reduceLT, Int.reduceLE, Int.reduceEq, Int.reduceNe, Int.reduceBEq, Int.reduceBNe, Int.reduceToNat, Int.reduceGT, Int.reduceGE, ↓reduceIte, decide_true, decide_false, eq_self, Nat.mul_one, Nat.zero_mul, Nat.one_mul, Int.le_refl, Nat.le_refl, Int.cast_ofNat_Int, Tryd.f152, Span.t, Span.cs]
noncomputable def glValid : List TV → Option TV
  | [.agg [.int .i64 x, .int .i64 y], .int .i64 a, .int .i64 b] => some (.bool (spannedB ⟨x, y⟩ a b))
  | _ => none
theorem glValid_ok : ∀ xs r, glValid xs = some r → PCalls Tryd.prog 151 xs r := by
  intro xs r h
  unfold glValid at h
  split at h
  · cases h; exact gValid_c ⟨_, _⟩ _ _
  · cases h
attribute [go_sem] glValid
noncomputable def glHolds : List TV → Option TV
  | [.agg [.int .i64 x, .int .i64 y], .int .i64 n] => some (.bool (inB n x y))
  | _ => none
theorem glHolds_ok : ∀ xs r, glHolds xs = some r → PCalls Tryd.prog 152 xs r := by
  intro xs r h
  unfold glHolds at h
  split at h
  · cases h; exact gHoldsM_c ⟨_, _⟩ _
  · cases h
attribute [go_sem] glHolds
end Go.Proofs.YtlonlnfenbadbaaDoor.Gl

/- Part Gc. -/
namespace Go.Oc.Gl
end Go.Oc.Gl
namespace Go.Proofs.YtlonlnfenbadbaaDoor.Gl
end Go.Proofs.YtlonlnfenbadbaaDoor.Gl
namespace Go.Proofs.YtlonlnfenbadbaaDoor.Gl
open Go.RowKit Go.Pm Go.Oc Go.Oc.Gl
set_option maxRecDepth 100000
set_option linter.unusedVariables false
set_option maxHeartbeats 4000000

noncomputable def glCheck : List TV → Option TV
  | [.agg [sB, sT]] => match rowL unBlanks sB, rowL unSpans sT with
    | some B, some T => if B.length ≤ 5864062014806 ∧ T.length ≤ 9000000000000 then some (.int .i64 (if stockOk B T then 0 else 40)) else none
    | _, _ => none
  | _ => none
attribute [go_sem] glCheck
end Go.Proofs.YtlonlnfenbadbaaDoor.Gl

/- Part Gv. -/
namespace Go.Oc.Gl
end Go.Oc.Gl
namespace Go.Proofs.YtlonlnfenbadbaaDoor.Gl
end Go.Proofs.YtlonlnfenbadbaaDoor.Gl
namespace Go.Oc.Gl
open Go Go.Pm
theorem obOk_iff {n m : Int} {o : Ob} : obOk n m o = true ↔ (0 ≤ o.f ∧ o.f ≤ n - 1) ∧ (0 ≤ o.s ∧ o.s ≤ n - 1) ∧ o.f ≠ o.s ∧ (0 ≤ o.a ∧ o.a ≤ m - 1) ∧ (0 ≤ o.b ∧ o.b ≤ m - 1) ∧ 0 ≤ o.c ∧ o.c ≤ m - 1 := by
  simp only [obOk, inB, Bool.and_eq_true, decide_eq_true_eq, bne_iff_ne, ne_eq]
  constructor
  · rintro ⟨⟨⟨⟨⟨a, b⟩, c⟩, d⟩, e⟩, f⟩; exact ⟨a, b, c, d, e, f⟩
  · rintro ⟨a, b, c, d, e, f⟩; exact ⟨⟨⟨⟨⟨a, b⟩, c⟩, d⟩, e⟩, f⟩
end Go.Oc.Gl
namespace Go.Proofs.YtlonlnfenbadbaaDoor.Gl
open Go.RowKit Go.Pm Go.Oc Go.Oc.Gl
set_option maxRecDepth 100000
set_option linter.unusedVariables false
set_option maxHeartbeats 4000000

noncomputable def glIsOb : List TV → Option TV
  | [.agg [sB, sT], .agg [.int .i64 f, .int .i64 s, .int .i64 a, .int .i64 b, .int .i64 c]] => match rowL unBlanks sB, rowL unSpans sT with
    | some B, some T => if B.length ≤ 5864062014806 ∧ T.length ≤ 9000000000000 then some (.bool (obOk B.length T.length ⟨f, s, a, b, c⟩)) else none
    | _, _ => none
  | _ => none
attribute [go_sem] glIsOb
theorem at_bit : ∀ k : Nat, k < 32 → ∀ b : Nat, b < 5 → (IntKind.i64.wrap ((BitVec.ofInt 64 (Int.fdiv (k : Int) (2 ^ (min b 64))) &&& BitVec.ofInt 64 1).toNat) == 1) = k.testBit b := by decide +kernel
def glAt : List TV → Option TV
  | [.int .i64 b, .cptr [.int .i64 k]] => if (0 ≤ k ∧ k < 32) ∧ 0 ≤ b ∧ b < 5 then some (.bool (k.toNat.testBit b.toNat)) else none
  | _ => none
attribute [go_sem] glAt
noncomputable def glEnds : List TV → Option TV
  | [.int .i64 a, .sl cs n full] => match unI cs with
    | some l => if n = l.length ∧ l.length ≤ 1000000 then some (.tup [.int .i64 (l.foldl min a), .int .i64 (l.foldl max a)]) else none
    | none => none
  | _ => none
attribute [go_sem] glEnds
end Go.Proofs.YtlonlnfenbadbaaDoor.Gl

/- Part Gw. -/
namespace Go.Oc.Gl
end Go.Oc.Gl
namespace Go.Proofs.YtlonlnfenbadbaaDoor.Gl
end Go.Proofs.YtlonlnfenbadbaaDoor.Gl
namespace Go.Oc.Gl
open Go Go.Pm
theorem blankAt_eq {B : List Blank} {i : Nat} {x : Blank} (h : B[i]? = some x) : blankAt B (i : Int) = x := by
  unfold blankAt
  rw [Int.toNat_natCast, List.getD_eq_getElem?_getD, h]; rfl
theorem toolAt_eq {T : List Span} {i : Nat} {x : Span} (h : T[i]? = some x) : toolAt T (i : Int) = x := by
  unfold toolAt
  rw [Int.toNat_natCast, List.getD_eq_getElem?_getD, h]; rfl
theorem mulB2 {a b A B : Int} (ha : -A ≤ a ∧ a ≤ A) (hb : -B ≤ b ∧ b ≤ B) : -(A * B) ≤ a * b ∧ a * b ≤ A * B := by
  have hA : 0 ≤ A := by omega
  have hB : 0 ≤ B := by omega
  have h1 : 0 ≤ (A - a) * (B + b) := Int.mul_nonneg (by omega) (by omega)
  have h2 : 0 ≤ (A + a) * (B - b) := Int.mul_nonneg (by omega) (by omega)
  have h3 : 0 ≤ (A - a) * (B - b) := Int.mul_nonneg (by omega) (by omega)
  have h4 : 0 ≤ (A + a) * (B + b) := Int.mul_nonneg (by omega) (by omega)
  rw [Int.sub_mul, Int.mul_add, Int.mul_add] at h1
  rw [Int.add_mul, Int.mul_sub, Int.mul_sub] at h2
  rw [Int.sub_mul, Int.mul_sub, Int.mul_sub] at h3
  rw [Int.add_mul, Int.mul_add, Int.mul_add] at h4
  omega
/-- How what both lenses do is reckoned. -/
theorem pw_wrap {n1 n2 f m b : Int} (h1 : 0 ≤ n1 ∧ n1 ≤ 100000) (h2 : 0 ≤ n2 ∧ n2 ≤ 100000) (hf : -1000 ≤ f ∧ f ≤ 1000) (hm : -1000 ≤ m ∧ m ≤ 1000) (hb : -1000 ≤ b ∧ b ≤ 1000) :
    IntKind.i64.wrap (IntKind.i64.wrap (n1 * IntKind.i64.wrap (f - m)) + IntKind.i64.wrap (n2 * IntKind.i64.wrap (m - b))) = pw n1 n2 f m b ∧ -400000000 ≤ pw n1 n2 f m b ∧ pw n1 n2 f m b ≤ 400000000 := by
  have a := mulB2 (a := n1) (b := f - m) (A := 100000) (B := 2000) (by omega) (by omega)
  have c := mulB2 (a := n2) (b := m - b) (A := 100000) (B := 2000) (by omega) (by omega)
  rw [wrap_in (n := f - m) (by omega) (by omega), wrap_in (n := m - b) (by omega) (by omega), wrap_in (n := n1 * (f - m)) (by omega) (by omega), wrap_in (n := n2 * (m - b)) (by omega) (by omega), wrap_in (n := n1 * (f - m) + n2 * (m - b)) (by omega) (by omega)]
  unfold pw
  refine ⟨rfl, by omega, by omega⟩
theorem corners_succ (s1 s2 t1 t2 t3 : Span) (o : Ob) (k : Nat) : corners s1 s2 t1 t2 t3 o (k + 1) = corners s1 s2 t1 t2 t3 o k ++ [cornV s1 s2 t1 t2 t3 o k] := by
  unfold corners; rw [List.range_succ, List.map_append]; rfl
theorem corners_len (s1 s2 t1 t2 t3 : Span) (o : Ob) (k : Nat) : (corners s1 s2 t1 t2 t3 o k).length = k := by simp [corners]
theorem ints_snoc' (l : List Int) (x : Int) : ints (l ++ [x]) = ints l ++ [.int .i64 x] := by simp [ints]
end Go.Oc.Gl
namespace Go.Proofs.YtlonlnfenbadbaaDoor.Gl
open Go.RowKit Go.Pm Go.Oc Go.Oc.Gl
set_option maxRecDepth 100000
set_option linter.unusedVariables false
set_option maxHeartbeats 4000000

noncomputable def glSpans : List TV → Option TV
  | [.agg [.sl cB n fB, .sl cT m fT], .agg [.int .i64 f, .int .i64 s, .int .i64 a, .int .i64 b, .int .i64 c]] => match unBlanks cB, unSpans cT with
    | some B, some T => if n = B.length ∧ m = T.length ∧ stockOk B T = true ∧ obOk B.length T.length ⟨f, s, a, b, c⟩ = true then some (spansP B T ⟨f, s, a, b, c⟩).t else none
    | _, _ => none
  | _ => none
attribute [go_sem] glSpans
end Go.Proofs.YtlonlnfenbadbaaDoor.Gl

/- Part Gq. -/
namespace Go.Oc.Gl
end Go.Oc.Gl
namespace Go.Proofs.YtlonlnfenbadbaaDoor.Gl
end Go.Proofs.YtlonlnfenbadbaaDoor.Gl
namespace Go.Oc.Gl
open Go Go.Pm
theorem foldl_min_le : ∀ (l : List Int) (a : Int), l.foldl min a ≤ a ∧ ∀ x ∈ l, l.foldl min a ≤ x
  | [], a => ⟨Int.le_refl _, fun x h => by cases h⟩
  | y :: l, a => by
    obtain ⟨h1, h2⟩ := foldl_min_le l (min a y)
    simp only [List.foldl_cons]
    refine ⟨by omega, fun x hx => ?_⟩
    rcases List.mem_cons.1 hx with rfl | hx
    · omega
    · exact h2 x hx
theorem foldl_min_mem : ∀ (l : List Int) (a : Int), l.foldl min a ∈ a :: l
  | [], a => by simp
  | y :: l, a => by
    have := foldl_min_mem l (min a y)
    simp only [List.foldl_cons]
    rcases List.mem_cons.1 this with h | h
    · rw [h]
      rcases (show min a y = a ∨ min a y = y by omega) with e | e <;> rw [e] <;> simp
    · simp [h]
theorem foldl_max_le : ∀ (l : List Int) (a : Int), a ≤ l.foldl max a ∧ ∀ x ∈ l, x ≤ l.foldl max a
  | [], a => ⟨Int.le_refl _, fun x h => by cases h⟩
  | y :: l, a => by
    obtain ⟨h1, h2⟩ := foldl_max_le l (max a y)
    simp only [List.foldl_cons]
    refine ⟨by omega, fun x hx => ?_⟩
    rcases List.mem_cons.1 hx with rfl | hx
    · omega
    · exact h2 x hx
theorem foldl_max_mem : ∀ (l : List Int) (a : Int), l.foldl max a ∈ a :: l
  | [], a => by simp
  | y :: l, a => by
    have := foldl_max_mem l (max a y)
    simp only [List.foldl_cons]
    rcases List.mem_cons.1 this with h | h
    · rw [h]
      rcases (show max a y = a ∨ max a y = y by omega) with e | e <;> rw [e] <;> simp
    · simp [h]
theorem minmax_le {l : List Int} {x : Int} (h : x ∈ l) : (minmax l).lo ≤ x ∧ x ≤ (minmax l).hi := by
  cases l with
  | nil => cases h
  | cons y l =>
    simp only [minmax]
    have a := foldl_min_le l y
    have b := foldl_max_le l y
    rcases List.mem_cons.1 h with rfl | h
    · exact ⟨a.1, b.1⟩
    · exact ⟨a.2 x h, b.2 x h⟩
theorem minmax_mem {l : List Int} (h : l ≠ []) : (minmax l).lo ∈ l ∧ (minmax l).hi ∈ l := by
  cases l with
  | nil => exact absurd rfl h
  | cons y l => exact ⟨foldl_min_mem l y, foldl_max_mem l y⟩
theorem minmax_ext {l l' : List Int} (h : l ≠ []) (h' : l' ≠ []) (he : ∀ x, x ∈ l ↔ x ∈ l') : minmax l = minmax l' := by
  obtain ⟨a, b⟩ := minmax_mem h
  obtain ⟨c, d⟩ := minmax_mem h'
  have a' := minmax_le ((he _).1 a)
  have b' := minmax_le ((he _).1 b)
  have c' := minmax_le ((he _).2 c)
  have d' := minmax_le ((he _).2 d)
  have e1 : (minmax l).lo = (minmax l').lo := by omega
  have e2 : (minmax l).hi = (minmax l').hi := by omega
  cases hl : minmax l; cases hl' : minmax l'
  rw [hl, hl'] at e1 e2
  simp only at e1 e2
  rw [e1, e2]
theorem minmax_snoc (l : List Int) (x : Int) (h : l ≠ []) : minmax (l ++ [x]) = ⟨min (minmax l).lo x, max (minmax l).hi x⟩ := by
  cases l with
  | nil => exact absurd rfl h
  | cons y l => simp only [minmax, List.cons_append, List.foldl_append, List.foldl_cons, List.foldl_nil]

/-- In ends: what both lenses do. -/
def endV (s1 s2 : Span) (T : List Span) (o : Ob) (hi hj : Bool) (g : Int → Bool) : Int :=
  pw (endS s1 hi) (endS s2 hj) (endS (toolAt T o.a) (g o.a)) (endS (toolAt T o.b) (g o.b)) (endS (toolAt T o.c) (g o.c))
theorem bits5 (b0 b1 b2 b3 b4 : Bool) : ∃ k : Nat, k < 32 ∧ k.testBit 0 = b0 ∧ k.testBit 1 = b1 ∧ k.testBit 2 = b2 ∧ k.testBit 3 = b3 ∧ k.testBit 4 = b4 :=
  ⟨b0.toNat + 2 * b1.toNat + 4 * b2.toNat + 8 * b3.toNat + 16 * b4.toNat, by cases b0 <;> cases b1 <;> cases b2 <;> cases b3 <;> cases b4 <;> decide⟩
theorem corner_iff (s1 s2 : Span) (T : List Span) (o : Ob) (v : Int) : v ∈ corners s1 s2 (toolAt T o.a) (toolAt T o.b) (toolAt T o.c) o 32 ↔ ∃ hi hj g, v = endV s1 s2 T o hi hj g := by
  unfold corners
  rw [List.mem_map]
  constructor
  · rintro ⟨k, _, rfl⟩
    refine ⟨k.testBit 3, k.testBit 4, fun t => if t = o.a then k.testBit 0 else if t = o.b then k.testBit 1 else k.testBit 2, ?_⟩
    unfold cornV endV
    have e1 : k.testBit (bit1 o) = if o.b = o.a then k.testBit 0 else k.testBit 1 := by
      unfold bit1
      by_cases h : o.a = o.b
      · rw [if_pos h, if_pos h.symm]
      · rw [if_neg h, if_neg (fun e => h e.symm)]
    have e2 : k.testBit (bit2 o) = if o.c = o.a then k.testBit 0 else if o.c = o.b then k.testBit 1 else k.testBit 2 := by
      unfold bit2
      by_cases h : o.a = o.c
      · rw [if_pos h, if_pos h.symm]
      · rw [if_neg h, if_neg (show ¬ o.c = o.a from fun e => h e.symm)]
        by_cases h2 : o.b = o.c
        · rw [if_pos h2, if_pos h2.symm]
        · rw [if_neg h2, if_neg (show ¬ o.c = o.b from fun e => h2 e.symm)]
    rw [e1, e2]
    simp only [if_true]
  · rintro ⟨hi, hj, g, rfl⟩
    obtain ⟨k, hk, k0, k1, k2, k3, k4⟩ := bits5 (g o.a) (g o.b) (g o.c) hi hj
    refine ⟨k, List.mem_range.2 hk, ?_⟩
    unfold cornV endV
    have e1 : k.testBit (bit1 o) = g o.b := by
      unfold bit1
      split
      · rename_i h; rw [k0, h]
      · exact k1
    have e2 : k.testBit (bit2 o) = g o.c := by
      unfold bit2
      split
      · rename_i h; rw [k0, h]
      · split
        · rename_i h; rw [k1, h]
        · exact k2
    rw [k0, e1, e2, k3, k4]
theorem corners_ne (s1 s2 t1 t2 t3 : Span) (o : Ob) : corners s1 s2 t1 t2 t3 o 32 ≠ [] := by
  intro h
  have := corners_len s1 s2 t1 t2 t3 o 32
  rw [h] at this; simp at this
/-- A number that is affine in another one is at least what it is at one of its ends, and at most what it is at one of them. -/
theorem affine_ends {s : Span} {x A : Int} (h : s.lo ≤ x ∧ x ≤ s.hi) : (∃ b, A * endS s b ≤ A * x) ∧ ∃ b, A * x ≤ A * endS s b := by
  unfold endS
  rcases Int.le_total 0 A with h0 | h0
  · have a := Int.mul_le_mul_of_nonneg_left h.1 h0
    have b := Int.mul_le_mul_of_nonneg_left h.2 h0
    exact ⟨⟨false, by simpa using a⟩, ⟨true, by simpa using b⟩⟩
  · have a := Int.mul_le_mul_of_nonpos_left h0 h.1
    have b := Int.mul_le_mul_of_nonpos_left h0 h.2
    exact ⟨⟨true, by simpa using b⟩, ⟨false, by simpa using a⟩⟩
theorem blank_ok {B : List Blank} {T : List Span} (hs : stockOk B T = true) {i : Int} (h0 : 0 ≤ i) (h1 : i < B.length) : (1 ≤ (blankAt B i).i.lo ∧ (blankAt B i).i.lo ≤ (blankAt B i).i.hi ∧ (blankAt B i).i.hi ≤ 100000) ∧ (1 ≤ (blankAt B i).c.lo ∧ (blankAt B i).c.lo ≤ (blankAt B i).c.hi ∧ (blankAt B i).c.hi ≤ 5000) ∧ 0 ≤ (blankAt B i).pr ∧ (blankAt B i).pr ≤ 1000000 := by
  obtain ⟨k, rfl⟩ := Int.eq_ofNat_of_zero_le h0
  obtain ⟨x, hx⟩ := get_lt h1
  rw [blankAt_eq hx]
  exact (stockOk_iff.1 hs).2.2.1 x (List.mem_of_getElem? hx)
theorem tool_ok {B : List Blank} {T : List Span} (hs : stockOk B T = true) {i : Int} (h0 : 0 ≤ i) (h1 : i < T.length) : -1000 ≤ (toolAt T i).lo ∧ (toolAt T i).lo ≤ (toolAt T i).hi ∧ (toolAt T i).hi ≤ 1000 := by
  obtain ⟨k, rfl⟩ := Int.eq_ofNat_of_zero_le h0
  obtain ⟨x, hx⟩ := get_lt h1
  rw [toolAt_eq hx]
  exact (stockOk_iff.1 hs).2.2.2 x (List.mem_of_getElem? hx)
/-- What both lenses do in ends is bounded. -/
theorem endV_bound {B : List Blank} {T : List Span} (hs : stockOk B T = true) {o : Ob} (ho : obOk B.length T.length o = true) {s1 s2 : Span} (h1 : 0 ≤ s1.lo ∧ s1.lo ≤ s1.hi ∧ s1.hi ≤ 100000) (h2 : 0 ≤ s2.lo ∧ s2.lo ≤ s2.hi ∧ s2.hi ≤ 100000) (hi hj : Bool) (g : Int → Bool) :
    -400000000 ≤ endV s1 s2 T o hi hj g ∧ endV s1 s2 T o hi hj g ≤ 400000000 := by
  obtain ⟨a, b, c, d, e, f⟩ := obOk_iff.1 ho
  have m1 := endS_mem h1.2.1 hi
  have m2 := endS_mem h2.2.1 hj
  have t1 := tool_ok hs d.1 (by omega)
  have t2 := tool_ok hs e.1 (by omega)
  have t3 := tool_ok hs f.1 (by omega)
  have m3 := endS_mem t1.2.1 (g o.a)
  have m4 := endS_mem t2.2.1 (g o.b)
  have m5 := endS_mem t3.2.1 (g o.c)
  exact (pw_wrap (n1 := endS s1 hi) (n2 := endS s2 hj) (f := endS (toolAt T o.a) (g o.a)) (m := endS (toolAt T o.b) (g o.b)) (b := endS (toolAt T o.c) (g o.c)) (by omega) (by omega) (by omega) (by omega) (by omega)).2
theorem spansP_bound {B : List Blank} {T : List Span} (hs : stockOk B T = true) {o : Ob} (ho : obOk B.length T.length o = true) : ((-400000000 ≤ (spansP B T o).p.lo ∧ (spansP B T o).p.lo ≤ (spansP B T o).p.hi ∧ (spansP B T o).p.hi ≤ 400000000)) ∧ -400000000 ≤ (spansP B T o).c.lo ∧ (spansP B T o).c.lo ≤ (spansP B T o).c.hi ∧ (spansP B T o).c.hi ≤ 400000000 := by
  obtain ⟨a, b, c, d, e, f⟩ := obOk_iff.1 ho
  have b1 := blank_ok hs a.1 (by omega)
  have b2 := blank_ok hs b.1 (by omega)
  unfold spansP
  simp only
  have key : ∀ s1 s2 : Span, (0 ≤ s1.lo ∧ s1.lo ≤ s1.hi ∧ s1.hi ≤ 100000) → (0 ≤ s2.lo ∧ s2.lo ≤ s2.hi ∧ s2.hi ≤ 100000) → -400000000 ≤ (minmax (corners s1 s2 (toolAt T o.a) (toolAt T o.b) (toolAt T o.c) o 32)).lo ∧ (minmax (corners s1 s2 (toolAt T o.a) (toolAt T o.b) (toolAt T o.c) o 32)).lo ≤ (minmax (corners s1 s2 (toolAt T o.a) (toolAt T o.b) (toolAt T o.c) o 32)).hi ∧ (minmax (corners s1 s2 (toolAt T o.a) (toolAt T o.b) (toolAt T o.c) o 32)).hi ≤ 400000000 := by
    intro s1 s2 h1 h2
    obtain ⟨m1, m2⟩ := minmax_mem (corners_ne s1 s2 (toolAt T o.a) (toolAt T o.b) (toolAt T o.c) o)
    have m3 := minmax_le m1
    obtain ⟨hi, hj, g, e1⟩ := (corner_iff ..).1 m1
    obtain ⟨hi', hj', g', e2⟩ := (corner_iff ..).1 m2
    have q1 := endV_bound hs ho h1 h2 hi hj g
    have q2 := endV_bound hs ho h1 h2 hi' hj' g'
    rw [← e1] at q1
    rw [← e2] at q2
    omega
  exact ⟨key _ _ (by omega) (by omega), key _ _ (by omega) (by omega)⟩
end Go.Oc.Gl

/- Part Gx. -/
namespace Go.Oc.Gl
end Go.Oc.Gl
namespace Go.Proofs.YtlonlnfenbadbaaDoor.Gl
end Go.Proofs.YtlonlnfenbadbaaDoor.Gl
namespace Go.Proofs.YtlonlnfenbadbaaDoor.Gl
open Go.RowKit Go.Pm Go.Oc Go.Oc.Gl
set_option maxRecDepth 100000
set_option linter.unusedVariables false
set_option maxHeartbeats 4000000

end Go.Proofs.YtlonlnfenbadbaaDoor.Gl

/- Part Gz. -/
namespace Go.Oc.Gl
end Go.Oc.Gl
namespace Go.Proofs.YtlonlnfenbadbaaDoor.Gl
end Go.Proofs.YtlonlnfenbadbaaDoor.Gl
namespace Go.Oc.Gl
open Go Go.Pm
theorem flatR_len {α : Type} (f : Nat → List α) {k n : Nat} (h : k < n) : ((List.range k).flatMap f).length + (f k).length ≤ ((List.range n).flatMap f).length := by
  induction n with
  | zero => omega
  | succ n ih =>
    rw [List.range_succ, List.flatMap_append, List.length_append]
    by_cases hk : k = n
    · subst hk; simp
    · have := ih (by omega); omega
theorem flatR_get {α : Type} (f : Nat → List α) {k t : Nat} : ∀ {n : Nat}, k < n → t < (f k).length → ((List.range n).flatMap f)[((List.range k).flatMap f).length + t]? = (f k)[t]?
  | n + 1, hk, ht => by
    rw [List.range_succ, List.flatMap_append]
    by_cases hkn : k = n
    · subst hkn
      rw [List.getElem?_append_right (by omega)]
      simp
    · have h1 := flatR_len f (show k < n by omega)
      rw [List.getElem?_append_left (by omega)]
      exact flatR_get f (by omega) ht
/-- How many objectives come before. -/
def ob1 (n m i : Nat) : Nat := ((List.range i).flatMap (obs1 n m)).length
def ob2 (m i j : Nat) : Nat := ((List.range j).flatMap fun j => if i = j then [] else obs2 m i j).length
theorem ob1_zero (n m : Nat) : ob1 n m 0 = 0 := rfl
theorem ob2_zero (m i : Nat) : ob2 m i 0 = 0 := rfl
theorem ob1_succ (n m i : Nat) : ob1 n m (i + 1) = ob1 n m i + ob2 m i n := by
  unfold ob1 ob2 obs1; rw [List.range_succ, List.flatMap_append, List.length_append]; simp
theorem ob2_same (m i : Nat) : ob2 m i (i + 1) = ob2 m i i := by
  unfold ob2; rw [List.range_succ, List.flatMap_append]; simp
theorem obs2_len (m i j : Nat) : (obs2 m i j).length = m * m * m := by simp [obs2]
theorem ob2_succ {m i j : Nat} (h : i ≠ j) : ob2 m i (j + 1) = ob2 m i j + m * m * m := by
  unfold ob2; rw [List.range_succ, List.flatMap_append]; simp [h, obs2_len]
theorem obsA_len (n m : Nat) : (obsA n m).length = ob1 n m n := rfl
theorem obsA_at {n m i j t : Nat} (hi : i < n) (hj : j < n) (hne : i ≠ j) (ht : t < m * m * m) : (obsA n m)[ob1 n m i + (ob2 m i j + t)]? = some ⟨i, j, ((t / m / m : Nat) : Int), ((t / m % m : Nat) : Int), ((t % m : Nat) : Int)⟩ := by
  have h2 : t < (if i = j then [] else obs2 m i j).length := by rw [if_neg hne, obs2_len]; exact ht
  have h1 := flatR_len (fun j => if i = j then [] else obs2 m i j) hj
  have h3 : (if i = j then [] else obs2 m i j).length = m * m * m := by rw [if_neg hne, obs2_len]
  unfold obsA ob1
  rw [flatR_get (obs1 n m) hi]
  · unfold obs1 ob2
    rw [flatR_get (fun j => if i = j then [] else obs2 m i j) hj h2, if_neg hne]
    unfold obs2
    rw [List.getElem?_map, List.getElem?_range ht]; rfl
  · unfold ob2 obs1
    rw [h3] at h1
    omega
theorem ob2_le {n m i j : Nat} (hj : j ≤ n) : ob2 m i j ≤ ob2 m i n := by
  by_cases h : j = n
  · subst h; exact Nat.le_refl _
  · have := flatR_len (fun j => if i = j then [] else obs2 m i j) (show j < n by omega)
    unfold ob2; omega
theorem obsA_bound {n m i j t : Nat} (hi : i < n) (hj : j < n) (hne : i ≠ j) (ht : t < m * m * m) : ob1 n m i + (ob2 m i j + t) < (obsA n m).length := by
  have := obsA_at hi hj hne ht
  exact (List.getElem?_eq_some_iff.1 this).1
theorem obs_mem {n m : Nat} {o : Ob} (hm : 0 < m) (h : o ∈ obsA n m) : obOk n m o = true := by
  unfold obsA obs1 at h
  obtain ⟨i, hi, h⟩ := List.mem_flatMap.1 h
  obtain ⟨j, hj, h⟩ := List.mem_flatMap.1 h
  have hi := List.mem_range.1 hi
  have hj := List.mem_range.1 hj
  by_cases hij : i = j
  · rw [if_pos hij] at h; cases h
  · rw [if_neg hij] at h
    unfold obs2 at h
    obtain ⟨t, ht, rfl⟩ := List.mem_map.1 h
    have ht := List.mem_range.1 ht
    have e1 : t / m / m < m := by rw [Nat.div_div_eq_div_mul]; exact Nat.div_lt_of_lt_mul ht
    have e2 := Nat.mod_lt (t / m) hm
    have e3 := Nat.mod_lt t hm
    rw [obOk_iff]
    simp only
    generalize t / m / m = p at e1 ⊢
    generalize t / m % m = q at e2 ⊢
    generalize t % m = r at e3 ⊢
    omega
theorem wrapNat (n : Nat) (h : n ≤ 1000000) : IntKind.i64.wrap (n : Int) = n := wrap_in (by omega) (by omega)
end Go.Oc.Gl
namespace Go.Proofs.YtlonlnfenbadbaaDoor.Gl
open Go.RowKit Go.Pm Go.Oc Go.Oc.Gl
set_option maxRecDepth 100000
set_option linter.unusedVariables false
set_option maxHeartbeats 4000000

def obV (n m : Nat) : List (List TV) := (obsA n m).map fun o => [o.t]
end Go.Proofs.YtlonlnfenbadbaaDoor.Gl

/- Part Ga. -/
namespace Go.Oc.Gl
end Go.Oc.Gl
namespace Go.Proofs.YtlonlnfenbadbaaDoor.Gl
end Go.Proofs.YtlonlnfenbadbaaDoor.Gl
namespace Go.Oc.Gl
open Go Go.Pm
/-- What is known of the objectives so far. -/
noncomputable def knStep (B : List Blank) (T : List Span) (w : Want) (f : TV → Option TV) (o : Ob) : TV → Option TV := if goodB (spansP B T o) w then updT f o.t (spansP B T o).t else f
noncomputable def knTo (B : List Blank) (T : List Span) (w : Want) (k : Nat) : TV → Option TV := ((obsA B.length T.length).take k).foldl (knStep B T w) fun _ => none
theorem knTo_succ {B : List Blank} {T : List Span} (w : Want) {k : Nat} {o : Ob} (h : (obsA B.length T.length)[k]? = some o) : knTo B T w (k + 1) = knStep B T w (knTo B T w k) o := by
  unfold knTo; rw [take_snoc h, List.foldl_append]; rfl
theorem bstTo_succ {B : List Blank} {T : List Span} (w : Want) {k : Nat} {o : Ob} (h : (obsA B.length T.length)[k]? = some o) : bstTo B T w (k + 1) = bstStep B T w (bstTo B T w k) o := by
  unfold bstTo; rw [take_snoc h, List.foldl_append]; rfl
theorem updT_same (f : TV → Option TV) (k x : TV) : updT f k x k = some x := by unfold updT; rw [if_pos rfl]
end Go.Oc.Gl
namespace Go.Proofs.YtlonlnfenbadbaaDoor.Gl
open Go.RowKit Go.Pm Go.Oc Go.Oc.Gl
set_option maxRecDepth 100000
set_option linter.unusedVariables false
set_option maxHeartbeats 4000000

end Go.Proofs.YtlonlnfenbadbaaDoor.Gl

/- Part Gk. -/
namespace Go.Oc.Gl
end Go.Oc.Gl
namespace Go.Proofs.YtlonlnfenbadbaaDoor.Gl
end Go.Proofs.YtlonlnfenbadbaaDoor.Gl
namespace Go.Oc.Gl
open Go Go.Pm

/-- Which blanks are used. -/
structure Tk where
  b0 : Bool
  b1 : Bool
  b2 : Bool
  b3 : Bool
  b4 : Bool
  b5 : Bool
  b6 : Bool
  b7 : Bool
  deriving DecidableEq
def Tk.none : Tk := ⟨false, false, false, false, false, false, false, false⟩
def Tk.at (T : Tk) : Nat → Bool
  | 0 => T.b0 | 1 => T.b1 | 2 => T.b2 | 3 => T.b3 | 4 => T.b4 | 5 => T.b5 | 6 => T.b6 | 7 => T.b7 | _ => false
def Tk.set (T : Tk) (i : Nat) : Tk := ⟨T.b0 || i == 0, T.b1 || i == 1, T.b2 || i == 2, T.b3 || i == 3, T.b4 || i == 4, T.b5 || i == 5, T.b6 || i == 6, T.b7 || i == 7⟩
theorem lt8 {i : Nat} (h : i < 8) : i = 0 ∨ i = 1 ∨ i = 2 ∨ i = 3 ∨ i = 4 ∨ i = 5 ∨ i = 6 ∨ i = 7 := by omega
theorem Tk.at_set (T : Tk) {i : Nat} (hi : i < 8) (j : Nat) : (T.set i).at j = (T.at j || i == j) := by
  by_cases hj : j < 8
  · rcases lt8 hj with rfl | rfl | rfl | rfl | rfl | rfl | rfl | rfl <;> rfl
  · have : (i == j) = false := by simp; omega
    rw [this]
    unfold Tk.at
    split <;> first | omega | rfl
def Tk.cs (T : Tk) : List TV := [.bool T.b0, .bool T.b1, .bool T.b2, .bool T.b3, .bool T.b4, .bool T.b5, .bool T.b6, .bool T.b7]
theorem tk_get (T : Tk) {i : Nat} (h : i < 8) : ([.t (.bool T.b0), .t (.bool T.b1), .t (.bool T.b2), .t (.bool T.b3), .t (.bool T.b4), .t (.bool T.b5), .t (.bool T.b6), .t (.bool T.b7)] : List PV)[i]? = some (.t (.bool (T.at i))) := by
  rcases lt8 h with rfl | rfl | rfl | rfl | rfl | rfl | rfl | rfl <;> rfl
theorem tk_set (T : Tk) {i : Nat} (h : i < 8) : List.take i ([.t (.bool T.b0), .t (.bool T.b1), .t (.bool T.b2), .t (.bool T.b3), .t (.bool T.b4), .t (.bool T.b5), .t (.bool T.b6), .t (.bool T.b7)] : List PV) ++ [.t (.bool true)] ++ List.drop i ([.t (.bool T.b1), .t (.bool T.b2), .t (.bool T.b3), .t (.bool T.b4), .t (.bool T.b5), .t (.bool T.b6), .t (.bool T.b7)] : List PV) = [.t (.bool (T.set i).b0), .t (.bool (T.set i).b1), .t (.bool (T.set i).b2), .t (.bool (T.set i).b3), .t (.bool (T.set i).b4), .t (.bool (T.set i).b5), .t (.bool (T.set i).b6), .t (.bool (T.set i).b7)] := by
  rcases lt8 h with rfl | rfl | rfl | rfl | rfl | rfl | rfl | rfl <;> simp [Tk.set]

/-- The two blanks of an objective, the first one with the lesser number. -/
def keyO (o : Ob) : TV := .agg [.int .i64 (min o.f o.s), .int .i64 (max o.f o.s)]
noncomputable def ofStep (B : List Blank) (T : List Span) (w : Want) (f : TV → Option TV) (o : Ob) : TV → Option TV := if (f (keyO o)).isSome then f else if goodB (spansP B T o) w then updT f (keyO o) o.t else f
noncomputable def ofTo (B : List Blank) (T : List Span) (w : Want) (k : Nat) : TV → Option TV := ((obsA B.length T.length).take k).foldl (ofStep B T w) fun _ => none
noncomputable def ofA (B : List Blank) (T : List Span) (w : Want) : TV → Option TV := (obsA B.length T.length).foldl (ofStep B T w) fun _ => none
theorem ofTo_succ {B : List Blank} {T : List Span} (w : Want) {k : Nat} {o : Ob} (h : (obsA B.length T.length)[k]? = some o) : ofTo B T w (k + 1) = ofStep B T w (ofTo B T w k) o := by
  unfold ofTo; rw [take_snoc h, List.foldl_append]; rfl
def isFor (B : List Blank) (T : List Span) (w : Want) (i j : Int) (o : Ob) : Bool := (min o.f o.s == i) && (max o.f o.s == j) && goodB (spansP B T o) w
/-- The objective that is kept for two blanks. -/
def ofO (B : List Blank) (T : List Span) (w : Want) (i j : Int) : Option Ob := (obsA B.length T.length).find? (isFor B T w i j)
theorem of_fold (B : List Blank) (T : List Span) (w : Want) (i j : Int) : ∀ (L : List Ob) (f : TV → Option TV), (L.foldl (ofStep B T w) f) (.agg [.int .i64 i, .int .i64 j]) = match f (.agg [.int .i64 i, .int .i64 j]) with
    | some x => some x
    | none => (L.find? (isFor B T w i j)).map Ob.t
  | [], f => by
    simp only [List.foldl_nil, List.find?_nil, Option.map_none]
    cases f (.agg [.int .i64 i, .int .i64 j]) <;> rfl
  | o :: L, f => by
    rw [List.foldl_cons, of_fold B T w i j L]
    by_cases hk : keyO o = .agg [.int .i64 i, .int .i64 j]
    · have h1 : (min o.f o.s == i) = true ∧ (max o.f o.s == j) = true := by
        unfold keyO at hk
        simp only [TV.agg.injEq, List.cons.injEq, TV.int.injEq, true_and, and_true] at hk
        exact ⟨by simpa using hk.1, by simpa using hk.2⟩
      unfold ofStep
      rw [hk]
      cases hf : f (.agg [.int .i64 i, .int .i64 j]) with
      | some x => simp [hf]
      | none =>
        simp only [Option.isSome_none, Bool.false_eq_true, if_false]
        cases hg : goodB (spansP B T o) w with
        | true =>
          have : isFor B T w i j o = true := by unfold isFor; rw [h1.1, h1.2, hg]; rfl
          simp only [if_true, updT_same]
          rw [List.find?_cons_of_pos this]; rfl
        | false =>
          have : ¬ isFor B T w i j o = true := by unfold isFor; rw [hg]; simp
          simp only [Bool.false_eq_true, if_false, hf]
          rw [List.find?_cons_of_neg this]
    · have h1 : ¬ isFor B T w i j o = true := by
        intro h
        unfold isFor at h
        simp only [Bool.and_eq_true, beq_iff_eq] at h
        apply hk
        unfold keyO
        rw [h.1.1, h.1.2]
      have h2 : ofStep B T w f o (.agg [.int .i64 i, .int .i64 j]) = f (.agg [.int .i64 i, .int .i64 j]) := by
        unfold ofStep
        split
        · rfl
        · split
          · unfold updT; rw [if_neg (fun e => hk e.symm)]
          · rfl
      rw [h2, List.find?_cons_of_neg h1]
theorem ofA_look (B : List Blank) (T : List Span) (w : Want) (i j : Int) : ofA B T w (.agg [.int .i64 i, .int .i64 j]) = (ofO B T w i j).map Ob.t := by
  unfold ofA; rw [of_fold]; rfl
theorem ofA_to (B : List Blank) (T : List Span) (w : Want) : ofTo B T w (obsA B.length T.length).length = ofA B T w := by
  unfold ofTo ofA; rw [List.take_length]

/-- The most objectives at once, of blanks that are not used, from one on. -/
def joinStep (rec : Tk → List Ob) (E : Int → Int → Option Ob) (U : Tk) (fr : Nat) (best : List Ob) (k : Nat) : List Ob := match E fr k with
  | none => best
  | some o => if U.at k then best else if (rec ((U.set fr).set k)).length + 1 > best.length then o :: rec ((U.set fr).set k) else best
def joinP (E : Int → Int → Option Ob) (n : Nat) : Nat → Tk → List Ob
  | 0, _ => []
  | d + 1, U => if U.at (n - (d + 1)) then joinP E n d U else (List.range' (n - (d + 1) + 1) d).foldl (joinStep (joinP E n d) E U (n - (d + 1))) (joinP E n d U)
def joinTo (E : Int → Int → Option Ob) (n d : Nat) (U : Tk) (j : Nat) : List Ob := (List.range' (n - (d + 1) + 1) j).foldl (joinStep (joinP E n d) E U (n - (d + 1))) (joinP E n d U)
theorem joinTo_succ (E : Int → Int → Option Ob) (n d : Nat) (U : Tk) (j : Nat) : joinTo E n d U (j + 1) = joinStep (joinP E n d) E U (n - (d + 1)) (joinTo E n d U j) (n - (d + 1) + 1 + j) := by
  unfold joinTo
  rw [List.range'_1_concat, List.foldl_append]; rfl
theorem joinP_len (E : Int → Int → Option Ob) (n : Nat) : ∀ (d : Nat) (U : Tk), (joinP E n d U).length ≤ d
  | 0, _ => Nat.le_refl _
  | d + 1, U => by
    have ih := joinP_len E n d
    simp only [joinP]
    split
    · have := ih U; omega
    · have key : ∀ (l : List Nat) (b : List Ob), b.length ≤ d + 1 → (l.foldl (joinStep (joinP E n d) E U (n - (d + 1))) b).length ≤ d + 1 := by
        intro l
        induction l with
        | nil => intro b h; exact h
        | cons k l ihl =>
          intro b h
          rw [List.foldl_cons]
          refine ihl _ ?_
          unfold joinStep
          split
          · exact h
          · split
            · exact h
            · split
              · have := ih ((U.set (n - (d + 1))).set k); simp only [List.length_cons]; omega
              · exact h
      exact key _ _ (by have := ih U; omega)
theorem joinTo_len (E : Int → Int → Option Ob) (n d : Nat) (U : Tk) : ∀ j, (joinTo E n d U j).length ≤ d + 1
  | 0 => by have := joinP_len E n d U; unfold joinTo; simp only [List.range'_zero, List.foldl_nil]; omega
  | j + 1 => by
    rw [joinTo_succ]
    have ih := joinTo_len E n d U j
    unfold joinStep
    split
    · exact ih
    · split
      · exact ih
      · split
        · have := joinP_len E n d ((U.set (n - (d + 1))).set (n - (d + 1) + 1 + j)); simp only [List.length_cons]; omega
        · exact ih
/-- A row of objectives, as it is handed back. -/
def rowJ (l : List Ob) : TV := if l.length = 0 then .nilSl else .sl (l.flatMap Ob.cs) l.length (l.length == 1)
def mostP (B : List Blank) (T : List Span) (w : Want) : List Ob × Int := if stockOk B T = false then ([], 40) else if wantOk w = false then ([], 43) else (joinP (ofO B T w) B.length B.length Tk.none, 0)
end Go.Oc.Gl

/- Part Gb. -/
namespace Go.Oc.Gl
end Go.Oc.Gl
namespace Go.Proofs.YtlonlnfenbadbaaDoor.Gl
end Go.Proofs.YtlonlnfenbadbaaDoor.Gl
namespace Go.Proofs.YtlonlnfenbadbaaDoor.Gl
open Go.RowKit Go.Pm Go.Oc Go.Oc.Gl
set_option maxRecDepth 100000
set_option linter.unusedVariables false
set_option maxHeartbeats 4000000

theorem allO_t : ∀ xs : List TV, allO (List.map PV.toT (List.map PV.t xs)) = some xs
  | [] => rfl
  | x :: xs => by simp only [List.map_cons, allO, PV.toT, allO_t xs, Option.map_some]
theorem tk_ne2 {U : Tk} {fr : Nat} (k : Nat) (hfr : fr < 8) (h : U.at fr = false) : (((U.set fr).set k).b0 == U.b0 && (((U.set fr).set k).b1 == U.b1 && (((U.set fr).set k).b2 == U.b2 && (((U.set fr).set k).b3 == U.b3 && (((U.set fr).set k).b4 == U.b4 && (((U.set fr).set k).b5 == U.b5 && (((U.set fr).set k).b6 == U.b6 && ((U.set fr).set k).b7 == U.b7))))))) = false := by
  rcases lt8 hfr with rfl | rfl | rfl | rfl | rfl | rfl | rfl | rfl <;> simp only [Tk.at] at h <;> simp [Tk.set, h]
end Go.Proofs.YtlonlnfenbadbaaDoor.Gl

/- Part Gf. -/
namespace Go.Oc.Gl
end Go.Oc.Gl
namespace Go.Proofs.YtlonlnfenbadbaaDoor.Gl
end Go.Proofs.YtlonlnfenbadbaaDoor.Gl
namespace Go.Oc.Gl
open Go Go.Pm
/-- A reading of fringes. -/
structure Fr where
  p : Span
  r : Span
  g : Int
  deriving DecidableEq
def Fr.cs (f : Fr) : List TV := [.int .i64 f.p.lo, .int .i64 f.p.hi, .int .i64 f.r.lo, .int .i64 f.r.hi, .int .i64 f.g]
def unFrs : List TV → Option (List Fr)
  | [] => some []
  | .int .i64 a :: .int .i64 b :: .int .i64 c :: .int .i64 d :: .int .i64 e :: r => (unFrs r).map (⟨⟨a, b⟩, ⟨c, d⟩, e⟩ :: ·)
  | _ => none
theorem unFrs_eq : ∀ l : List Fr, unFrs (l.flatMap Fr.cs) = some l
  | [] => rfl
  | x :: l => by simp [Fr.cs, unFrs, unFrs_eq l]
theorem unFrs_some : ∀ {cs : List TV} {l : List Fr}, unFrs cs = some l → cs = l.flatMap Fr.cs := by
  intro cs
  induction cs using unFrs.induct with
  | case1 => intro l h; simp [unFrs] at h; subst h; rfl
  | case2 a b c d e r ih =>
    intro l h
    simp only [unFrs, Option.map_eq_some_iff] at h
    obtain ⟨l', h1, rfl⟩ := h
    rw [ih h1]; rfl
  | case3 r h1 h2 =>
    intro l h
    unfold unFrs at h
    split at h
    · exact absurd rfl h1
    · exact absurd rfl (h2 _ _ _ _ _ _)
    · cases h
attribute [go_sem] unFrs_eq
def frOk (f : Fr) : Bool := spannedB f.p (-1000) 1000 && spannedB f.r 0 1000 && inB f.g (-1) 1
theorem frOk_iff {f : Fr} : frOk f = true ↔ (-1000 ≤ f.p.lo ∧ f.p.lo ≤ f.p.hi ∧ f.p.hi ≤ 1000) ∧ (0 ≤ f.r.lo ∧ f.r.lo ≤ f.r.hi ∧ f.r.hi ≤ 1000) ∧ -1 ≤ f.g ∧ f.g ≤ 1 := by
  simp only [frOk, spannedB, inB, Bool.and_eq_true, decide_eq_true_eq]
  constructor
  · rintro ⟨⟨a, b⟩, c⟩; omega
  · rintro ⟨a, b, c⟩; omega
def agB (f : Fr) (c : Int) : Bool := (decide (f.g ≥ 0) && inB c (f.p.lo + f.r.lo) (f.p.hi + f.r.hi)) || (decide (f.g ≤ 0) && inB c (f.p.lo - f.r.hi) (f.p.hi - f.r.lo))
def frsOk (l : List Fr) : Bool := inB l.length 1 12 && l.all frOk
def frAll (l : List Fr) (c : Int) : Bool := l.all fun f => agB f c
def surfStep (l : List Fr) (out : List Span) (c : Int) : List Span := if frAll l c then (match out.getLast? with
  | some s => if s.hi = c - 1 then out.dropLast ++ [⟨s.lo, c⟩] else out ++ [⟨c, c⟩]
  | none => [⟨c, c⟩]) else out
def surfTo (l : List Fr) (k : Nat) : List Span := (List.range k).foldl (fun out (i : Nat) => surfStep l out ((i : Int) - 2000)) []
theorem surfTo_succ (l : List Fr) (k : Nat) : surfTo l (k + 1) = surfStep l (surfTo l k) ((k : Int) - 2000) := by
  unfold surfTo; rw [List.range_succ, List.foldl_append]; rfl
def surfP (l : List Fr) : List Span × Int := if frsOk l = false then ([], 44) else if surfTo l 4001 = [] then ([], 4) else (surfTo l 4001, 0)
theorem surf_len (l : List Fr) : ∀ k, (surfTo l k).length ≤ k
  | 0 => by simp [surfTo]
  | k + 1 => by
    have ih := surf_len l k
    rw [surfTo_succ]
    unfold surfStep
    split
    · split
      · split
        · rename_i s hs _
          have : surfTo l k ≠ [] := by intro h; rw [h] at hs; cases hs
          have hp := List.length_pos_iff.2 this
          simp only [List.length_append, List.length_dropLast, List.length_cons, List.length_nil]; omega
        · simp only [List.length_append, List.length_cons, List.length_nil]; omega
      · simp
    · omega
theorem frsOk_at {l : List Fr} (h : frsOk l = true) : (1 ≤ l.length ∧ l.length ≤ 12) ∧ ∀ f ∈ l, frOk f = true := by
  simp only [frsOk, inB, Bool.and_eq_true, decide_eq_true_eq, List.all_eq_true] at h
  exact ⟨by omega, h.2⟩
/-- A list is nothing, or ends in something. -/
theorem snoc_cases {α : Type} (l : List α) : l = [] ∨ ∃ i x, l = i ++ [x] := by
  rcases List.eq_nil_or_concat l with h | ⟨i, x, h⟩
  · exact .inl h
  · exact .inr ⟨i, x, by rw [h, List.concat_eq_append]⟩
end Go.Oc.Gl
namespace Go.Proofs.YtlonlnfenbadbaaDoor.Gl
open Go.RowKit Go.Pm Go.Oc Go.Oc.Gl
set_option maxRecDepth 100000
set_option linter.unusedVariables false
set_option maxHeartbeats 4000000

attribute [go_sem] popM
end Go.Proofs.YtlonlnfenbadbaaDoor.Gl

/- Part Hp. -/
namespace Go.Proofs.YtlonlnfenbadbaaDoor.Sx
end Go.Proofs.YtlonlnfenbadbaaDoor.Sx
namespace Go.Oh
open Go Go.Pm Go.Oc

/-- One number, as cells. -/
def ic (n : Int) : List TV := [.int .i64 n]
theorem ic_ints (l : List Int) : l.flatMap ic = ints l := by
  induction l with
  | nil => rfl
  | cons x l ih => rw [List.flatMap_cons, ih]; rfl
noncomputable def unI (cs : List TV) : Option (List Int) := unflat ic cs
theorem unI_ic (l : List Int) : unI (l.flatMap ic) = some l := unflat_eq (n := 1) (fun _ => rfl) (by decide) (fun x y h => by simpa [ic] using h) l
theorem unI_eq (l : List Int) : unI (ints l) = some l := by rw [← ic_ints]; exact unI_ic l
theorem unI_nil : unI [] = some [] := unI_ic []
theorem unI_some {cs : List TV} {l : List Int} (h : unI cs = some l) : cs = l.flatMap ic := unflat_some h
noncomputable def unS (cs : List TV) : Option (List Span) := unflat Span.cs cs
theorem unS_eq (l : List Span) : unS (l.flatMap Span.cs) = some l := unflat_eq (n := 2) (fun _ => rfl) (by decide) (fun x y h => by
  obtain ⟨a, b⟩ := x; obtain ⟨c, d⟩ := y
  simp only [Span.cs, List.cons.injEq, TV.int.injEq, true_and, and_true] at h
  rw [h.1, h.2]) l
theorem unS_nil : unS [] = some [] := unS_eq []
theorem unS_some {cs : List TV} {l : List Span} (h : unS cs = some l) : cs = l.flatMap Span.cs := unflat_some h
theorem rowS_is {s : TV} {l : List Span} (h : IsRow Span.cs s l) : rowL unS s = some l := by
  rcases h with ⟨rfl, rfl⟩ | ⟨f, rfl⟩
  · exact unS_nil
  · simp [rowL, unS_eq]
theorem rowI_is {s : TV} {l : List Int} (h : IsRow ic s l) : rowL unI s = some l := by
  rcases h with ⟨rfl, rfl⟩ | ⟨f, rfl⟩
  · exact unI_nil
  · simp [rowL, unI_ic]
attribute [go_sem] unS_eq unI_eq unI_ic unS_nil unI_nil
theorem ints_snoc (l : List Int) (x : Int) : ints (l ++ [x]) = ints l ++ [.int .i64 x] := by simp [ints]
/-- A row as it is handed back. -/
def rowI (l : List Int) : TV := if l.length = 0 then .nilSl else .sl (ints l) l.length false
theorem rowI_row (l : List Int) : IsRow ic (rowI l) l := by
  unfold rowI
  split
  · rename_i h; exact .inl ⟨rfl, List.length_eq_zero_iff.1 h⟩
  · exact .inr ⟨false, by rw [ic_ints]⟩
theorem rowI_ne {l : List Int} (h : l.length ≠ 0) : rowI l = .sl (ints l) l.length false := by unfold rowI; rw [if_neg h]
def rowSp (l : List Span) : TV := if l.length = 0 then .nilSl else .sl (l.flatMap Span.cs) l.length false
theorem rowSp_row (l : List Span) : IsRow Span.cs (rowSp l) l := by
  unfold rowSp
  split
  · rename_i h; exact .inl ⟨rfl, List.length_eq_zero_iff.1 h⟩
  · exact .inr ⟨false, rfl⟩
/-- The element of a list at a place. -/
def nth (l : List Int) (i : Int) : Int := l.getD i.toNat 0
theorem nth_eq {l : List Int} {k : Nat} {x : Int} (h : l[k]? = some x) : nth l (k : Int) = x := by
  unfold nth; rw [List.getD_eq_getElem?_getD, Int.toNat_natCast, h]; rfl
def pickI (l : List Int) (n : Int) : Int := if l.length = 0 then 0 else nth l (n % l.length)
theorem before_end : ∀ {a b : List Int}, a = [] ∨ b = [] → before a b = decide (a.length < b.length)
  | [], [], _ => rfl
  | [], _ :: _, _ => by simp [before]
  | _ :: _, [], _ => by simp [before]
  | _ :: _, _ :: _, h => by rcases h with h | h <;> cases h

/-- A row of places, as numbers. -/
def nI (S : List Nat) : List Int := S.map Int.ofNat
theorem before_irrefl : ∀ a : List Int, before a a = false
  | [] => rfl
  | x :: a => by simp [before, before_irrefl a]
theorem before_trans : ∀ {a b c : List Int}, before a b = true → before b c = true → before a c = true
  | [], [], _, h, _ => by cases h
  | [], _ :: _, [], _, h => by cases h
  | [], _ :: _, _ :: _, _, _ => rfl
  | _ :: _, [], _, h, _ => by cases h
  | _ :: _, _ :: _, [], _, h => by cases h
  | x :: a, y :: b, z :: c, h1, h2 => by
    simp only [before] at h1 h2 ⊢
    by_cases hxy : x < y
    · by_cases hyz : y < z
      · rw [if_pos (show x < z by omega)]
      · rw [if_neg hyz] at h2
        by_cases hzy : z < y
        · rw [if_pos hzy] at h2; cases h2
        · rw [if_pos (show x < z by omega)]
    · rw [if_neg hxy] at h1
      by_cases hyx : y < x
      · rw [if_pos hyx] at h1; cases h1
      · rw [if_neg hyx] at h1
        have : x = y := by omega
        subst this
        by_cases hyz : x < z
        · rw [if_pos hyz]
        · rw [if_neg hyz] at h2 ⊢
          by_cases hzy : z < x
          · rw [if_pos hzy] at h2; cases h2
          · rw [if_neg hzy] at h2 ⊢
            exact before_trans h1 h2
theorem before_total : ∀ {a b : List Int}, a.length = b.length → before a b = false → before b a = false → a = b
  | [], [], _, _, _ => rfl
  | [], _ :: _, h, _, _ => by simp at h
  | _ :: _, [], h, _, _ => by simp at h
  | x :: a, y :: b, h, h1, h2 => by
    simp only [before] at h1 h2
    have hxy : ¬ x < y := fun h' => by rw [if_pos h'] at h1; cases h1
    have hyx : ¬ y < x := fun h' => by rw [if_pos h'] at h2; cases h2
    rw [if_neg hxy, if_neg hyx] at h1
    rw [if_neg hyx, if_neg hxy] at h2
    have : x = y := by omega
    subst this
    rw [before_total (by simpa using h) h1 h2]
theorem before_append (c : List Int) {a b : List Int} : before (c ++ a) (c ++ b) = before a b := by
  induction c with
  | nil => rfl
  | cons x c ih => simp only [List.cons_append, before, if_neg (Int.lt_irrefl x)]; exact ih
/-- Is the first row better than the second one? -/
def bet (a b : List Int) : Prop := a.length < b.length ∨ a.length = b.length ∧ before a b = true
theorem bet_irrefl (a : List Int) : ¬ bet a a := by
  rintro (h | ⟨_, h⟩)
  · omega
  · rw [before_irrefl] at h; cases h
theorem bet_trans {a b c : List Int} (h1 : bet a b) (h2 : bet b c) : bet a c := by
  rcases h1 with h1 | ⟨h1, g1⟩ <;> rcases h2 with h2 | ⟨h2, g2⟩
  · exact .inl (by omega)
  · exact .inl (by omega)
  · exact .inl (by omega)
  · exact .inr ⟨by omega, before_trans g1 g2⟩
theorem bet_total {a b : List Int} (h1 : ¬ bet a b) (h2 : ¬ bet b a) : a = b := by
  unfold bet at h1 h2
  have hl : a.length = b.length := by omega
  refine before_total hl ?_ ?_
  · cases h : before a b with
    | false => rfl
    | true => exact absurd (.inr ⟨hl, h⟩) h1
  · cases h : before b a with
    | false => rfl
    | true => exact absurd (.inr ⟨hl.symm, h⟩) h2

/-- A row of places below n, increasing. -/
def rowN (n : Nat) (S : List Nat) : Prop := ∃ p : Nat → Bool, S = (List.range n).filter p
/-- The first of the least rows that are bad. -/
structure Least (bad : List Nat → Bool) (n : Nat) (S : List Nat) : Prop where
  row : rowN n S
  ne : S ≠ []
  isBad : bad S = true
  min : ∀ S', rowN n S' → S' ≠ [] → bad S' = true → ¬ bet (nI S') (nI S)
theorem nI_inj {a b : List Nat} (h : nI a = nI b) : a = b := by
  unfold nI at h
  exact List.map_inj_right (fun _ _ h => Int.ofNat.inj h) |>.1 h
theorem least_one {bad : List Nat → Bool} {n : Nat} {S S' : List Nat} (h : Least bad n S) (h' : Least bad n S') : S = S' :=
  nI_inj (bet_total (h'.min S h.row h.ne h.isBad) (h.min S' h'.row h'.ne h'.isBad))
theorem range_sorted (n : Nat) (p : Nat → Bool) : ((List.range n).filter p).Pairwise (· < ·) := List.pairwise_lt_range.filter p
theorem sorted_mem_ext {a b : List Nat} (ha : a.Pairwise (· < ·)) (hb : b.Pairwise (· < ·)) (h : ∀ x, x ∈ a ↔ x ∈ b) : a = b := by
  induction a generalizing b with
  | nil =>
    cases b with
    | nil => rfl
    | cons y b => have := (h y).2 (by simp); cases this
  | cons x a ih =>
    cases b with
    | nil => have := (h x).1 (by simp); cases this
    | cons y b =>
      rw [List.pairwise_cons] at ha hb
      have hx := (h x).1 (by simp)
      have hy := (h y).2 (by simp)
      have hxy : x = y := by
        rcases List.mem_cons.1 hx with hx | hx
        · exact hx
        · rcases List.mem_cons.1 hy with hy | hy
          · exact hy.symm
          · have := ha.1 y hy; have := hb.1 x hx; omega
      subst hxy
      rw [ih ha.2 hb.2 fun z => ?_]
      have hz := h z
      simp only [List.mem_cons] at hz
      constructor
      · intro hza
        have := ha.1 z hza
        rcases hz.1 (.inr hza) with rfl | h
        · omega
        · exact h
      · intro hzb
        have := hb.1 z hzb
        rcases hz.2 (.inr hzb) with rfl | h
        · omega
        · exact h
/-- A row is one that is increasing and below n. -/
theorem rowN_iff {n : Nat} {S : List Nat} : rowN n S ↔ S.Pairwise (· < ·) ∧ ∀ x ∈ S, x < n := by
  constructor
  · rintro ⟨p, rfl⟩
    exact ⟨range_sorted n p, fun x hx => List.mem_range.1 (List.mem_filter.1 hx).1⟩
  · rintro ⟨h1, h2⟩
    refine ⟨fun x => decide (x ∈ S), sorted_mem_ext h1 (range_sorted n _) fun x => ?_⟩
    simp only [List.mem_filter, List.mem_range, decide_eq_true_eq]
    exact ⟨fun h => ⟨h2 x h, h⟩, fun h => h.2⟩
/-- More places, from fr on. -/
structure More (n fr m : Nat) (J : List Nat) : Prop where
  len : J.length = m
  inc : J.Pairwise (· < ·)
  lo : ∀ x ∈ J, fr ≤ x
  hi : ∀ x ∈ J, x < n
/-- The search: found, and what was looked at last. -/
def cho (n : Nat) (bad : List Nat → Bool) : Nat → List Nat → Nat → List Nat → Bool × List Nat
  | 0, S, _, _ => (bad S, S)
  | m + 1, S, fr, o => (List.range' fr (n - fr)).foldl (fun acc i => if acc.1 then acc else cho n bad m (S ++ [i]) (i + 1) acc.2) (false, o)
def choTo (n : Nat) (bad : List Nat → Bool) (m : Nat) (S : List Nat) (fr : Nat) (o : List Nat) (j : Nat) : Bool × List Nat := (List.range' fr j).foldl (fun acc i => if acc.1 then acc else cho n bad m (S ++ [i]) (i + 1) acc.2) (false, o)
theorem cho_succ (n : Nat) (bad : List Nat → Bool) (m : Nat) (S : List Nat) (fr : Nat) (o : List Nat) : cho n bad (m + 1) S fr o = choTo n bad m S fr o (n - fr) := rfl
theorem choTo_succ {n : Nat} {bad : List Nat → Bool} {m : Nat} {S : List Nat} {fr : Nat} {o : List Nat} {j : Nat} (h : (choTo n bad m S fr o j).1 = false) :
    choTo n bad m S fr o (j + 1) = cho n bad m (S ++ [fr + j]) (fr + j + 1) (choTo n bad m S fr o j).2 := by
  unfold choTo at h ⊢
  rw [List.range'_1_concat, List.foldl_append]
  simp only [List.foldl_cons, List.foldl_nil]
  rw [if_neg (by rw [h]; simp)]
theorem choTo_stop {n : Nat} {bad : List Nat → Bool} {m : Nat} {S : List Nat} {fr : Nat} {o : List Nat} {j : Nat} (h : (choTo n bad m S fr o j).1 = true) : ∀ d, choTo n bad m S fr o (j + d) = choTo n bad m S fr o j
  | 0 => rfl
  | d + 1 => by
    have ih := choTo_stop h d
    rw [← Nat.add_assoc]
    unfold choTo at h ih ⊢
    rw [List.range'_1_concat, List.foldl_append, ih]
    simp only [List.foldl_cons, List.foldl_nil]
    rw [if_pos h]
/-- What the search has come to behind so many sizes. -/
def falT (n : Nat) (bad : List Nat → Bool) : Nat → Bool × List Nat
  | 0 => (false, [])
  | k + 1 => if (falT n bad k).1 then falT n bad k else cho n bad (k + 1) [] 0 (falT n bad k).2
theorem falT_stop {n : Nat} {bad : List Nat → Bool} {k : Nat} (h : (falT n bad k).1 = true) : ∀ d, falT n bad (k + d) = falT n bad k
  | 0 => rfl
  | d + 1 => by
    have ih := falT_stop h d
    rw [← Nat.add_assoc, falT, ih, if_pos h]
theorem falT_next {n : Nat} {bad : List Nat → Bool} {k : Nat} (h : (falT n bad k).1 = false) : falT n bad (k + 1) = cho n bad (k + 1) [] 0 (falT n bad k).2 := by
  rw [falT, if_neg (by rw [h]; simp)]
structure Found (bad : List Nat → Bool) (n fr m : Nat) (St out J : List Nat) : Prop where
  more : More n fr m J
  isBad : bad (St ++ J) = true
  out : out = St ++ J
  first : ∀ J', More n fr m J' → bad (St ++ J') = true → before (nI J') (nI J) = false
theorem cho_found {n : Nat} {bad : List Nat → Bool} : ∀ (m : Nat) (S : List Nat) (fr : Nat) (o : List Nat),
    ((cho n bad m S fr o).1 = true → ∃ J, Found bad n fr m S (cho n bad m S fr o).2 J) ∧
    ((cho n bad m S fr o).1 = false → ∀ J, More n fr m J → bad (S ++ J) = false)
  | 0, S, fr, o => by
    have nilJ : ∀ J, More n fr 0 J → J = [] := fun J hJ => List.length_eq_zero_iff.1 hJ.len
    constructor
    · intro h
      simp only [cho] at h ⊢
      refine ⟨[], ⟨⟨rfl, List.Pairwise.nil, by simp, by simp⟩, by rw [List.append_nil]; exact h, by rw [List.append_nil], ?_⟩⟩
      intro J' hJ' _; rw [nilJ J' hJ']; rfl
    · intro h J hJ
      simp only [cho] at h
      rw [nilJ J hJ, List.append_nil]; exact h
  | m + 1, S, fr, o => by
    rw [cho_succ]
    have key : ∀ j, fr + j ≤ n ∨ j = 0 →
        ((choTo n bad m S fr o j).1 = true → ∃ J, Found bad n fr (m + 1) S (choTo n bad m S fr o j).2 J) ∧
        ((choTo n bad m S fr o j).1 = false → ∀ J, More n fr (m + 1) J → (∃ x J', J = x :: J' ∧ x < fr + j) → bad (S ++ J) = false) := by
      intro j
      induction j with
      | zero =>
        intro _
        refine ⟨fun h => (by cases h), fun _ J hJ ⟨x, J', e, hx⟩ => ?_⟩
        have := hJ.lo x (by rw [e]; simp)
        omega
      | succ j ih =>
        intro hj
        have hj' : fr + j < n := by omega
        obtain ⟨ih1, ih2⟩ := ih (by omega)
        cases hf : (choTo n bad m S fr o j).1 with
        | true =>
          have e : choTo n bad m S fr o (j + 1) = choTo n bad m S fr o j := choTo_stop hf 1
          rw [e]
          exact ⟨ih1, fun h => by rw [hf] at h; cases h⟩
        | false =>
          rw [choTo_succ hf]
          have hrec := cho_found (bad := bad) (n := n) m (S ++ [fr + j]) (fr + j + 1) (choTo n bad m S fr o j).2
          constructor
          · intro h
            obtain ⟨J, hJ⟩ := hrec.1 h
            refine ⟨(fr + j) :: J, ⟨⟨by simp [hJ.more.len], ?_, ?_, ?_⟩, ?_, ?_, ?_⟩⟩
            · exact List.pairwise_cons.2 ⟨fun x hx => by have := hJ.more.lo x hx; omega, hJ.more.inc⟩
            · intro x hx
              rcases List.mem_cons.1 hx with rfl | hx
              · omega
              · have := hJ.more.lo x hx; omega
            · intro x hx
              rcases List.mem_cons.1 hx with rfl | hx
              · omega
              · exact hJ.more.hi x hx
            · have := hJ.isBad; rwa [List.append_assoc] at this
            · rw [hJ.out, List.append_assoc]; rfl
            · intro J' hJ' hb
              match J', hJ' with
              | [], hJ' => have := hJ'.len; simp at this
              | x :: J', hJ' =>
                have hx := hJ'.lo x (by simp)
                have hlt : ¬ x < fr + j := fun hlt => by rw [ih2 hf _ hJ' ⟨x, J', rfl, hlt⟩] at hb; cases hb
                show before ((x : Int) :: nI J') (((fr + j : Nat) : Int) :: nI J) = false
                simp only [before]
                rw [if_neg (by omega)]
                by_cases hgt : x = fr + j
                · subst hgt
                  rw [if_neg (by omega)]
                  have hp := List.pairwise_cons.1 hJ'.inc
                  refine hJ.first J' ⟨by have := hJ'.len; simpa using this, hp.2, fun y hy => by have := hp.1 y hy; omega, fun y hy => hJ'.hi y (List.mem_cons_of_mem _ hy)⟩ ?_
                  rw [List.append_assoc]; exact hb
                · rw [if_pos (by omega)]
          · intro h J hJ ⟨x, J', e, hx⟩
            subst e
            by_cases hxj : x = fr + j
            · subst hxj
              have hp := List.pairwise_cons.1 hJ.inc
              have := hrec.2 h J' ⟨by have := hJ.len; simpa using this, hp.2, fun y hy => by have := hp.1 y hy; omega, fun y hy => hJ.hi y (List.mem_cons_of_mem _ hy)⟩
              rw [List.append_assoc] at this; exact this
            · exact ih2 hf _ hJ ⟨x, J', rfl, by omega⟩
    have k := key (n - fr) (by omega)
    refine ⟨k.1, fun h J hJ => ?_⟩
    match J, hJ with
    | [], hJ => have := hJ.len; simp at this
    | x :: J', hJ =>
      have h1 := hJ.hi x (by simp)
      have h2 := hJ.lo x (by simp)
      exact k.2 h _ hJ ⟨x, J', rfl, by omega⟩
/-- What the search comes to, behind so many sizes. -/
theorem falT_law {n : Nat} {bad : List Nat → Bool} : ∀ k, k ≤ n →
    ((falT n bad k).1 = true → ∃ S, Least bad n S ∧ (falT n bad k).2 = S) ∧
    ((falT n bad k).1 = false → ∀ S, rowN n S → S ≠ [] → S.length ≤ k → bad S = false)
  | 0, _ => ⟨fun h => (by cases h), fun _ S hS hne hl => absurd (List.length_eq_zero_iff.1 (show S.length = 0 by omega)) hne⟩
  | k + 1, hk => by
    obtain ⟨ih1, ih2⟩ := falT_law (n := n) (bad := bad) k (by omega)
    cases hf : (falT n bad k).1 with
    | true =>
      have e : falT n bad (k + 1) = falT n bad k := falT_stop hf 1
      rw [e]
      exact ⟨ih1, fun h => by rw [hf] at h; cases h⟩
    | false =>
      rw [falT_next hf]
      have c := cho_found (bad := bad) (n := n) (k + 1) [] 0 (falT n bad k).2
      have toMore : ∀ S, rowN n S → S.length = k + 1 → More n 0 (k + 1) S := fun S hS hl => ⟨hl, (rowN_iff.1 hS).1, fun x _ => Nat.zero_le x, (rowN_iff.1 hS).2⟩
      constructor
      · intro h
        obtain ⟨J, hJ⟩ := c.1 h
        have hb : bad J = true := hJ.isBad
        refine ⟨J, ⟨rowN_iff.2 ⟨hJ.more.inc, hJ.more.hi⟩, ?_, hb, fun S' hS' hne' hb' hbet => ?_⟩, hJ.out⟩
        · intro h0
          have := hJ.more.len
          rw [h0] at this; simp at this
        · have l1 : (nI S').length = S'.length := List.length_map _
          have l2 : (nI J).length = k + 1 := by rw [nI, List.length_map, hJ.more.len]
          rcases hbet with hlt | ⟨heq, hbf⟩
          · rw [ih2 hf S' hS' hne' (by omega)] at hb'; cases hb'
          · have := hJ.first S' (toMore S' hS' (by omega)) hb'
            rw [this] at hbf; cases hbf
      · intro h S hS hne hl
        by_cases hlk : S.length ≤ k
        · exact ih2 hf S hS hne hlk
        · exact c.2 h S (toMore S hS (by omega))
theorem rowN_len {n : Nat} {S : List Nat} (h : rowN n S) : S.length ≤ n := by
  obtain ⟨p, rfl⟩ := h
  have := List.length_filter_le p (List.range n)
  simpa using this
theorem row_all (n : Nat) : rowN n (List.range n) := ⟨fun _ => true, (List.filter_eq_self.2 (fun _ _ => rfl)).symm⟩
/-- The specification's search: what it has come to behind so many sets. -/
def refStep (bad : List Nat → Bool) (n : Nat) (best : List Nat) (set : Nat) : List Nat :=
  let S := (List.range n).filter set.testBit
  if bad S then (if best.length = 0 ∨ S.length < best.length ∨ S.length = best.length ∧ before (nI S) (nI best) = true then S else best) else best
def refTo (bad : List Nat → Bool) (n k : Nat) : List Nat := (List.range' 1 k).foldl (refStep bad n) []
theorem refTo_succ (bad : List Nat → Bool) (n k : Nat) : refTo bad n (k + 1) = refStep bad n (refTo bad n k) (k + 1) := by
  unfold refTo
  rw [List.range'_1_concat, List.foldl_append, Nat.add_comm 1 k]; rfl
def setN (n s : Nat) : List Nat := (List.range n).filter s.testBit
theorem setN_ne {n s : Nat} (h1 : 1 ≤ s) (h2 : s < 2 ^ n) : setN n s ≠ [] := by
  intro h
  unfold setN at h
  rw [List.filter_eq_nil_iff] at h
  have : s = 0 := by
    apply Nat.eq_of_testBit_eq
    intro i
    rw [Nat.zero_testBit]
    by_cases hi : i < n
    · have := h i (List.mem_range.2 hi)
      simpa using this
    · exact Nat.testBit_lt_two_pow (Nat.lt_of_lt_of_le h2 (Nat.pow_le_pow_right (by omega) (by omega)))
  omega
theorem set_of (p : Nat → Bool) : ∀ n : Nat, ∃ s, s < 2 ^ n ∧ ∀ i, i < n → s.testBit i = p i
  | 0 => ⟨0, by simp, fun i h => by omega⟩
  | n + 1 => by
    obtain ⟨s, h1, h2⟩ := set_of p n
    have hlt : s < 2 ^ (n + 1) := Nat.lt_of_lt_of_le h1 (Nat.pow_le_pow_right (by omega) (by omega))
    cases hp : p n with
    | false =>
      refine ⟨s, hlt, fun i hi => ?_⟩
      by_cases hin : i = n
      · subst hin; rw [hp]; exact Nat.testBit_lt_two_pow h1
      · exact h2 i (by omega)
    | true =>
      refine ⟨s ||| 2 ^ n, Nat.or_lt_two_pow hlt (Nat.pow_lt_pow_right (by omega) (by omega)), fun i hi => ?_⟩
      rw [Nat.testBit_or, Nat.testBit_two_pow]
      by_cases hin : i = n
      · subst hin; simp [hp]
      · rw [h2 i (by omega)]
        have : decide (n = i) = false := by simp; omega
        rw [this, Bool.or_false]
theorem setN_of {n : Nat} {S : List Nat} (h : rowN n S) (hne : S ≠ []) : ∃ s, 1 ≤ s ∧ s < 2 ^ n ∧ setN n s = S := by
  obtain ⟨p, rfl⟩ := h
  obtain ⟨s, h1, h2⟩ := set_of p n
  have e : setN n s = (List.range n).filter p := List.filter_congr fun i hi => h2 i (List.mem_range.1 hi)
  refine ⟨s, ?_, h1, e⟩
  rcases Nat.eq_zero_or_pos s with h0 | h0
  · exfalso; apply hne
    rw [← e, h0]
    unfold setN
    rw [List.filter_eq_nil_iff]
    intro i _; simp
  · exact h0
theorem setN_t {k s : Nat} (h : s.testBit k = true) : setN (k + 1) s = setN k s ++ [k] := by simp [setN, List.range_succ, List.filter_append, h]
theorem setN_f {k s : Nat} (h : s.testBit k = false) : setN (k + 1) s = setN k s := by simp [setN, List.range_succ, List.filter_append, h]
theorem setN_len (k s : Nat) : (setN k s).length ≤ k := by
  have := List.length_filter_le s.testBit (List.range k)
  simpa [setN] using this
theorem nI_snoc (S : List Nat) (k : Nat) : nI (S ++ [k]) = nI S ++ [(k : Int)] := by simp [nI]
theorem nI_len (S : List Nat) : (nI S).length = S.length := List.length_map _

theorem refTo_law (bad : List Nat → Bool) (n : Nat) : ∀ k, k < 2 ^ n →
    (refTo bad n k = [] ∧ ∀ s, 1 ≤ s → s ≤ k → setN n s ≠ [] → bad (setN n s) = false) ∨
    (refTo bad n k ≠ [] ∧ rowN n (refTo bad n k) ∧ bad (refTo bad n k) = true ∧ ∀ s, 1 ≤ s → s ≤ k → setN n s ≠ [] → bad (setN n s) = true → ¬ bet (nI (setN n s)) (nI (refTo bad n k)))
  | 0, _ => .inl ⟨rfl, fun s h1 h2 => by omega⟩
  | k + 1, hk => by
    have ih := refTo_law bad n k (by omega)
    rw [refTo_succ]
    unfold refStep
    simp only
    rw [show (List.range n).filter (k + 1).testBit = setN n (k + 1) from rfl]
    have nl : ∀ S : List Nat, (nI S).length = S.length := fun S => List.length_map _
    cases hb : bad (setN n (k + 1)) with
    | false =>
      rw [if_neg (by simp)]
      rcases ih with ⟨e, h⟩ | ⟨e, h1, h2, h⟩
      · refine .inl ⟨e, fun s a b hne => ?_⟩
        by_cases hs : s = k + 1
        · subst hs; exact hb
        · exact h s a (by omega) hne
      · refine .inr ⟨e, h1, h2, fun s a b hne hb' => ?_⟩
        by_cases hs : s = k + 1
        · subst hs; rw [hb] at hb'; cases hb'
        · exact h s a (by omega) hne hb'
    | true =>
      rw [if_pos rfl]
      have hrow : rowN n (setN n (k + 1)) := ⟨_, rfl⟩
      by_cases hc : (refTo bad n k).length = 0 ∨ (setN n (k + 1)).length < (refTo bad n k).length ∨ (setN n (k + 1)).length = (refTo bad n k).length ∧ before (nI (setN n (k + 1))) (nI (refTo bad n k)) = true
      · rw [if_pos hc]
        have hne : setN n (k + 1) ≠ [] := setN_ne (by omega) hk
        refine .inr ⟨hne, hrow, hb, fun s a b hne' hb' hbet => ?_⟩
        by_cases hs : s = k + 1
        · subst hs; exact bet_irrefl _ hbet
        · rcases ih with ⟨e, h⟩ | ⟨e, h1, h2, h⟩
          · rw [h s a (by omega) hne'] at hb'; cases hb'
          · refine h s a (by omega) hne' hb' (bet_trans hbet ?_)
            rcases hc with h0 | h0 | h0
            · exact absurd (List.length_eq_zero_iff.1 h0) e
            · exact .inl (by rw [nl, nl]; exact h0)
            · exact .inr ⟨by rw [nl, nl]; exact h0.1, h0.2⟩
      · rw [if_neg hc]
        rcases ih with ⟨e, h⟩ | ⟨e, h1, h2, h⟩
        · exact absurd (.inl (by rw [e]; rfl)) hc
        · refine .inr ⟨e, h1, h2, fun s a b hne hb' hbet => ?_⟩
          by_cases hs : s = k + 1
          · subst hs
            rcases hbet with h0 | h0
            · rw [nl, nl] at h0; exact hc (.inr (.inl h0))
            · rw [nl, nl] at h0; exact hc (.inr (.inr h0))
          · exact h s a (by omega) hne hb' hbet
/-- BOTH SEARCHES COME TO THE SAME. -/
theorem searches (bad : List Nat → Bool) (n : Nat) :
    ((falT n bad n).1 = false ∧ refTo bad n (2 ^ n - 1) = [] ∧ ∀ S, rowN n S → S ≠ [] → bad S = false) ∨
    ((falT n bad n).1 = true ∧ ∃ S, Least bad n S ∧ (falT n bad n).2 = S ∧ refTo bad n (2 ^ n - 1) = S) := by
  have hpos : 0 < 2 ^ n := Nat.pow_pos (by omega)
  have r := refTo_law bad n (2 ^ n - 1) (by omega)
  have c := falT_law (bad := bad) n (Nat.le_refl n)
  cases hf : (falT n bad n).1 with
  | false =>
    have hall : ∀ S, rowN n S → S ≠ [] → bad S = false := fun S hS hne => c.2 hf S hS hne (rowN_len hS)
    refine .inl ⟨rfl, ?_, hall⟩
    rcases r with ⟨e, _⟩ | ⟨e, h1, h2, _⟩
    · exact e
    · rw [hall _ h1 e] at h2; cases h2
  | true =>
    obtain ⟨S, hS, e1⟩ := c.1 hf
    refine .inr ⟨rfl, S, hS, e1, ?_⟩
    rcases r with ⟨e, h⟩ | ⟨e, h1, h2, h⟩
    · obtain ⟨s, a, b, c⟩ := setN_of hS.row hS.ne
      have := h s a (by omega) (by rw [c]; exact hS.ne)
      rw [c, hS.isBad] at this; cases this
    · exact least_one ⟨h1, e, h2, fun S' r1 r2 r3 => by
        obtain ⟨s, a, b, c⟩ := setN_of r1 r2
        rw [← c]
        exact h s a (by omega) (by rw [c]; exact r2) (by rw [c]; exact r3)⟩ hS
/-- A smaller row than the least one is not bad. -/
theorem least_less {bad : List Nat → Bool} {n : Nat} {S : List Nat} (h : Least bad n S) {k : Nat} (hk : k < S.length) (h1 : 1 < S.length) : rowN n (S.eraseIdx k) ∧ S.eraseIdx k ≠ [] ∧ bad (S.eraseIdx k) = false := by
  have hr := rowN_iff.1 h.row
  have hl := List.length_eraseIdx_of_lt hk
  have hrow : rowN n (S.eraseIdx k) := rowN_iff.2 ⟨hr.1.sublist (List.eraseIdx_sublist S k), fun x hx => hr.2 x ((List.eraseIdx_sublist S k).mem hx)⟩
  have hne : S.eraseIdx k ≠ [] := fun e => by rw [e] at hl; simp at hl; omega
  refine ⟨hrow, hne, ?_⟩
  cases hb : bad (S.eraseIdx k) with
  | false => rfl
  | true =>
    refine absurd (.inl ?_) (h.min _ hrow hne hb)
    unfold nI
    rw [List.length_map, List.length_map, hl]; omega
/-- The elements at places. -/
def selA {α : Type} (l : List α) (S : List Nat) : List α := S.filterMap (l[·]?)
theorem selA_len {α : Type} {l : List α} : ∀ {S : List Nat}, (∀ x ∈ S, x < l.length) → (selA l S).length = S.length
  | [], _ => rfl
  | x :: S, h => by
    have hx := h x (by simp)
    unfold selA
    rw [List.filterMap_cons, List.getElem?_eq_getElem hx]
    simp only [List.length_cons]
    exact congrArg (· + 1) (selA_len (l := l) (S := S) fun y hy => h y (List.mem_cons_of_mem _ hy))
theorem selA_snoc {α : Type} {l : List α} {S : List Nat} {k : Nat} {x : α} (hx : l[k]? = some x) : selA l (S ++ [k]) = selA l S ++ [x] := by
  unfold selA; rw [List.filterMap_append]; simp [hx]
theorem selA_sub {α : Type} {l : List α} {S : List Nat} {x : α} (h : x ∈ selA l S) : x ∈ l := by
  obtain ⟨i, _, hi⟩ := List.mem_filterMap.1 h
  exact List.mem_of_getElem? hi
theorem selA_range {α : Type} (l : List α) : selA l (List.range l.length) = l := by
  have : ∀ k, k ≤ l.length → (List.range k).filterMap (l[·]?) = l.take k := by
    intro k
    induction k with
    | zero => intro _; simp
    | succ k ih =>
      intro hk
      rw [List.range_succ, List.filterMap_append, ih (by omega)]
      simp only [List.filterMap_cons, List.filterMap_nil]
      rw [List.getElem?_eq_getElem (by omega), List.take_add_one, List.getElem?_eq_getElem (by omega)]
      rfl
  unfold selA
  rw [this l.length (Nat.le_refl _), List.take_length]
/-- Numbers as places. -/
def toN (a : List Int) : List Nat := a.map Int.toNat
theorem toN_nI (S : List Nat) : toN (nI S) = S := by
  unfold toN nI
  rw [List.map_map]
  exact List.map_id S
noncomputable def rowB (n : Nat) (S : List Nat) : Bool := @decide (rowN n S) (Classical.propDecidable _)
theorem rowB_t {n : Nat} {S : List Nat} (h : rowN n S) : rowB n S = true := by unfold rowB; exact @decide_eq_true _ (Classical.propDecidable _) h
theorem rowB_of {n : Nat} {S : List Nat} (h : rowB n S = true) : rowN n S := by unfold rowB at h; exact @of_decide_eq_true _ (Classical.propDecidable _) h
theorem nI_erase {S : List Nat} {k : Nat} : ints (nI (S.eraseIdx k)) = (ints (nI S)).take k ++ (ints (nI S)).drop (k + 1) := by
  unfold ints nI
  rw [List.eraseIdx_eq_take_drop_succ]
  simp only [List.map_append, List.map_take, List.map_drop]
end Go.Oh

/- Part Hb. -/
namespace Go.Proofs.YtlonlnfenbadbaaDoor.Sx
end Go.Proofs.YtlonlnfenbadbaaDoor.Sx
namespace Go.Proofs.YtlonlnfenbadbaaDoor.Sx
open Go.RowKit Go.Pm Go.Oc Go.Oh
set_option maxRecDepth 100000
set_option linter.unusedVariables false
set_option maxHeartbeats 1000000

/-- Cells that are trees. -/
@[go_sem] theorem map_ren_t (ids : List Nat) (cs : List TV) : List.map (PV.ren ids) (List.map PV.t cs) = List.map PV.t cs := by rw [List.map_map]; rfl
@[go_sem] theorem map_inv_t (ids : List Nat) (cs : List TV) : List.map (PV.inv ids) (List.map PV.t cs) = List.map PV.t cs := by rw [List.map_map]; rfl
@[go_sem] theorem all_under_t (k : Nat) (cs : List TV) : (List.map PV.t cs).all (PV.under k) = true := by rw [List.all_map, List.all_eq_true]; intro x _; rfl
@[go_sem] theorem cellsW_t (l : List PO) : ∀ cs : List TV, cellsW l (List.map PV.t cs) (List.map PV.t cs) = True
  | [] => by simp [cellsW]
  | c :: cs => by simp [cellsW, cellsW_t l cs, cellW, PV.toT]
@[go_sem] theorem flat_idsG_t (cs : List TV) : List.flatMap idsG (List.map PV.t cs) = [] := by
  induction cs with
  | nil => rfl
  | cons c cs ih => rw [List.map_cons, List.flatMap_cons, ih]; rfl
@[go_sem] theorem flat_idsP_t (cs : List TV) : List.flatMap idsP (List.map PV.t cs) = [] := by
  induction cs with
  | nil => rfl
  | cons c cs ih => rw [List.map_cons, List.flatMap_cons, ih]; rfl
theorem allO_toT : ∀ cs : List TV, allO (List.map PV.toT (List.map PV.t cs)) = some cs
  | [] => rfl
  | c :: cs => by rw [List.map_cons, List.map_cons]; simp only [PV.toT, allO, allO_toT cs]; rfl
theorem allO_thaw (h : Hp) : ∀ cs : List TV, allO (List.map (thawC h) (List.map PV.t cs)) = some cs
  | [] => rfl
  | c :: cs => by rw [List.map_cons, List.map_cons]; simp only [thawC, PV.toT, allO, allO_thaw h cs]; rfl
@[go_sem] theorem allO_thawA (h : Hp) (cs ds : List TV) : allO (List.map (thawC h) (List.map PV.t cs ++ List.map PV.t ds)) = some (cs ++ ds) := by rw [← List.map_append]; exact allO_thaw h _
attribute [go_sem] allO_toT allO_thaw

theorem hIn_c (n lo hi : Int) : PCalls Tryd.prog 55 [.int .i64 n, .int .i64 lo, .int .i64 hi] (.bool (inB n lo hi)) := by
  refine pcalls_by Tryd.mixes noSpec_ok (fn := Tryd.f55) Tryd.func55 rfl (by kernel_rfl) (by show 3 ≤ _; decide) ?_
  simp (decide := true) (maxSteps := 4000000) only [go_sem, Nat.reduceAdd, Nat.reduceSub, Nat.reduceMul, Nat.reduceDiv, Nat.reduceMod, Nat.reduceLT, Nat.reduceLeDiff, Nat.reduceEqDiff, Nat.reduceBEq, Nat.reduceBNe, Nat.reduceGT, Int.reduceAdd, Int.reduceSub, Int.reduceMul, Int.reduceNeg, Int.reduceLT, Int.reduceLE, Int.reduceEq, Int.reduceNe, Int.reduceBEq, Int.reduceBNe, Int.reduceToNat, Int.reduceGT, Int.reduceGE, ↓reduceIte, decide_true, decide_false, Tryd.f55, inB, ge_iff_le]
def hgIn : List TV → Option TV
  | [.int .i64 n, .int .i64 a, .int .i64 b] => some (.bool (inB n a b))
  | _ => none
theorem hgIn_ok : ∀ xs r, hgIn xs = some r → PCalls Tryd.prog 55 xs r := by
  intro xs r h
  unfold hgIn at h
  split at h
  · cases h; exact hIn_c _ _ _
  · cases h
noncomputable def spH1 : Pm.Spec := noSpec.one 55 hgIn
theorem spH1_ok : SpecOk Tryd.prog spH1 := Spec.one_ok hgIn_ok noSpec_ok
attribute [go_sem] hgIn
@[go_sem] theorem spH1_p (f : FuncId) (xs : List TV) : spH1.p f xs = Pm.Spec.p (noSpec.one 55 hgIn) f xs := rfl
@[go_sem] theorem spH1_h (f : FuncId) (ps : List PV) (hl : List PO) : spH1.h f ps hl = Pm.Spec.h (noSpec.one 55 hgIn) f ps hl := rfl
@[go_sem] theorem spH1_y (Y : Pm.YS) (f : FuncId) (ps : List PV) (hl : List PO) : spH1.y Y f ps hl = Pm.Spec.y (noSpec.one 55 hgIn) Y f ps hl := rfl
@[go_sem] theorem spH1_fz (f : FuncId) : spH1.fz f = Pm.Spec.fz (noSpec.one 55 hgIn) f := rfl
@[go_sem] theorem spH1_fr (f : FuncId) : spH1.fr f = Pm.Spec.fr (noSpec.one 55 hgIn) f := rfl
@[go_sem] theorem spH1_yf (f : FuncId) : spH1.yf f = Pm.Spec.yf (noSpec.one 55 hgIn) f := rfl
@[go_sem] theorem spH1_gd : spH1.gd = Pm.Spec.gd (noSpec.one 55 hgIn) := rfl
@[go_sem] theorem spH1_mu (t : TypeId) : spH1.mu t = Pm.Spec.mu (noSpec.one 55 hgIn) t := rfl
@[go_sem] theorem spH1_nf (t : TypeId) : spH1.nf t = Pm.Spec.nf (noSpec.one 55 hgIn) t := rfl
theorem hMod_c (n by_ : Int) (h : 0 < by_) (h2 : by_ ≤ 9223372036854775807) : PCalls Tryd.prog 16 [.int .i64 n, .int .i64 by_] (.int .i64 (n % by_)) := by
  refine pcalls_by Tryd.mixes noSpec_ok (fn := Tryd.f16) Tryd.func16 rfl (by kernel_rfl) (by show 2 ≤ _; decide) ?_
  have hne : ¬ by_ = 0 := by omega
  simp (decide := true) (maxSteps := 4000000) only [go_sem, Nat.reduceAdd, Nat.reduceSub, Nat.reduceMul, Nat.reduceDiv, Nat.reduceMod, Nat.reduceLT, Nat.reduceLeDiff, Nat.reduceEqDiff, Nat.reduceBEq, Nat.reduceBNe, Nat.reduceGT, Int.reduceAdd, Int.reduceSub, Int.reduceMul, Int.reduceNeg, Int.reduceLT, Int.reduceLE, Int.reduceEq, Int.reduceNe, Int.reduceBEq, Int.reduceBNe, Int.reduceToNat, Int.reduceGT, Int.reduceGE, ↓reduceIte, decide_true, decide_false, Tryd.f16, hne]
  have e := Int.tmod_eq_emod (a := n) (b := by_)
  have e1 := Int.emod_nonneg n hne
  have e2 := Int.emod_lt_of_pos n h
  by_cases hn : n.tmod by_ < 0
  · simp (decide := true) (maxSteps := 4000000) only [go_sem, Nat.reduceAdd, Nat.reduceSub, Nat.reduceMul, Nat.reduceDiv, Nat.reduceMod, Nat.reduceLT, Nat.reduceLeDiff, Nat.reduceEqDiff, Nat.reduceBEq, Nat.reduceBNe, Nat.reduceGT, Int.reduceAdd, Int.reduceSub, Int.reduceMul, Int.reduceNeg, Int.reduceLT, Int.reduceLE, Int.reduceEq, Int.reduceNe, Int.reduceBEq, Int.reduceBNe, Int.reduceToNat, Int.reduceGT, Int.reduceGE, ↓reduceIte, decide_true, decide_false, hn]
    have e3 : n.tmod by_ + by_ = n % by_ := by
      rw [e] at hn ⊢
      split at hn
      · omega
      · rename_i hc
        rw [if_neg hc]
        have : (by_.natAbs : Int) = by_ := by omega
        omega
    rw [e3, wrap_in (by omega) (by omega)]
  · simp (decide := true) (maxSteps := 4000000) only [go_sem, Nat.reduceAdd, Nat.reduceSub, Nat.reduceMul, Nat.reduceDiv, Nat.reduceMod, Nat.reduceLT, Nat.reduceLeDiff, Nat.reduceEqDiff, Nat.reduceBEq, Nat.reduceBNe, Nat.reduceGT, Int.reduceAdd, Int.reduceSub, Int.reduceMul, Int.reduceNeg, Int.reduceLT, Int.reduceLE, Int.reduceEq, Int.reduceNe, Int.reduceBEq, Int.reduceBNe, Int.reduceToNat, Int.reduceGT, Int.reduceGE, ↓reduceIte, decide_true, decide_false, hn]
    rw [e] at hn ⊢
    split at hn
    · rename_i hc; rw [if_pos hc]; simp
    · rename_i hc
      have : (by_.natAbs : Int) = by_ := by omega
      omega
def hgMod : List TV → Option TV
  | [.int .i64 n, .int .i64 b] => if 0 < b ∧ b ≤ 9223372036854775807 then some (.int .i64 (n % b)) else none
  | _ => none
theorem hgMod_ok : ∀ xs r, hgMod xs = some r → PCalls Tryd.prog 16 xs r := by
  intro xs r h
  unfold hgMod at h
  split at h
  · split at h
    · rename_i hc; cases h; exact hMod_c _ _ hc.1 hc.2
    · cases h
  · cases h
noncomputable def spH2 : Pm.Spec := spH1.one 16 hgMod
theorem spH2_ok : SpecOk Tryd.prog spH2 := Spec.one_ok hgMod_ok spH1_ok
attribute [go_sem] hgMod
@[go_sem] theorem spH2_p (f : FuncId) (xs : List TV) : spH2.p f xs = Pm.Spec.p (spH1.one 16 hgMod) f xs := rfl
@[go_sem] theorem spH2_h (f : FuncId) (ps : List PV) (hl : List PO) : spH2.h f ps hl = Pm.Spec.h (spH1.one 16 hgMod) f ps hl := rfl
@[go_sem] theorem spH2_y (Y : Pm.YS) (f : FuncId) (ps : List PV) (hl : List PO) : spH2.y Y f ps hl = Pm.Spec.y (spH1.one 16 hgMod) Y f ps hl := rfl
@[go_sem] theorem spH2_fz (f : FuncId) : spH2.fz f = Pm.Spec.fz (spH1.one 16 hgMod) f := rfl
@[go_sem] theorem spH2_fr (f : FuncId) : spH2.fr f = Pm.Spec.fr (spH1.one 16 hgMod) f := rfl
@[go_sem] theorem spH2_yf (f : FuncId) : spH2.yf f = Pm.Spec.yf (spH1.one 16 hgMod) f := rfl
@[go_sem] theorem spH2_gd : spH2.gd = Pm.Spec.gd (spH1.one 16 hgMod) := rfl
@[go_sem] theorem spH2_mu (t : TypeId) : spH2.mu t = Pm.Spec.mu (spH1.one 16 hgMod) t := rfl
@[go_sem] theorem spH2_nf (t : TypeId) : spH2.nf t = Pm.Spec.nf (spH1.one 16 hgMod) t := rfl
theorem hAbs_c (n : Int) : PCalls Tryd.prog 27 [.int .i64 n] (.int .i64 (max n (IntKind.i64.wrap (0 - n)))) := by
  refine pcalls_by Tryd.mixes noSpec_ok (fn := Tryd.f27) Tryd.func27 rfl (by kernel_rfl) (by show 1 ≤ _; decide) ?_
  simp (decide := true) (maxSteps := 4000000) only [go_sem, Nat.reduceAdd, Nat.reduceSub, Nat.reduceMul, Nat.reduceDiv, Nat.reduceMod, Nat.reduceLT, Nat.reduceLeDiff, Nat.reduceEqDiff, Nat.reduceBEq, Nat.reduceBNe, Nat.reduceGT, Int.reduceAdd, Int.reduceSub, Int.reduceMul, Int.reduceNeg, Int.reduceLT, Int.reduceLE, Int.reduceEq, Int.reduceNe, Int.reduceBEq, Int.reduceBNe, Int.reduceToNat, Int.reduceGT, Int.reduceGE, ↓reduceIte, decide_true, decide_false, Tryd.f27]
def hgAbs : List TV → Option TV
  | [.int .i64 n] => some (.int .i64 (max n (IntKind.i64.wrap (0 - n))))
  | _ => none
theorem hgAbs_ok : ∀ xs r, hgAbs xs = some r → PCalls Tryd.prog 27 xs r := by
  intro xs r h
  unfold hgAbs at h
  split at h
  · cases h; exact hAbs_c _
  · cases h
noncomputable def spH3 : Pm.Spec := spH2.one 27 hgAbs
theorem spH3_ok : SpecOk Tryd.prog spH3 := Spec.one_ok hgAbs_ok spH2_ok
attribute [go_sem] hgAbs
@[go_sem] theorem spH3_p (f : FuncId) (xs : List TV) : spH3.p f xs = Pm.Spec.p (spH2.one 27 hgAbs) f xs := rfl
@[go_sem] theorem spH3_h (f : FuncId) (ps : List PV) (hl : List PO) : spH3.h f ps hl = Pm.Spec.h (spH2.one 27 hgAbs) f ps hl := rfl
@[go_sem] theorem spH3_y (Y : Pm.YS) (f : FuncId) (ps : List PV) (hl : List PO) : spH3.y Y f ps hl = Pm.Spec.y (spH2.one 27 hgAbs) Y f ps hl := rfl
@[go_sem] theorem spH3_fz (f : FuncId) : spH3.fz f = Pm.Spec.fz (spH2.one 27 hgAbs) f := rfl
@[go_sem] theorem spH3_fr (f : FuncId) : spH3.fr f = Pm.Spec.fr (spH2.one 27 hgAbs) f := rfl
@[go_sem] theorem spH3_yf (f : FuncId) : spH3.yf f = Pm.Spec.yf (spH2.one 27 hgAbs) f := rfl
@[go_sem] theorem spH3_gd : spH3.gd = Pm.Spec.gd (spH2.one 27 hgAbs) := rfl
@[go_sem] theorem spH3_mu (t : TypeId) : spH3.mu t = Pm.Spec.mu (spH2.one 27 hgAbs) t := rfl
@[go_sem] theorem spH3_nf (t : TypeId) : spH3.nf t = Pm.Spec.nf (spH2.one 27 hgAbs) t := rfl
noncomputable def spH4 : Pm.Spec := spH3
theorem spH4_ok : SpecOk Tryd.prog spH4 := spH3_ok
@[go_sem] theorem spH4_p (f : FuncId) (xs : List TV) : spH4.p f xs = Pm.Spec.p (spH3) f xs := rfl
@[go_sem] theorem spH4_h (f : FuncId) (ps : List PV) (hl : List PO) : spH4.h f ps hl = Pm.Spec.h (spH3) f ps hl := rfl
@[go_sem] theorem spH4_y (Y : Pm.YS) (f : FuncId) (ps : List PV) (hl : List PO) : spH4.y Y f ps hl = Pm.Spec.y (spH3) Y f ps hl := rfl
@[go_sem] theorem spH4_fz (f : FuncId) : spH4.fz f = Pm.Spec.fz (spH3) f := rfl
@[go_sem] theorem spH4_fr (f : FuncId) : spH4.fr f = Pm.Spec.fr (spH3) f := rfl
@[go_sem] theorem spH4_yf (f : FuncId) : spH4.yf f = Pm.Spec.yf (spH3) f := rfl
@[go_sem] theorem spH4_gd : spH4.gd = Pm.Spec.gd (spH3) := rfl
@[go_sem] theorem spH4_mu (t : TypeId) : spH4.mu t = Pm.Spec.mu (spH3) t := rfl
@[go_sem] theorem spH4_nf (t : TypeId) : spH4.nf t = Pm.Spec.nf (spH3) t := rfl
theorem hHolds_c (s : Span) (n : Int) : PCalls Tryd.prog 24 [s.t, .int .i64 n] (.bool (inB n s.lo s.hi)) := by
  refine pcalls_by Tryd.mixes spH4_ok (fn := Tryd.f24) Tryd.func24 rfl (by kernel_rfl) (by show 2 ≤ _; decide) ?_
  simp (decide := true) (maxSteps := 4000000) only [go_sem, Nat.reduceAdd, Nat.reduceSub, Nat.reduceMul, Nat.reduceDiv, Nat.reduceMod, Nat.reduceLT, Nat.reduceLeDiff, Nat.reduceEqDiff, Nat.reduceBEq, Nat.reduceBNe, Nat.reduceGT, Int.reduceAdd, Int.reduceSub, Int.reduceMul, Int.reduceNeg, Int.reduceLT, Int.reduceLE, Int.reduceEq, Int.reduceNe, Int.reduceBEq, Int.reduceBNe, Int.reduceToNat, Int.reduceGT, Int.reduceGE, ↓reduceIte, decide_true, decide_false, Tryd.f24, Span.t, Span.cs]
def hgHolds : List TV → Option TV
  | [.agg [.int .i64 x, .int .i64 y], .int .i64 n] => some (.bool (inB n x y))
  | _ => none
theorem hgHolds_ok : ∀ xs r, hgHolds xs = some r → PCalls Tryd.prog 24 xs r := by
  intro xs r h
  unfold hgHolds at h
  split at h
  · cases h; exact hHolds_c ⟨_, _⟩ _
  · cases h
noncomputable def spH5 : Pm.Spec := spH4.one 24 hgHolds
theorem spH5_ok : SpecOk Tryd.prog spH5 := Spec.one_ok hgHolds_ok spH4_ok
attribute [go_sem] hgHolds
@[go_sem] theorem spH5_p (f : FuncId) (xs : List TV) : spH5.p f xs = Pm.Spec.p (spH4.one 24 hgHolds) f xs := rfl
@[go_sem] theorem spH5_h (f : FuncId) (ps : List PV) (hl : List PO) : spH5.h f ps hl = Pm.Spec.h (spH4.one 24 hgHolds) f ps hl := rfl
@[go_sem] theorem spH5_y (Y : Pm.YS) (f : FuncId) (ps : List PV) (hl : List PO) : spH5.y Y f ps hl = Pm.Spec.y (spH4.one 24 hgHolds) Y f ps hl := rfl
@[go_sem] theorem spH5_fz (f : FuncId) : spH5.fz f = Pm.Spec.fz (spH4.one 24 hgHolds) f := rfl
@[go_sem] theorem spH5_fr (f : FuncId) : spH5.fr f = Pm.Spec.fr (spH4.one 24 hgHolds) f := rfl
@[go_sem] theorem spH5_yf (f : FuncId) : spH5.yf f = Pm.Spec.yf (spH4.one 24 hgHolds) f := rfl
@[go_sem] theorem spH5_gd : spH5.gd = Pm.Spec.gd (spH4.one 24 hgHolds) := rfl
@[go_sem] theorem spH5_mu (t : TypeId) : spH5.mu t = Pm.Spec.mu (spH4.one 24 hgHolds) t := rfl
@[go_sem] theorem spH5_nf (t : TypeId) : spH5.nf t = Pm.Spec.nf (spH4.one 24 hgHolds) t := rfl
noncomputable def spH6 : Pm.Spec := spH5
theorem spH6_ok : SpecOk Tryd.prog spH6 := spH5_ok
@[go_sem] theorem spH6_p (f : FuncId) (xs : List TV) : spH6.p f xs = Pm.Spec.p (spH5) f xs := rfl
@[go_sem] theorem spH6_h (f : FuncId) (ps : List PV) (hl : List PO) : spH6.h f ps hl = Pm.Spec.h (spH5) f ps hl := rfl
@[go_sem] theorem spH6_y (Y : Pm.YS) (f : FuncId) (ps : List PV) (hl : List PO) : spH6.y Y f ps hl = Pm.Spec.y (spH5) Y f ps hl := rfl
@[go_sem] theorem spH6_fz (f : FuncId) : spH6.fz f = Pm.Spec.fz (spH5) f := rfl
@[go_sem] theorem spH6_fr (f : FuncId) : spH6.fr f = Pm.Spec.fr (spH5) f := rfl
@[go_sem] theorem spH6_yf (f : FuncId) : spH6.yf f = Pm.Spec.yf (spH5) f := rfl
@[go_sem] theorem spH6_gd : spH6.gd = Pm.Spec.gd (spH5) := rfl
@[go_sem] theorem spH6_mu (t : TypeId) : spH6.mu t = Pm.Spec.mu (spH5) t := rfl
@[go_sem] theorem spH6_nf (t : TypeId) : spH6.nf t = Pm.Spec.nf (spH5) t := rfl
/-- Numbers whose sums and differences fit. -/
def hMid (n : Int) : Prop := -4000000000000000000 ≤ n ∧ n ≤ 4000000000000000000
theorem htdiv_floor {a b : Int} (h : 0 < b) : (a - a % b).tdiv b = a / b := by
  have h1 : a - a % b = b * (a / b) := by have := Int.mul_ediv_add_emod a b; omega
  rw [h1, Int.mul_tdiv_cancel_left _ (by omega)]
theorem hdiv_mid {a b : Int} (ha : hMid a) (h : 0 < b) : hMid (a / b) ∨ False := by
  refine .inl ⟨?_, ?_⟩
  · have := Int.ediv_le_ediv h ha.1
    rcases Int.lt_or_le a 0 with h0 | h0
    · have h2 : a ≤ a / b := by
        rw [Int.le_ediv_iff_mul_le h]
        have : a * b ≤ a * 1 := Int.mul_le_mul_of_nonpos_left (by omega) (by omega)
        omega
      have := ha.1; omega
    · have := Int.ediv_nonneg h0 (by omega : 0 ≤ b); omega
  · rcases Int.lt_or_le a 0 with h0 | h0
    · have : a / b < 0 := Int.ediv_neg_of_neg_of_pos h0 h
      omega
    · have := Int.ediv_le_self b h0; have := ha.2; omega
noncomputable def spH7 : Pm.Spec := spH6
theorem spH7_ok : SpecOk Tryd.prog spH7 := spH6_ok
@[go_sem] theorem spH7_p (f : FuncId) (xs : List TV) : spH7.p f xs = Pm.Spec.p (spH6) f xs := rfl
@[go_sem] theorem spH7_h (f : FuncId) (ps : List PV) (hl : List PO) : spH7.h f ps hl = Pm.Spec.h (spH6) f ps hl := rfl
@[go_sem] theorem spH7_y (Y : Pm.YS) (f : FuncId) (ps : List PV) (hl : List PO) : spH7.y Y f ps hl = Pm.Spec.y (spH6) Y f ps hl := rfl
@[go_sem] theorem spH7_fz (f : FuncId) : spH7.fz f = Pm.Spec.fz (spH6) f := rfl
@[go_sem] theorem spH7_fr (f : FuncId) : spH7.fr f = Pm.Spec.fr (spH6) f := rfl
@[go_sem] theorem spH7_yf (f : FuncId) : spH7.yf f = Pm.Spec.yf (spH6) f := rfl
@[go_sem] theorem spH7_gd : spH7.gd = Pm.Spec.gd (spH6) := rfl
@[go_sem] theorem spH7_mu (t : TypeId) : spH7.mu t = Pm.Spec.mu (spH6) t := rfl
@[go_sem] theorem spH7_nf (t : TypeId) : spH7.nf t = Pm.Spec.nf (spH6) t := rfl
noncomputable def spH8 : Pm.Spec := spH7
theorem spH8_ok : SpecOk Tryd.prog spH8 := spH7_ok
@[go_sem] theorem spH8_p (f : FuncId) (xs : List TV) : spH8.p f xs = Pm.Spec.p (spH7) f xs := rfl
@[go_sem] theorem spH8_h (f : FuncId) (ps : List PV) (hl : List PO) : spH8.h f ps hl = Pm.Spec.h (spH7) f ps hl := rfl
@[go_sem] theorem spH8_y (Y : Pm.YS) (f : FuncId) (ps : List PV) (hl : List PO) : spH8.y Y f ps hl = Pm.Spec.y (spH7) Y f ps hl := rfl
@[go_sem] theorem spH8_fz (f : FuncId) : spH8.fz f = Pm.Spec.fz (spH7) f := rfl
@[go_sem] theorem spH8_fr (f : FuncId) : spH8.fr f = Pm.Spec.fr (spH7) f := rfl
@[go_sem] theorem spH8_yf (f : FuncId) : spH8.yf f = Pm.Spec.yf (spH7) f := rfl
@[go_sem] theorem spH8_gd : spH8.gd = Pm.Spec.gd (spH7) := rfl
@[go_sem] theorem spH8_mu (t : TypeId) : spH8.mu t = Pm.Spec.mu (spH7) t := rfl
@[go_sem] theorem spH8_nf (t : TypeId) : spH8.nf t = Pm.Spec.nf (spH7) t := rfl
noncomputable def spH9 : Pm.Spec := spH8
theorem spH9_ok : SpecOk Tryd.prog spH9 := spH8_ok
@[go_sem] theorem spH9_p (f : FuncId) (xs : List TV) : spH9.p f xs = Pm.Spec.p (spH8) f xs := rfl
@[go_sem] theorem spH9_h (f : FuncId) (ps : List PV) (hl : List PO) : spH9.h f ps hl = Pm.Spec.h (spH8) f ps hl := rfl
@[go_sem] theorem spH9_y (Y : Pm.YS) (f : FuncId) (ps : List PV) (hl : List PO) : spH9.y Y f ps hl = Pm.Spec.y (spH8) Y f ps hl := rfl
@[go_sem] theorem spH9_fz (f : FuncId) : spH9.fz f = Pm.Spec.fz (spH8) f := rfl
@[go_sem] theorem spH9_fr (f : FuncId) : spH9.fr f = Pm.Spec.fr (spH8) f := rfl
@[go_sem] theorem spH9_yf (f : FuncId) : spH9.yf f = Pm.Spec.yf (spH8) f := rfl
@[go_sem] theorem spH9_gd : spH9.gd = Pm.Spec.gd (spH8) := rfl
@[go_sem] theorem spH9_mu (t : TypeId) : spH9.mu t = Pm.Spec.mu (spH8) t := rfl
@[go_sem] theorem spH9_nf (t : TypeId) : spH9.nf t = Pm.Spec.nf (spH8) t := rfl
noncomputable def spH10 : Pm.Spec := spH9
theorem spH10_ok : SpecOk Tryd.prog spH10 := spH9_ok
@[go_sem] theorem spH10_p (f : FuncId) (xs : List TV) : spH10.p f xs = Pm.Spec.p (spH9) f xs := rfl
@[go_sem] theorem spH10_h (f : FuncId) (ps : List PV) (hl : List PO) : spH10.h f ps hl = Pm.Spec.h (spH9) f ps hl := rfl
@[go_sem] theorem spH10_y (Y : Pm.YS) (f : FuncId) (ps : List PV) (hl : List PO) : spH10.y Y f ps hl = Pm.Spec.y (spH9) Y f ps hl := rfl
@[go_sem] theorem spH10_fz (f : FuncId) : spH10.fz f = Pm.Spec.fz (spH9) f := rfl
@[go_sem] theorem spH10_fr (f : FuncId) : spH10.fr f = Pm.Spec.fr (spH9) f := rfl
@[go_sem] theorem spH10_yf (f : FuncId) : spH10.yf f = Pm.Spec.yf (spH9) f := rfl
@[go_sem] theorem spH10_gd : spH10.gd = Pm.Spec.gd (spH9) := rfl
@[go_sem] theorem spH10_mu (t : TypeId) : spH10.mu t = Pm.Spec.mu (spH9) t := rfl
@[go_sem] theorem spH10_nf (t : TypeId) : spH10.nf t = Pm.Spec.nf (spH9) t := rfl
theorem hSame_c {a b : List Int} {s t : TV} (hs : IsRow ic s a) (ht : IsRow ic t b) (ha : a.length ≤ 9223372036854775806) : PCalls Tryd.prog 21 [s, t] (.bool (decide (a = b))) := by
  refine pcalls_by Tryd.mixes noSpec_ok (fn := Tryd.f21) Tryd.func21 rfl (by kernel_rfl) (by show 2 ≤ _; decide) ?_
  by_cases hl : a.length = b.length
  · by_cases h0 : a.length = 0
    · have ea : a = [] := List.length_eq_zero_iff.1 h0
      have eb : b = [] := List.length_eq_zero_iff.1 (by omega)
      subst ea; subst eb
      rcases hs with ⟨rfl, _⟩ | ⟨f1, rfl⟩ <;> rcases ht with ⟨rfl, _⟩ | ⟨f2, rfl⟩
      all_goals
        simp (decide := true) (maxSteps := 4000000) only [go_sem, Nat.reduceAdd, Nat.reduceSub, Nat.reduceMul, Nat.reduceDiv, Nat.reduceMod, Nat.reduceLT, Nat.reduceLeDiff, Nat.reduceEqDiff, Nat.reduceBEq, Nat.reduceBNe, Nat.reduceGT, Int.reduceAdd, Int.reduceSub, Int.reduceMul, Int.reduceNeg, Int.reduceLT, Int.reduceLE, Int.reduceEq, Int.reduceNe, Int.reduceBEq, Int.reduceBNe, Int.reduceToNat, Int.reduceGT, Int.reduceGE, ↓reduceIte, decide_true, decide_false, eq_self, Nat.mul_one, Nat.zero_mul, Nat.one_mul, Int.le_refl, Nat.le_refl, Int.cast_ofNat_Int, Tryd.f21, List.length_nil, bne_self_eq_false]
        refine pwpC_loopU (A := Unit) [0, 1] (fun _ => [(5, .t (.int .i64 0))]) (fun _ => []) (fun _ => 0) () (by decide) (fun _ => by rfl) ?_ fun Q1 hQ1 _ I1 hI1 => ?_
        · simp (decide := true) (maxSteps := 4000000) only [go_sem, Nat.reduceAdd, Nat.reduceSub, Nat.reduceMul, Nat.reduceDiv, Nat.reduceMod, Nat.reduceLT, Nat.reduceLeDiff, Nat.reduceEqDiff, Nat.reduceBEq, Nat.reduceBNe, Nat.reduceGT, Int.reduceAdd, Int.reduceSub, Int.reduceMul, Int.reduceNeg, Int.reduceLT, Int.reduceLE, Int.reduceEq, Int.reduceNe, Int.reduceBEq, Int.reduceBNe, Int.reduceToNat, Int.reduceGT, Int.reduceGE, ↓reduceIte, decide_true, decide_false, eq_self, Nat.mul_one, Nat.zero_mul, Nat.one_mul, Int.le_refl, Nat.le_refl, Int.cast_ofNat_Int]
        · simp (decide := true) (maxSteps := 4000000) only [go_sem, Nat.reduceAdd, Nat.reduceSub, Nat.reduceMul, Nat.reduceDiv, Nat.reduceMod, Nat.reduceLT, Nat.reduceLeDiff, Nat.reduceEqDiff, Nat.reduceBEq, Nat.reduceBNe, Nat.reduceGT, Int.reduceAdd, Int.reduceSub, Int.reduceMul, Int.reduceNeg, Int.reduceLT, Int.reduceLE, Int.reduceEq, Int.reduceNe, Int.reduceBEq, Int.reduceBNe, Int.reduceToNat, Int.reduceGT, Int.reduceGE, ↓reduceIte, decide_true, decide_false, eq_self, Nat.mul_one, Nat.zero_mul, Nat.one_mul, Int.le_refl, Nat.le_refl, Int.cast_ofNat_Int, List.length_nil]
          refine hQ1 _ _ ?_
          simp (decide := true) (maxSteps := 4000000) only [go_sem, Nat.reduceAdd, Nat.reduceSub, Nat.reduceMul, Nat.reduceDiv, Nat.reduceMod, Nat.reduceLT, Nat.reduceLeDiff, Nat.reduceEqDiff, Nat.reduceBEq, Nat.reduceBNe, Nat.reduceGT, Int.reduceAdd, Int.reduceSub, Int.reduceMul, Int.reduceNeg, Int.reduceLT, Int.reduceLE, Int.reduceEq, Int.reduceNe, Int.reduceBEq, Int.reduceBNe, Int.reduceToNat, Int.reduceGT, Int.reduceGE, ↓reduceIte, decide_true, decide_false, eq_self, Nat.mul_one, Nat.zero_mul, Nat.one_mul, Int.le_refl, Nat.le_refl, Int.cast_ofNat_Int]
    · obtain ⟨f1, rfl⟩ := hs.ne (by omega)
      obtain ⟨f2, rfl⟩ := ht.ne (by omega)
      rw [ic_ints, ic_ints]
      have hl' : ((a.length : Int) != (b.length : Int)) = false := bne_int_f (by omega)
      simp (decide := true) (maxSteps := 4000000) only [go_sem, Nat.reduceAdd, Nat.reduceSub, Nat.reduceMul, Nat.reduceDiv, Nat.reduceMod, Nat.reduceLT, Nat.reduceLeDiff, Nat.reduceEqDiff, Nat.reduceBEq, Nat.reduceBNe, Nat.reduceGT, Int.reduceAdd, Int.reduceSub, Int.reduceMul, Int.reduceNeg, Int.reduceLT, Int.reduceLE, Int.reduceEq, Int.reduceNe, Int.reduceBEq, Int.reduceBNe, Int.reduceToNat, Int.reduceGT, Int.reduceGE, ↓reduceIte, decide_true, decide_false, eq_self, Nat.mul_one, Nat.zero_mul, Nat.one_mul, Int.le_refl, Nat.le_refl, Int.cast_ofNat_Int, Tryd.f21, hl']
      refine pwpC_loopU (A := { k : Nat // a.take k = b.take k ∧ k ≤ a.length }) [0, 1] (fun k => [(5, .t (.int .i64 k.1))]) (fun k => []) (fun k => a.length - k.1) ⟨0, by simp⟩ (by decide) (fun _ => by rfl) ?_ fun Q1 hQ1 ⟨k, hk, hka⟩ I1 hI1 => ?_
      · simp (decide := true) (maxSteps := 4000000) only [go_sem, Nat.reduceAdd, Nat.reduceSub, Nat.reduceMul, Nat.reduceDiv, Nat.reduceMod, Nat.reduceLT, Nat.reduceLeDiff, Nat.reduceEqDiff, Nat.reduceBEq, Nat.reduceBNe, Nat.reduceGT, Int.reduceAdd, Int.reduceSub, Int.reduceMul, Int.reduceNeg, Int.reduceLT, Int.reduceLE, Int.reduceEq, Int.reduceNe, Int.reduceBEq, Int.reduceBNe, Int.reduceToNat, Int.reduceGT, Int.reduceGE, ↓reduceIte, decide_true, decide_false, eq_self, Nat.mul_one, Nat.zero_mul, Nat.one_mul, Int.le_refl, Nat.le_refl, Int.cast_ofNat_Int]
      · by_cases hlt : (k : Int) < a.length
        · have hltb : (k : Int) < b.length := by omega
          obtain ⟨x, hx⟩ := get_lt hlt
          obtain ⟨y, hy⟩ := get_lt hltb
          have d1 := ints_at hx
          have d2 := ints_at hy
          rw [Nat.mul_one] at d1 d2
          have hc1 : IntKind.i64.wrap (k + 1) = ((k + 1 : Nat) : Int) := by rw [wrap_in (by omega) (by omega)]; omega
          by_cases hxy : x = y
          · subst hxy
            simp (decide := true) (maxSteps := 4000000) only [go_sem, Nat.reduceAdd, Nat.reduceSub, Nat.reduceMul, Nat.reduceDiv, Nat.reduceMod, Nat.reduceLT, Nat.reduceLeDiff, Nat.reduceEqDiff, Nat.reduceBEq, Nat.reduceBNe, Nat.reduceGT, Int.reduceAdd, Int.reduceSub, Int.reduceMul, Int.reduceNeg, Int.reduceLT, Int.reduceLE, Int.reduceEq, Int.reduceNe, Int.reduceBEq, Int.reduceBNe, Int.reduceToNat, Int.reduceGT, Int.reduceGE, ↓reduceIte, decide_true, decide_false, eq_self, Nat.mul_one, Nat.zero_mul, Nat.one_mul, Int.le_refl, Nat.le_refl, Int.cast_ofNat_Int, hlt, hltb, d1, d2, bne_self_eq_false]
            refine hI1 _ ⟨k + 1, by rw [take_snoc hx, take_snoc hy, hk], by omega⟩ (by simp only; omega) ?_
            simp (decide := true) (maxSteps := 4000000) only [go_sem, Nat.reduceAdd, Nat.reduceSub, Nat.reduceMul, Nat.reduceDiv, Nat.reduceMod, Nat.reduceLT, Nat.reduceLeDiff, Nat.reduceEqDiff, Nat.reduceBEq, Nat.reduceBNe, Nat.reduceGT, Int.reduceAdd, Int.reduceSub, Int.reduceMul, Int.reduceNeg, Int.reduceLT, Int.reduceLE, Int.reduceEq, Int.reduceNe, Int.reduceBEq, Int.reduceBNe, Int.reduceToNat, Int.reduceGT, Int.reduceGE, ↓reduceIte, decide_true, decide_false, eq_self, Nat.mul_one, Nat.zero_mul, Nat.one_mul, Int.le_refl, Nat.le_refl, Int.cast_ofNat_Int, hc1]
          · have hb : (x != y) = true := bne_int_t hxy
            simp (decide := true) (maxSteps := 4000000) only [go_sem, Nat.reduceAdd, Nat.reduceSub, Nat.reduceMul, Nat.reduceDiv, Nat.reduceMod, Nat.reduceLT, Nat.reduceLeDiff, Nat.reduceEqDiff, Nat.reduceBEq, Nat.reduceBNe, Nat.reduceGT, Int.reduceAdd, Int.reduceSub, Int.reduceMul, Int.reduceNeg, Int.reduceLT, Int.reduceLE, Int.reduceEq, Int.reduceNe, Int.reduceBEq, Int.reduceBNe, Int.reduceToNat, Int.reduceGT, Int.reduceGE, ↓reduceIte, decide_true, decide_false, eq_self, Nat.mul_one, Nat.zero_mul, Nat.one_mul, Int.le_refl, Nat.le_refl, Int.cast_ofNat_Int, hlt, hltb, d1, d2, hb]
            refine hQ1 _ _ ?_
            have : decide (a = b) = false := by
              rw [decide_eq_false_iff_not]
              rintro rfl
              rw [hx] at hy; cases hy; exact hxy rfl
            simp (decide := true) (maxSteps := 4000000) only [go_sem, Nat.reduceAdd, Nat.reduceSub, Nat.reduceMul, Nat.reduceDiv, Nat.reduceMod, Nat.reduceLT, Nat.reduceLeDiff, Nat.reduceEqDiff, Nat.reduceBEq, Nat.reduceBNe, Nat.reduceGT, Int.reduceAdd, Int.reduceSub, Int.reduceMul, Int.reduceNeg, Int.reduceLT, Int.reduceLE, Int.reduceEq, Int.reduceNe, Int.reduceBEq, Int.reduceBNe, Int.reduceToNat, Int.reduceGT, Int.reduceGE, ↓reduceIte, decide_true, decide_false, eq_self, Nat.mul_one, Nat.zero_mul, Nat.one_mul, Int.le_refl, Nat.le_refl, Int.cast_ofNat_Int, this]
        · have hke : k = a.length := by omega
          subst hke
          simp (decide := true) (maxSteps := 4000000) only [go_sem, Nat.reduceAdd, Nat.reduceSub, Nat.reduceMul, Nat.reduceDiv, Nat.reduceMod, Nat.reduceLT, Nat.reduceLeDiff, Nat.reduceEqDiff, Nat.reduceBEq, Nat.reduceBNe, Nat.reduceGT, Int.reduceAdd, Int.reduceSub, Int.reduceMul, Int.reduceNeg, Int.reduceLT, Int.reduceLE, Int.reduceEq, Int.reduceNe, Int.reduceBEq, Int.reduceBNe, Int.reduceToNat, Int.reduceGT, Int.reduceGE, ↓reduceIte, decide_true, decide_false, eq_self, Nat.mul_one, Nat.zero_mul, Nat.one_mul, Int.le_refl, Nat.le_refl, Int.cast_ofNat_Int, hlt]
          refine hQ1 _ _ ?_
          have : decide (a = b) = true := by
            rw [decide_eq_true_eq]
            rwa [List.take_length, List.take_of_length_le (by omega)] at hk
          simp (decide := true) (maxSteps := 4000000) only [go_sem, Nat.reduceAdd, Nat.reduceSub, Nat.reduceMul, Nat.reduceDiv, Nat.reduceMod, Nat.reduceLT, Nat.reduceLeDiff, Nat.reduceEqDiff, Nat.reduceBEq, Nat.reduceBNe, Nat.reduceGT, Int.reduceAdd, Int.reduceSub, Int.reduceMul, Int.reduceNeg, Int.reduceLT, Int.reduceLE, Int.reduceEq, Int.reduceNe, Int.reduceBEq, Int.reduceBNe, Int.reduceToNat, Int.reduceGT, Int.reduceGE, ↓reduceIte, decide_true, decide_false, eq_self, Nat.mul_one, Nat.zero_mul, Nat.one_mul, Int.le_refl, Nat.le_refl, Int.cast_ofNat_Int, this]
  · have hl' : ((a.length : Int) != (b.length : Int)) = true := bne_int_t (by omega)
    have hd : decide (a = b) = false := by
      rw [decide_eq_false_iff_not]
      rintro rfl; exact hl rfl
    rcases hs with ⟨rfl, rfl⟩ | ⟨f1, rfl⟩ <;> rcases ht with ⟨rfl, rfl⟩ | ⟨f2, rfl⟩
    · exact absurd rfl hl
    all_goals
      try simp only [List.length_nil, Int.cast_ofNat_Int] at hl'
      simp (decide := true) (maxSteps := 4000000) only [go_sem, Nat.reduceAdd, Nat.reduceSub, Nat.reduceMul, Nat.reduceDiv, Nat.reduceMod, Nat.reduceLT, Nat.reduceLeDiff, Nat.reduceEqDiff, Nat.reduceBEq, Nat.reduceBNe, Nat.reduceGT, Int.reduceAdd, Int.reduceSub, Int.reduceMul, Int.reduceNeg, Int.reduceLT, Int.reduceLE, Int.reduceEq, Int.reduceNe, Int.reduceBEq, Int.reduceBNe, Int.reduceToNat, Int.reduceGT, Int.reduceGE, ↓reduceIte, decide_true, decide_false, eq_self, Nat.mul_one, Nat.zero_mul, Nat.one_mul, Int.le_refl, Nat.le_refl, Int.cast_ofNat_Int, Tryd.f21, hl', hd]
noncomputable def hgSame : List TV → Option TV
  | [s, t] => match rowL unI s, rowL unI t with
    | some a, some b => if a.length ≤ 9223372036854775806 then some (.bool (decide (a = b))) else none
    | _, _ => none
  | _ => none
theorem hgSame_ok : ∀ xs r, hgSame xs = some r → PCalls Tryd.prog 21 xs r := by
  intro xs r h
  unfold hgSame at h
  split at h
  · split at h
    · rename_i a b ha hb
      split at h
      · rename_i hc; cases h
        exact hSame_c (rowL_some (un := unI) unI_nil (@unI_some) ha) (rowL_some (un := unI) unI_nil (@unI_some) hb) hc
      · cases h
    · cases h
  · cases h
noncomputable def spH11 : Pm.Spec := spH10.one 21 hgSame
theorem spH11_ok : SpecOk Tryd.prog spH11 := Spec.one_ok hgSame_ok spH10_ok
attribute [go_sem] hgSame
@[go_sem] theorem spH11_p (f : FuncId) (xs : List TV) : spH11.p f xs = Pm.Spec.p (spH10.one 21 hgSame) f xs := rfl
@[go_sem] theorem spH11_h (f : FuncId) (ps : List PV) (hl : List PO) : spH11.h f ps hl = Pm.Spec.h (spH10.one 21 hgSame) f ps hl := rfl
@[go_sem] theorem spH11_y (Y : Pm.YS) (f : FuncId) (ps : List PV) (hl : List PO) : spH11.y Y f ps hl = Pm.Spec.y (spH10.one 21 hgSame) Y f ps hl := rfl
@[go_sem] theorem spH11_fz (f : FuncId) : spH11.fz f = Pm.Spec.fz (spH10.one 21 hgSame) f := rfl
@[go_sem] theorem spH11_fr (f : FuncId) : spH11.fr f = Pm.Spec.fr (spH10.one 21 hgSame) f := rfl
@[go_sem] theorem spH11_yf (f : FuncId) : spH11.yf f = Pm.Spec.yf (spH10.one 21 hgSame) f := rfl
@[go_sem] theorem spH11_gd : spH11.gd = Pm.Spec.gd (spH10.one 21 hgSame) := rfl
@[go_sem] theorem spH11_mu (t : TypeId) : spH11.mu t = Pm.Spec.mu (spH10.one 21 hgSame) t := rfl
@[go_sem] theorem spH11_nf (t : TypeId) : spH11.nf t = Pm.Spec.nf (spH10.one 21 hgSame) t := rfl
theorem hSameSpans_c {a b : List Span} {s t : TV} (hs : IsRow Span.cs s a) (ht : IsRow Span.cs t b) (ha : a.length ≤ 9223372036854775806) : PCalls Tryd.prog 70 [s, t] (.bool (decide (a = b))) := by
  refine pcalls_by Tryd.mixes noSpec_ok (fn := Tryd.f70) Tryd.func70 rfl (by kernel_rfl) (by show 2 ≤ _; decide) ?_
  by_cases hl : a.length = b.length
  · by_cases h0 : a.length = 0
    · have ea : a = [] := List.length_eq_zero_iff.1 h0
      have eb : b = [] := List.length_eq_zero_iff.1 (by omega)
      subst ea; subst eb
      rcases hs with ⟨rfl, _⟩ | ⟨f1, rfl⟩ <;> rcases ht with ⟨rfl, _⟩ | ⟨f2, rfl⟩
      all_goals
        simp (decide := true) (maxSteps := 4000000) only [go_sem, Nat.reduceAdd, Nat.reduceSub, Nat.reduceMul, Nat.reduceDiv, Nat.reduceMod, Nat.reduceLT, Nat.reduceLeDiff, Nat.reduceEqDiff, Nat.reduceBEq, Nat.reduceBNe, Nat.reduceGT, Int.reduceAdd, Int.reduceSub, Int.reduceMul, Int.reduceNeg, Int.reduceLT, Int.reduceLE, Int.reduceEq, Int.reduceNe, Int.reduceBEq, Int.reduceBNe, Int.reduceToNat, Int.reduceGT, Int.reduceGE, ↓reduceIte, decide_true, decide_false, eq_self, Nat.mul_one, Nat.zero_mul, Nat.one_mul, Int.le_refl, Nat.le_refl, Int.cast_ofNat_Int, Tryd.f70, List.length_nil, bne_self_eq_false]
        refine pwpC_loopU (A := Unit) [0, 1] (fun _ => [(5, .t (.int .i64 0))]) (fun _ => []) (fun _ => 0) () (by decide) (fun _ => by rfl) ?_ fun Q1 hQ1 _ I1 hI1 => ?_
        · simp (decide := true) (maxSteps := 4000000) only [go_sem, Nat.reduceAdd, Nat.reduceSub, Nat.reduceMul, Nat.reduceDiv, Nat.reduceMod, Nat.reduceLT, Nat.reduceLeDiff, Nat.reduceEqDiff, Nat.reduceBEq, Nat.reduceBNe, Nat.reduceGT, Int.reduceAdd, Int.reduceSub, Int.reduceMul, Int.reduceNeg, Int.reduceLT, Int.reduceLE, Int.reduceEq, Int.reduceNe, Int.reduceBEq, Int.reduceBNe, Int.reduceToNat, Int.reduceGT, Int.reduceGE, ↓reduceIte, decide_true, decide_false, eq_self, Nat.mul_one, Nat.zero_mul, Nat.one_mul, Int.le_refl, Nat.le_refl, Int.cast_ofNat_Int]
        · simp (decide := true) (maxSteps := 4000000) only [go_sem, Nat.reduceAdd, Nat.reduceSub, Nat.reduceMul, Nat.reduceDiv, Nat.reduceMod, Nat.reduceLT, Nat.reduceLeDiff, Nat.reduceEqDiff, Nat.reduceBEq, Nat.reduceBNe, Nat.reduceGT, Int.reduceAdd, Int.reduceSub, Int.reduceMul, Int.reduceNeg, Int.reduceLT, Int.reduceLE, Int.reduceEq, Int.reduceNe, Int.reduceBEq, Int.reduceBNe, Int.reduceToNat, Int.reduceGT, Int.reduceGE, ↓reduceIte, decide_true, decide_false, eq_self, Nat.mul_one, Nat.zero_mul, Nat.one_mul, Int.le_refl, Nat.le_refl, Int.cast_ofNat_Int, List.length_nil]
          refine hQ1 _ _ ?_
          simp (decide := true) (maxSteps := 4000000) only [go_sem, Nat.reduceAdd, Nat.reduceSub, Nat.reduceMul, Nat.reduceDiv, Nat.reduceMod, Nat.reduceLT, Nat.reduceLeDiff, Nat.reduceEqDiff, Nat.reduceBEq, Nat.reduceBNe, Nat.reduceGT, Int.reduceAdd, Int.reduceSub, Int.reduceMul, Int.reduceNeg, Int.reduceLT, Int.reduceLE, Int.reduceEq, Int.reduceNe, Int.reduceBEq, Int.reduceBNe, Int.reduceToNat, Int.reduceGT, Int.reduceGE, ↓reduceIte, decide_true, decide_false, eq_self, Nat.mul_one, Nat.zero_mul, Nat.one_mul, Int.le_refl, Nat.le_refl, Int.cast_ofNat_Int]
    · obtain ⟨f1, rfl⟩ := hs.ne (by omega)
      obtain ⟨f2, rfl⟩ := ht.ne (by omega)
      have hl' : ((a.length : Int) != (b.length : Int)) = false := bne_int_f (by omega)
      simp (decide := true) (maxSteps := 4000000) only [go_sem, Nat.reduceAdd, Nat.reduceSub, Nat.reduceMul, Nat.reduceDiv, Nat.reduceMod, Nat.reduceLT, Nat.reduceLeDiff, Nat.reduceEqDiff, Nat.reduceBEq, Nat.reduceBNe, Nat.reduceGT, Int.reduceAdd, Int.reduceSub, Int.reduceMul, Int.reduceNeg, Int.reduceLT, Int.reduceLE, Int.reduceEq, Int.reduceNe, Int.reduceBEq, Int.reduceBNe, Int.reduceToNat, Int.reduceGT, Int.reduceGE, ↓reduceIte, decide_true, decide_false, eq_self, Nat.mul_one, Nat.zero_mul, Nat.one_mul, Int.le_refl, Nat.le_refl, Int.cast_ofNat_Int, Tryd.f70, hl']
      refine pwpC_loopU (A := { k : Nat // a.take k = b.take k ∧ k ≤ a.length }) [0, 1] (fun k => [(5, .t (.int .i64 k.1))]) (fun _ => []) (fun k => a.length - k.1) ⟨0, by simp⟩ (by decide) (fun _ => by rfl) ?_ fun Q1 hQ1 ⟨k, hk, hka⟩ I1 hI1 => ?_
      · simp (decide := true) (maxSteps := 4000000) only [go_sem, Nat.reduceAdd, Nat.reduceSub, Nat.reduceMul, Nat.reduceDiv, Nat.reduceMod, Nat.reduceLT, Nat.reduceLeDiff, Nat.reduceEqDiff, Nat.reduceBEq, Nat.reduceBNe, Nat.reduceGT, Int.reduceAdd, Int.reduceSub, Int.reduceMul, Int.reduceNeg, Int.reduceLT, Int.reduceLE, Int.reduceEq, Int.reduceNe, Int.reduceBEq, Int.reduceBNe, Int.reduceToNat, Int.reduceGT, Int.reduceGE, ↓reduceIte, decide_true, decide_false, eq_self, Nat.mul_one, Nat.zero_mul, Nat.one_mul, Int.le_refl, Nat.le_refl, Int.cast_ofNat_Int]
      · by_cases hlt : (k : Int) < a.length
        · have hltb : (k : Int) < b.length := by omega
          obtain ⟨x, hx⟩ := get_lt hlt
          obtain ⟨y, hy⟩ := get_lt hltb
          have d1 := flat_at Span.cs (n := 2) (fun _ => rfl) hx
          have d2 := flat_at Span.cs (n := 2) (fun _ => rfl) hy
          have hc1 : IntKind.i64.wrap (k + 1) = ((k + 1 : Nat) : Int) := by rw [wrap_in (by omega) (by omega)]; omega
          obtain ⟨x0, x1⟩ := x
          obtain ⟨y0, y1⟩ := y
          by_cases hxy : x0 = y0 ∧ x1 = y1
          · obtain ⟨rfl, rfl⟩ := hxy
            simp (decide := true) (maxSteps := 4000000) only [go_sem, Nat.reduceAdd, Nat.reduceSub, Nat.reduceMul, Nat.reduceDiv, Nat.reduceMod, Nat.reduceLT, Nat.reduceLeDiff, Nat.reduceEqDiff, Nat.reduceBEq, Nat.reduceBNe, Nat.reduceGT, Int.reduceAdd, Int.reduceSub, Int.reduceMul, Int.reduceNeg, Int.reduceLT, Int.reduceLE, Int.reduceEq, Int.reduceNe, Int.reduceBEq, Int.reduceBNe, Int.reduceToNat, Int.reduceGT, Int.reduceGE, ↓reduceIte, decide_true, decide_false, eq_self, Nat.mul_one, Nat.zero_mul, Nat.one_mul, Int.le_refl, Nat.le_refl, Int.cast_ofNat_Int, hlt, hltb, d1, d2, Span.cs, beq_self_eq_true]
            refine hI1 _ ⟨k + 1, by rw [take_snoc hx, take_snoc hy, hk], by omega⟩ (by simp only; omega) ?_
            simp (decide := true) (maxSteps := 4000000) only [go_sem, Nat.reduceAdd, Nat.reduceSub, Nat.reduceMul, Nat.reduceDiv, Nat.reduceMod, Nat.reduceLT, Nat.reduceLeDiff, Nat.reduceEqDiff, Nat.reduceBEq, Nat.reduceBNe, Nat.reduceGT, Int.reduceAdd, Int.reduceSub, Int.reduceMul, Int.reduceNeg, Int.reduceLT, Int.reduceLE, Int.reduceEq, Int.reduceNe, Int.reduceBEq, Int.reduceBNe, Int.reduceToNat, Int.reduceGT, Int.reduceGE, ↓reduceIte, decide_true, decide_false, eq_self, Nat.mul_one, Nat.zero_mul, Nat.one_mul, Int.le_refl, Nat.le_refl, Int.cast_ofNat_Int, hc1]
          · have hb : (x0 == y0 && x1 == y1) = false := by simpa using hxy
            simp (decide := true) (maxSteps := 4000000) only [go_sem, Nat.reduceAdd, Nat.reduceSub, Nat.reduceMul, Nat.reduceDiv, Nat.reduceMod, Nat.reduceLT, Nat.reduceLeDiff, Nat.reduceEqDiff, Nat.reduceBEq, Nat.reduceBNe, Nat.reduceGT, Int.reduceAdd, Int.reduceSub, Int.reduceMul, Int.reduceNeg, Int.reduceLT, Int.reduceLE, Int.reduceEq, Int.reduceNe, Int.reduceBEq, Int.reduceBNe, Int.reduceToNat, Int.reduceGT, Int.reduceGE, ↓reduceIte, decide_true, decide_false, eq_self, Nat.mul_one, Nat.zero_mul, Nat.one_mul, Int.le_refl, Nat.le_refl, Int.cast_ofNat_Int, hlt, hltb, d1, d2, Span.cs, hb]
            refine hQ1 _ _ ?_
            have : decide (a = b) = false := by
              rw [decide_eq_false_iff_not]
              rintro rfl
              rw [hx] at hy; cases hy; exact hxy ⟨rfl, rfl⟩
            simp (decide := true) (maxSteps := 4000000) only [go_sem, Nat.reduceAdd, Nat.reduceSub, Nat.reduceMul, Nat.reduceDiv, Nat.reduceMod, Nat.reduceLT, Nat.reduceLeDiff, Nat.reduceEqDiff, Nat.reduceBEq, Nat.reduceBNe, Nat.reduceGT, Int.reduceAdd, Int.reduceSub, Int.reduceMul, Int.reduceNeg, Int.reduceLT, Int.reduceLE, Int.reduceEq, Int.reduceNe, Int.reduceBEq, Int.reduceBNe, Int.reduceToNat, Int.reduceGT, Int.reduceGE, ↓reduceIte, decide_true, decide_false, eq_self, Nat.mul_one, Nat.zero_mul, Nat.one_mul, Int.le_refl, Nat.le_refl, Int.cast_ofNat_Int, this]
        · have hke : k = a.length := by omega
          subst hke
          simp (decide := true) (maxSteps := 4000000) only [go_sem, Nat.reduceAdd, Nat.reduceSub, Nat.reduceMul, Nat.reduceDiv, Nat.reduceMod, Nat.reduceLT, Nat.reduceLeDiff, Nat.reduceEqDiff, Nat.reduceBEq, Nat.reduceBNe, Nat.reduceGT, Int.reduceAdd, Int.reduceSub, Int.reduceMul, Int.reduceNeg, Int.reduceLT, Int.reduceLE, Int.reduceEq, Int.reduceNe, Int.reduceBEq, Int.reduceBNe, Int.reduceToNat, Int.reduceGT, Int.reduceGE, ↓reduceIte, decide_true, decide_false, eq_self, Nat.mul_one, Nat.zero_mul, Nat.one_mul, Int.le_refl, Nat.le_refl, Int.cast_ofNat_Int, hlt]
          refine hQ1 _ _ ?_
          have : decide (a = b) = true := by
            rw [decide_eq_true_eq]
            rwa [List.take_length, List.take_of_length_le (by omega)] at hk
          simp (decide := true) (maxSteps := 4000000) only [go_sem, Nat.reduceAdd, Nat.reduceSub, Nat.reduceMul, Nat.reduceDiv, Nat.reduceMod, Nat.reduceLT, Nat.reduceLeDiff, Nat.reduceEqDiff, Nat.reduceBEq, Nat.reduceBNe, Nat.reduceGT, Int.reduceAdd, Int.reduceSub, Int.reduceMul, Int.reduceNeg, Int.reduceLT, Int.reduceLE, Int.reduceEq, Int.reduceNe, Int.reduceBEq, Int.reduceBNe, Int.reduceToNat, Int.reduceGT, Int.reduceGE, ↓reduceIte, decide_true, decide_false, eq_self, Nat.mul_one, Nat.zero_mul, Nat.one_mul, Int.le_refl, Nat.le_refl, Int.cast_ofNat_Int, this]
  · have hl' : ((a.length : Int) != (b.length : Int)) = true := bne_int_t (by omega)
    have hd : decide (a = b) = false := by
      rw [decide_eq_false_iff_not]
      rintro rfl; exact hl rfl
    rcases hs with ⟨rfl, rfl⟩ | ⟨f1, rfl⟩ <;> rcases ht with ⟨rfl, rfl⟩ | ⟨f2, rfl⟩
    · exact absurd rfl hl
    all_goals
      try simp only [List.length_nil, Int.cast_ofNat_Int] at hl'
      simp (decide := true) (maxSteps := 4000000) only [go_sem, Nat.reduceAdd, Nat.reduceSub, Nat.reduceMul, Nat.reduceDiv, Nat.reduceMod, Nat.reduceLT, Nat.reduceLeDiff, Nat.reduceEqDiff, Nat.reduceBEq, Nat.reduceBNe, Nat.reduceGT, Int.reduceAdd, Int.reduceSub, Int.reduceMul, Int.reduceNeg, Int.reduceLT, Int.reduceLE, Int.reduceEq, Int.reduceNe, Int.reduceBEq, Int.reduceBNe, Int.reduceToNat, Int.reduceGT, Int.reduceGE, ↓reduceIte, decide_true, decide_false, eq_self, Nat.mul_one, Nat.zero_mul, Nat.one_mul, Int.le_refl, Nat.le_refl, Int.cast_ofNat_Int, Tryd.f70, hl', hd]
noncomputable def hgSameSpans : List TV → Option TV
  | [s, t] => match rowL unS s, rowL unS t with
    | some a, some b => if a.length ≤ 9223372036854775806 then some (.bool (decide (a = b))) else none
    | _, _ => none
  | _ => none
theorem hgSameSpans_ok : ∀ xs r, hgSameSpans xs = some r → PCalls Tryd.prog 70 xs r := by
  intro xs r h
  unfold hgSameSpans at h
  split at h
  · split at h
    · rename_i a b ha hb
      split at h
      · rename_i hc; cases h
        exact hSameSpans_c (rowL_some (un := unS) unS_nil (@unS_some) ha) (rowL_some (un := unS) unS_nil (@unS_some) hb) hc
      · cases h
    · cases h
  · cases h
noncomputable def spH12 : Pm.Spec := spH11.one 70 hgSameSpans
theorem spH12_ok : SpecOk Tryd.prog spH12 := Spec.one_ok hgSameSpans_ok spH11_ok
attribute [go_sem] hgSameSpans
@[go_sem] theorem spH12_p (f : FuncId) (xs : List TV) : spH12.p f xs = Pm.Spec.p (spH11.one 70 hgSameSpans) f xs := rfl
@[go_sem] theorem spH12_h (f : FuncId) (ps : List PV) (hl : List PO) : spH12.h f ps hl = Pm.Spec.h (spH11.one 70 hgSameSpans) f ps hl := rfl
@[go_sem] theorem spH12_y (Y : Pm.YS) (f : FuncId) (ps : List PV) (hl : List PO) : spH12.y Y f ps hl = Pm.Spec.y (spH11.one 70 hgSameSpans) Y f ps hl := rfl
@[go_sem] theorem spH12_fz (f : FuncId) : spH12.fz f = Pm.Spec.fz (spH11.one 70 hgSameSpans) f := rfl
@[go_sem] theorem spH12_fr (f : FuncId) : spH12.fr f = Pm.Spec.fr (spH11.one 70 hgSameSpans) f := rfl
@[go_sem] theorem spH12_yf (f : FuncId) : spH12.yf f = Pm.Spec.yf (spH11.one 70 hgSameSpans) f := rfl
@[go_sem] theorem spH12_gd : spH12.gd = Pm.Spec.gd (spH11.one 70 hgSameSpans) := rfl
@[go_sem] theorem spH12_mu (t : TypeId) : spH12.mu t = Pm.Spec.mu (spH11.one 70 hgSameSpans) t := rfl
@[go_sem] theorem spH12_nf (t : TypeId) : spH12.nf t = Pm.Spec.nf (spH11.one 70 hgSameSpans) t := rfl
theorem hPick_c {l : List Int} {s : TV} (hs : IsRow ic s l) (hl : l.length ≤ 9223372036854775806) (n : Int) : PCalls Tryd.prog 47 [s, .int .i64 n] (.int .i64 (pickI l n)) := by
  have hI := rowI_is hs
  refine pcalls_by Tryd.mixes spH12_ok (fn := Tryd.f47) Tryd.func47 rfl (by kernel_rfl) (by show 2 ≤ _; decide) ?_
  unfold pickI
  by_cases h0 : l.length = 0
  · have h0' : ((l.length : Int) == 0) = true := beq_int_t (by omega)
    rcases hs with ⟨rfl, rfl⟩ | ⟨full, rfl⟩ <;> simp (decide := true) (maxSteps := 4000000) only [go_sem, Nat.reduceAdd, Nat.reduceSub, Nat.reduceMul, Nat.reduceDiv, Nat.reduceMod, Nat.reduceLT, Nat.reduceLeDiff, Nat.reduceEqDiff, Nat.reduceBEq, Nat.reduceBNe, Nat.reduceGT, Int.reduceAdd, Int.reduceSub, Int.reduceMul, Int.reduceNeg, Int.reduceLT, Int.reduceLE, Int.reduceEq, Int.reduceNe, Int.reduceBEq, Int.reduceBNe, Int.reduceToNat, Int.reduceGT, Int.reduceGE, ↓reduceIte, decide_true, decide_false, eq_self, Nat.mul_one, Nat.zero_mul, Nat.one_mul, Int.le_refl, Nat.le_refl, Int.cast_ofNat_Int, Tryd.f47, h0, h0', List.length_nil]
  · have h0' : ((l.length : Int) == 0) = false := beq_int_f (by omega)
    obtain ⟨full, rfl⟩ := hs.ne (by omega)
    have hc : 0 < (l.length : Int) ∧ (l.length : Int) ≤ 9223372036854775807 := by omega
    have m1 := Int.emod_nonneg n (show (l.length : Int) ≠ 0 by omega)
    have m2 := Int.emod_lt_of_pos n (show 0 < (l.length : Int) by omega)
    obtain ⟨k, hk⟩ := Int.eq_ofNat_of_zero_le m1
    rw [hk] at m2
    obtain ⟨x, hx⟩ := get_lt m2
    have d := flat_at ic (n := 1) (fun _ => rfl) hx
    rw [Nat.mul_one] at d
    simp (decide := true) (maxSteps := 4000000) only [go_sem, Nat.reduceAdd, Nat.reduceSub, Nat.reduceMul, Nat.reduceDiv, Nat.reduceMod, Nat.reduceLT, Nat.reduceLeDiff, Nat.reduceEqDiff, Nat.reduceBEq, Nat.reduceBNe, Nat.reduceGT, Int.reduceAdd, Int.reduceSub, Int.reduceMul, Int.reduceNeg, Int.reduceLT, Int.reduceLE, Int.reduceEq, Int.reduceNe, Int.reduceBEq, Int.reduceBNe, Int.reduceToNat, Int.reduceGT, Int.reduceGE, ↓reduceIte, decide_true, decide_false, eq_self, Nat.mul_one, Nat.zero_mul, Nat.one_mul, Int.le_refl, Nat.le_refl, Int.cast_ofNat_Int, Tryd.f47, h0, h0', hc, hk, m2, d, ic, Int.toNat_natCast, nth_eq hx]
noncomputable def hgPick : List TV → Option TV
  | [s, .int .i64 n] => match rowL unI s with
    | some l => if l.length ≤ 9223372036854775806 then some (.int .i64 (pickI l n)) else none
    | none => none
  | _ => none
theorem hgPick_ok : ∀ xs r, hgPick xs = some r → PCalls Tryd.prog 47 xs r := by
  intro xs r h
  unfold hgPick at h
  split at h
  · split at h
    · rename_i l hl
      split at h
      · rename_i hc; cases h
        exact hPick_c (rowL_some (un := unI) unI_nil (@unI_some) hl) hc _
      · cases h
    · cases h
  · cases h
noncomputable def spH13 : Pm.Spec := spH12.one 47 hgPick
theorem spH13_ok : SpecOk Tryd.prog spH13 := Spec.one_ok hgPick_ok spH12_ok
attribute [go_sem] hgPick
@[go_sem] theorem spH13_p (f : FuncId) (xs : List TV) : spH13.p f xs = Pm.Spec.p (spH12.one 47 hgPick) f xs := rfl
@[go_sem] theorem spH13_h (f : FuncId) (ps : List PV) (hl : List PO) : spH13.h f ps hl = Pm.Spec.h (spH12.one 47 hgPick) f ps hl := rfl
@[go_sem] theorem spH13_y (Y : Pm.YS) (f : FuncId) (ps : List PV) (hl : List PO) : spH13.y Y f ps hl = Pm.Spec.y (spH12.one 47 hgPick) Y f ps hl := rfl
@[go_sem] theorem spH13_fz (f : FuncId) : spH13.fz f = Pm.Spec.fz (spH12.one 47 hgPick) f := rfl
@[go_sem] theorem spH13_fr (f : FuncId) : spH13.fr f = Pm.Spec.fr (spH12.one 47 hgPick) f := rfl
@[go_sem] theorem spH13_yf (f : FuncId) : spH13.yf f = Pm.Spec.yf (spH12.one 47 hgPick) f := rfl
@[go_sem] theorem spH13_gd : spH13.gd = Pm.Spec.gd (spH12.one 47 hgPick) := rfl
@[go_sem] theorem spH13_mu (t : TypeId) : spH13.mu t = Pm.Spec.mu (spH12.one 47 hgPick) t := rfl
@[go_sem] theorem spH13_nf (t : TypeId) : spH13.nf t = Pm.Spec.nf (spH12.one 47 hgPick) t := rfl
theorem hBefore_c (a b : List Int) (fa fb : Bool) (ha : a.length ≤ 9223372036854775806) (hb : b.length ≤ 9223372036854775806) : PCalls Tryd.prog 53 [.sl (ints a) a.length fa, .sl (ints b) b.length fb] (.bool (before a b)) := by
  refine pcalls_by Tryd.mixes noSpec_ok (fn := Tryd.f53) Tryd.func53 rfl (by kernel_rfl) (by show 2 ≤ _; decide) ?_
  simp (decide := true) (maxSteps := 4000000) only [go_sem, Nat.reduceAdd, Nat.reduceSub, Nat.reduceMul, Nat.reduceDiv, Nat.reduceMod, Nat.reduceLT, Nat.reduceLeDiff, Nat.reduceEqDiff, Nat.reduceBEq, Nat.reduceBNe, Nat.reduceGT, Int.reduceAdd, Int.reduceSub, Int.reduceMul, Int.reduceNeg, Int.reduceLT, Int.reduceLE, Int.reduceEq, Int.reduceNe, Int.reduceBEq, Int.reduceBNe, Int.reduceToNat, Int.reduceGT, Int.reduceGE, ↓reduceIte, decide_true, decide_false, eq_self, Nat.mul_one, Nat.zero_mul, Nat.one_mul, Int.le_refl, Nat.le_refl, Int.cast_ofNat_Int, Tryd.f53]
  refine pwpC_loopU (A := { k : Nat // k ≤ min a.length b.length ∧ before a b = before (a.drop k) (b.drop k) }) [0, 1] (fun k => [(5, .t (.int .i64 k.1))]) (fun k => []) (fun k => min a.length b.length - k.1) ⟨0, by omega, rfl⟩ (by decide) (fun _ => by rfl) ?_ fun Q1 hQ1 ⟨k, hk, hbf⟩ I1 hI1 => ?_
  · simp (decide := true) (maxSteps := 4000000) only [go_sem, Nat.reduceAdd, Nat.reduceSub, Nat.reduceMul, Nat.reduceDiv, Nat.reduceMod, Nat.reduceLT, Nat.reduceLeDiff, Nat.reduceEqDiff, Nat.reduceBEq, Nat.reduceBNe, Nat.reduceGT, Int.reduceAdd, Int.reduceSub, Int.reduceMul, Int.reduceNeg, Int.reduceLT, Int.reduceLE, Int.reduceEq, Int.reduceNe, Int.reduceBEq, Int.reduceBNe, Int.reduceToNat, Int.reduceGT, Int.reduceGE, ↓reduceIte, decide_true, decide_false, eq_self, Nat.mul_one, Nat.zero_mul, Nat.one_mul, Int.le_refl, Nat.le_refl, Int.cast_ofNat_Int]
  · by_cases hlt : (k : Int) < min (a.length : Int) b.length
    · have hc1 : IntKind.i64.wrap (k + 1) = ((k + 1 : Nat) : Int) := by rw [wrap_in (by omega) (by omega)]; omega
      have hka : (k : Int) < a.length := by omega
      have hkb : (k : Int) < b.length := by omega
      obtain ⟨x, hx⟩ := get_lt hka
      obtain ⟨y, hy⟩ := get_lt hkb
      have da : a.drop k = x :: a.drop (k + 1) := by rw [List.drop_eq_getElem_cons (by omega)]; rw [List.getElem?_eq_getElem (by omega)] at hx; cases hx; rfl
      have db : b.drop k = y :: b.drop (k + 1) := by rw [List.drop_eq_getElem_cons (by omega)]; rw [List.getElem?_eq_getElem (by omega)] at hy; cases hy; rfl
      have ia := ints_at hx
      have ib := ints_at hy
      rw [Nat.mul_one] at ia ib
      rw [da, db] at hbf
      simp only [before] at hbf
      by_cases h1 : x < y
      · rw [if_pos h1] at hbf
        simp (decide := true) (maxSteps := 4000000) only [go_sem, Nat.reduceAdd, Nat.reduceSub, Nat.reduceMul, Nat.reduceDiv, Nat.reduceMod, Nat.reduceLT, Nat.reduceLeDiff, Nat.reduceEqDiff, Nat.reduceBEq, Nat.reduceBNe, Nat.reduceGT, Int.reduceAdd, Int.reduceSub, Int.reduceMul, Int.reduceNeg, Int.reduceLT, Int.reduceLE, Int.reduceEq, Int.reduceNe, Int.reduceBEq, Int.reduceBNe, Int.reduceToNat, Int.reduceGT, Int.reduceGE, ↓reduceIte, decide_true, decide_false, eq_self, Nat.mul_one, Nat.zero_mul, Nat.one_mul, Int.le_refl, Nat.le_refl, Int.cast_ofNat_Int, hlt, hka, hkb, ia, ib, h1, hbf]
        try (refine hQ1 _ _ ?_; simp (decide := true) (maxSteps := 4000000) only [go_sem, Nat.reduceAdd, Nat.reduceSub, Nat.reduceMul, Nat.reduceDiv, Nat.reduceMod, Nat.reduceLT, Nat.reduceLeDiff, Nat.reduceEqDiff, Nat.reduceBEq, Nat.reduceBNe, Nat.reduceGT, Int.reduceAdd, Int.reduceSub, Int.reduceMul, Int.reduceNeg, Int.reduceLT, Int.reduceLE, Int.reduceEq, Int.reduceNe, Int.reduceBEq, Int.reduceBNe, Int.reduceToNat, Int.reduceGT, Int.reduceGE, ↓reduceIte, decide_true, decide_false, eq_self, Nat.mul_one, Nat.zero_mul, Nat.one_mul, Int.le_refl, Nat.le_refl, Int.cast_ofNat_Int, hbf])
      · rw [if_neg h1] at hbf
        by_cases h2 : y < x
        · rw [if_pos h2] at hbf
          have h2' : x > y := h2
          simp (decide := true) (maxSteps := 4000000) only [go_sem, Nat.reduceAdd, Nat.reduceSub, Nat.reduceMul, Nat.reduceDiv, Nat.reduceMod, Nat.reduceLT, Nat.reduceLeDiff, Nat.reduceEqDiff, Nat.reduceBEq, Nat.reduceBNe, Nat.reduceGT, Int.reduceAdd, Int.reduceSub, Int.reduceMul, Int.reduceNeg, Int.reduceLT, Int.reduceLE, Int.reduceEq, Int.reduceNe, Int.reduceBEq, Int.reduceBNe, Int.reduceToNat, Int.reduceGT, Int.reduceGE, ↓reduceIte, decide_true, decide_false, eq_self, Nat.mul_one, Nat.zero_mul, Nat.one_mul, Int.le_refl, Nat.le_refl, Int.cast_ofNat_Int, hlt, hka, hkb, ia, ib, h1, h2', hbf]
          try (refine hQ1 _ _ ?_; simp (decide := true) (maxSteps := 4000000) only [go_sem, Nat.reduceAdd, Nat.reduceSub, Nat.reduceMul, Nat.reduceDiv, Nat.reduceMod, Nat.reduceLT, Nat.reduceLeDiff, Nat.reduceEqDiff, Nat.reduceBEq, Nat.reduceBNe, Nat.reduceGT, Int.reduceAdd, Int.reduceSub, Int.reduceMul, Int.reduceNeg, Int.reduceLT, Int.reduceLE, Int.reduceEq, Int.reduceNe, Int.reduceBEq, Int.reduceBNe, Int.reduceToNat, Int.reduceGT, Int.reduceGE, ↓reduceIte, decide_true, decide_false, eq_self, Nat.mul_one, Nat.zero_mul, Nat.one_mul, Int.le_refl, Nat.le_refl, Int.cast_ofNat_Int, hbf])
        · rw [if_neg h2] at hbf
          have h2' : ¬ x > y := h2
          simp (decide := true) (maxSteps := 4000000) only [go_sem, Nat.reduceAdd, Nat.reduceSub, Nat.reduceMul, Nat.reduceDiv, Nat.reduceMod, Nat.reduceLT, Nat.reduceLeDiff, Nat.reduceEqDiff, Nat.reduceBEq, Nat.reduceBNe, Nat.reduceGT, Int.reduceAdd, Int.reduceSub, Int.reduceMul, Int.reduceNeg, Int.reduceLT, Int.reduceLE, Int.reduceEq, Int.reduceNe, Int.reduceBEq, Int.reduceBNe, Int.reduceToNat, Int.reduceGT, Int.reduceGE, ↓reduceIte, decide_true, decide_false, eq_self, Nat.mul_one, Nat.zero_mul, Nat.one_mul, Int.le_refl, Nat.le_refl, Int.cast_ofNat_Int, hlt, hka, hkb, ia, ib, h1, h2']
          refine hI1 _ ⟨k + 1, by omega, hbf⟩ (by simp only; omega) ?_
          simp (decide := true) (maxSteps := 4000000) only [go_sem, Nat.reduceAdd, Nat.reduceSub, Nat.reduceMul, Nat.reduceDiv, Nat.reduceMod, Nat.reduceLT, Nat.reduceLeDiff, Nat.reduceEqDiff, Nat.reduceBEq, Nat.reduceBNe, Nat.reduceGT, Int.reduceAdd, Int.reduceSub, Int.reduceMul, Int.reduceNeg, Int.reduceLT, Int.reduceLE, Int.reduceEq, Int.reduceNe, Int.reduceBEq, Int.reduceBNe, Int.reduceToNat, Int.reduceGT, Int.reduceGE, ↓reduceIte, decide_true, decide_false, eq_self, Nat.mul_one, Nat.zero_mul, Nat.one_mul, Int.le_refl, Nat.le_refl, Int.cast_ofNat_Int, hc1]
    · simp (decide := true) (maxSteps := 4000000) only [go_sem, Nat.reduceAdd, Nat.reduceSub, Nat.reduceMul, Nat.reduceDiv, Nat.reduceMod, Nat.reduceLT, Nat.reduceLeDiff, Nat.reduceEqDiff, Nat.reduceBEq, Nat.reduceBNe, Nat.reduceGT, Int.reduceAdd, Int.reduceSub, Int.reduceMul, Int.reduceNeg, Int.reduceLT, Int.reduceLE, Int.reduceEq, Int.reduceNe, Int.reduceBEq, Int.reduceBNe, Int.reduceToNat, Int.reduceGT, Int.reduceGE, ↓reduceIte, decide_true, decide_false, eq_self, Nat.mul_one, Nat.zero_mul, Nat.one_mul, Int.le_refl, Nat.le_refl, Int.cast_ofNat_Int, hlt]
      refine hQ1 _ _ ?_
      have e : before a b = decide ((a.length : Int) < b.length) := by
        rw [hbf, before_end]
        · simp only [List.length_drop]
          rw [decide_eq_decide]
          omega
        · rcases Nat.le_total a.length b.length with h | h
          · exact .inl (List.drop_eq_nil_of_le (by omega))
          · exact .inr (List.drop_eq_nil_of_le (by omega))
      simp (decide := true) (maxSteps := 4000000) only [go_sem, Nat.reduceAdd, Nat.reduceSub, Nat.reduceMul, Nat.reduceDiv, Nat.reduceMod, Nat.reduceLT, Nat.reduceLeDiff, Nat.reduceEqDiff, Nat.reduceBEq, Nat.reduceBNe, Nat.reduceGT, Int.reduceAdd, Int.reduceSub, Int.reduceMul, Int.reduceNeg, Int.reduceLT, Int.reduceLE, Int.reduceEq, Int.reduceNe, Int.reduceBEq, Int.reduceBNe, Int.reduceToNat, Int.reduceGT, Int.reduceGE, ↓reduceIte, decide_true, decide_false, eq_self, Nat.mul_one, Nat.zero_mul, Nat.one_mul, Int.le_refl, Nat.le_refl, Int.cast_ofNat_Int, e]
noncomputable def hgBefore : List TV → Option TV
  | [.sl cs n f, .sl cs' n' f'] => match unI cs, unI cs' with
    | some a, some b => if n = a.length ∧ n' = b.length ∧ a.length ≤ 62 ∧ b.length ≤ 62 then some (.bool (before a b)) else none
    | _, _ => none
  | _ => none
theorem hgBefore_ok : ∀ xs r, hgBefore xs = some r → PCalls Tryd.prog 53 xs r := by
  intro xs r h
  unfold hgBefore at h
  split at h
  · split at h
    · rename_i a b ha hb
      split at h
      · rename_i hc; cases h
        have e1 := unI_some ha
        have e2 := unI_some hb
        rw [ic_ints] at e1 e2
        obtain ⟨rfl, rfl, h1, h2⟩ := hc
        rw [e1, e2]
        exact hBefore_c a b _ _ (by omega) (by omega)
      · cases h
    · cases h
  · cases h
noncomputable def spH14 : Pm.Spec := spH13.one 53 hgBefore
theorem spH14_ok : SpecOk Tryd.prog spH14 := Spec.one_ok hgBefore_ok spH13_ok
attribute [go_sem] hgBefore
@[go_sem] theorem spH14_p (f : FuncId) (xs : List TV) : spH14.p f xs = Pm.Spec.p (spH13.one 53 hgBefore) f xs := rfl
@[go_sem] theorem spH14_h (f : FuncId) (ps : List PV) (hl : List PO) : spH14.h f ps hl = Pm.Spec.h (spH13.one 53 hgBefore) f ps hl := rfl
@[go_sem] theorem spH14_y (Y : Pm.YS) (f : FuncId) (ps : List PV) (hl : List PO) : spH14.y Y f ps hl = Pm.Spec.y (spH13.one 53 hgBefore) Y f ps hl := rfl
@[go_sem] theorem spH14_fz (f : FuncId) : spH14.fz f = Pm.Spec.fz (spH13.one 53 hgBefore) f := rfl
@[go_sem] theorem spH14_fr (f : FuncId) : spH14.fr f = Pm.Spec.fr (spH13.one 53 hgBefore) f := rfl
@[go_sem] theorem spH14_yf (f : FuncId) : spH14.yf f = Pm.Spec.yf (spH13.one 53 hgBefore) f := rfl
@[go_sem] theorem spH14_gd : spH14.gd = Pm.Spec.gd (spH13.one 53 hgBefore) := rfl
@[go_sem] theorem spH14_mu (t : TypeId) : spH14.mu t = Pm.Spec.mu (spH13.one 53 hgBefore) t := rfl
@[go_sem] theorem spH14_nf (t : TypeId) : spH14.nf t = Pm.Spec.nf (spH13.one 53 hgBefore) t := rfl
noncomputable def spH15 : Pm.Spec := spH14
theorem spH15_ok : SpecOk Tryd.prog spH15 := spH14_ok
@[go_sem] theorem spH15_p (f : FuncId) (xs : List TV) : spH15.p f xs = Pm.Spec.p (spH14) f xs := rfl
@[go_sem] theorem spH15_h (f : FuncId) (ps : List PV) (hl : List PO) : spH15.h f ps hl = Pm.Spec.h (spH14) f ps hl := rfl
@[go_sem] theorem spH15_y (Y : Pm.YS) (f : FuncId) (ps : List PV) (hl : List PO) : spH15.y Y f ps hl = Pm.Spec.y (spH14) Y f ps hl := rfl
@[go_sem] theorem spH15_fz (f : FuncId) : spH15.fz f = Pm.Spec.fz (spH14) f := rfl
@[go_sem] theorem spH15_fr (f : FuncId) : spH15.fr f = Pm.Spec.fr (spH14) f := rfl
@[go_sem] theorem spH15_yf (f : FuncId) : spH15.yf f = Pm.Spec.yf (spH14) f := rfl
@[go_sem] theorem spH15_gd : spH15.gd = Pm.Spec.gd (spH14) := rfl
@[go_sem] theorem spH15_mu (t : TypeId) : spH15.mu t = Pm.Spec.mu (spH14) t := rfl
@[go_sem] theorem spH15_nf (t : TypeId) : spH15.nf t = Pm.Spec.nf (spH14) t := rfl
noncomputable def spH16 : Pm.Spec := spH15
theorem spH16_ok : SpecOk Tryd.prog spH16 := spH15_ok
@[go_sem] theorem spH16_p (f : FuncId) (xs : List TV) : spH16.p f xs = Pm.Spec.p (spH15) f xs := rfl
@[go_sem] theorem spH16_h (f : FuncId) (ps : List PV) (hl : List PO) : spH16.h f ps hl = Pm.Spec.h (spH15) f ps hl := rfl
@[go_sem] theorem spH16_y (Y : Pm.YS) (f : FuncId) (ps : List PV) (hl : List PO) : spH16.y Y f ps hl = Pm.Spec.y (spH15) Y f ps hl := rfl
@[go_sem] theorem spH16_fz (f : FuncId) : spH16.fz f = Pm.Spec.fz (spH15) f := rfl
@[go_sem] theorem spH16_fr (f : FuncId) : spH16.fr f = Pm.Spec.fr (spH15) f := rfl
@[go_sem] theorem spH16_yf (f : FuncId) : spH16.yf f = Pm.Spec.yf (spH15) f := rfl
@[go_sem] theorem spH16_gd : spH16.gd = Pm.Spec.gd (spH15) := rfl
@[go_sem] theorem spH16_mu (t : TypeId) : spH16.mu t = Pm.Spec.mu (spH15) t := rfl
@[go_sem] theorem spH16_nf (t : TypeId) : spH16.nf t = Pm.Spec.nf (spH15) t := rfl
noncomputable def spH : Pm.Spec := spH16
@[go_sem] theorem spH_p (f : FuncId) (xs : List TV) : spH.p f xs = Pm.Spec.p (spH16) f xs := rfl
@[go_sem] theorem spH_h (f : FuncId) (ps : List PV) (hl : List PO) : spH.h f ps hl = Pm.Spec.h (spH16) f ps hl := rfl
@[go_sem] theorem spH_y (Y : Pm.YS) (f : FuncId) (ps : List PV) (hl : List PO) : spH.y Y f ps hl = Pm.Spec.y (spH16) Y f ps hl := rfl
@[go_sem] theorem spH_fz (f : FuncId) : spH.fz f = Pm.Spec.fz (spH16) f := rfl
@[go_sem] theorem spH_fr (f : FuncId) : spH.fr f = Pm.Spec.fr (spH16) f := rfl
@[go_sem] theorem spH_yf (f : FuncId) : spH.yf f = Pm.Spec.yf (spH16) f := rfl
@[go_sem] theorem spH_gd : spH.gd = Pm.Spec.gd (spH16) := rfl
@[go_sem] theorem spH_mu (t : TypeId) : spH.mu t = Pm.Spec.mu (spH16) t := rfl
@[go_sem] theorem spH_nf (t : TypeId) : spH.nf t = Pm.Spec.nf (spH16) t := rfl
theorem spH_ok : SpecOk Tryd.prog spH := spH16_ok
theorem noSpec_okH : SpecOk Tryd.prog noSpec := noSpec_ok
end Go.Proofs.YtlonlnfenbadbaaDoor.Sx

/- Part Ibp. -/
namespace Go.Oc.Ix
end Go.Oc.Ix
namespace Go.Proofs.YtlonlnfenbadbaaDoor.Ix
end Go.Proofs.YtlonlnfenbadbaaDoor.Ix
namespace Go.Oc.Ix
open Go Go.Pm
def ic (n : Int) : List TV := [.int .i64 n]
theorem ic_ints (l : List Int) : l.flatMap ic = ints l := by
  induction l with
  | nil => rfl
  | cons x l ih => simp only [List.flatMap_cons, ih]; rfl
def unI : List TV → Option (List Int)
  | [] => some []
  | .int .i64 a :: r => (unI r).map (a :: ·)
  | _ => none
theorem unI_eq : ∀ l : List Int, unI (ints l) = some l
  | [] => rfl
  | x :: l => by
    show (unI (ints l)).map (x :: ·) = some (x :: l)
    rw [unI_eq l]; rfl
theorem unI_some : ∀ {cs : List TV} {l : List Int}, unI cs = some l → cs = l.flatMap ic := by
  intro cs
  induction cs using unI.induct with
  | case1 => intro l h; simp [unI] at h; subst h; rfl
  | case2 a r ih =>
    intro l h
    simp only [unI, Option.map_eq_some_iff] at h
    obtain ⟨l', h1, rfl⟩ := h
    rw [ih h1]; rfl
  | case3 r h1 h2 =>
    intro l h
    unfold unI at h
    split at h
    · exact absurd rfl h1
    · exact absurd rfl (h2 _ _)
    · cases h
attribute [go_sem] unI_eq

theorem before_end : ∀ {a b : List Int}, a = [] ∨ b = [] → before a b = decide (a.length < b.length)
  | [], [], _ => rfl
  | [], _ :: _, _ => by simp [before]
  | _ :: _, [], _ => by simp [before]
  | _ :: _, _ :: _, h => by rcases h with h | h <;> cases h
theorem rowL_is {α : Type} {un : List TV → Option (List α)} {c : α → List TV} (hu : ∀ l : List α, un (l.flatMap c) = some l) {s : TV} {l : List α} (h : IsRow c s l) : rowL un s = some l := by
  rcases h with ⟨rfl, rfl⟩ | ⟨full, rfl⟩
  · exact hu []
  · simp only [rowL, hu, if_true]
theorem rowI_is {s : TV} {l : List Int} (h : IsRow ic s l) : rowL unI s = some l := rowL_is (fun l => by rw [ic_ints]; exact unI_eq l) h
/-- A row as a function hands it back that appends to none. -/
def rowG {α : Type} (c : α → List TV) (l : List α) : TV := if l.length = 0 then .nilSl else .sl (l.flatMap c) l.length false
theorem rowG_is {α : Type} (c : α → List TV) (l : List α) : IsRow c (rowG c l) l := by
  unfold rowG
  split
  · rename_i h; exact .inl ⟨rfl, List.length_eq_zero_iff.1 h⟩
  · exact .inr ⟨_, rfl⟩
/-- .. with no room behind it. -/
def rowF {α : Type} (c : α → List TV) (l : List α) : TV := if l.length = 0 then .nilSl else .sl (l.flatMap c) l.length true
theorem rowF_is {α : Type} (c : α → List TV) (l : List α) : IsRow c (rowF c l) l := by
  unfold rowF
  split
  · rename_i h; exact .inl ⟨rfl, List.length_eq_zero_iff.1 h⟩
  · exact .inr ⟨_, rfl⟩
theorem flR_len {α : Type} (c : α → List TV) {n : Nat} (hc : ∀ x, (c x).length = n) (l : List α) : (l.flatMap c).length = l.length * n := flat_len c hc l
theorem mulB {a b A B : Int} (ha : 0 ≤ a) (hb : 0 ≤ b) (h1 : a ≤ A) (h2 : b ≤ B) : 0 ≤ a * b ∧ a * b ≤ A * B :=
  ⟨Int.mul_nonneg ha hb, Int.mul_le_mul h1 h2 hb (by omega)⟩
end Go.Oc.Ix
