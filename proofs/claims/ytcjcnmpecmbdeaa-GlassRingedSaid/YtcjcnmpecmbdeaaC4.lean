/- What the claim leans on, text 4. -/
import Derived.Test.YtcjcnmpecmbdeaaRows
import Derived.Test.YtcjcnmpecmbdeaaC3
set_option linter.unusedSimpArgs false
set_option linter.unusedVariables false

/- Part Ty. -/
namespace Go.Proofs.Ytcjcnmpecmbdeaa
open Go.Pm
@[go_sem] theorem Try.agg1 : aggO Try.prog 1 = some false := by kernel_rfl
@[go_sem] theorem Try.pln1 : plainO Try.prog 1 = some true := by kernel_rfl
@[go_sem] theorem Try.sz1 : szO Try.prog 1 = some 1 := by kernel_rfl
@[go_sem] theorem Try.zero1 : zeroL Try.prog 1 = some [.nilFn] := by kernel_rfl
@[go_sem] theorem Try.small1 : smallO Try.prog 1 = some (1, 8) := by kernel_rfl
@[go_sem] theorem Try.zt1 : zeroT Try.prog 1 = some (.nilFn) := by kernel_rfl
@[go_sem] theorem Try.agg2 : aggO Try.prog 2 = some false := by kernel_rfl
@[go_sem] theorem Try.pln2 : plainO Try.prog 2 = some true := by kernel_rfl
@[go_sem] theorem Try.sz2 : szO Try.prog 2 = some 1 := by kernel_rfl
@[go_sem] theorem Try.zero2 : zeroL Try.prog 2 = some [.int .i64 0] := by kernel_rfl
@[go_sem] theorem Try.small2 : smallO Try.prog 2 = some (1, 8) := by kernel_rfl
@[go_sem] theorem Try.zt2 : zeroT Try.prog 2 = some (.int .i64 0) := by kernel_rfl
@[go_sem] theorem Try.knd2 : kindO Try.prog 2 = some .i64 := by kernel_rfl
@[go_sem] theorem Try.und2 : Program.underlying Try.prog 2 = some (.int .i64) := by kernel_rfl
@[go_sem] theorem Try.agg3 : aggO Try.prog 3 = some false := by kernel_rfl
@[go_sem] theorem Try.pln3 : plainO Try.prog 3 = some true := by kernel_rfl
@[go_sem] theorem Try.sz3 : szO Try.prog 3 = some 1 := by kernel_rfl
@[go_sem] theorem Try.zero3 : zeroL Try.prog 3 = some [.int .i64 0] := by kernel_rfl
@[go_sem] theorem Try.small3 : smallO Try.prog 3 = some (1, 8) := by kernel_rfl
@[go_sem] theorem Try.zt3 : zeroT Try.prog 3 = some (.int .i64 0) := by kernel_rfl
@[go_sem] theorem Try.knd3 : kindO Try.prog 3 = some .i64 := by kernel_rfl
@[go_sem] theorem Try.und3 : Program.underlying Try.prog 3 = some (.int .i64) := by kernel_rfl
@[go_sem] theorem Try.agg4 : aggO Try.prog 4 = some false := by kernel_rfl
@[go_sem] theorem Try.pln4 : plainO Try.prog 4 = some true := by kernel_rfl
@[go_sem] theorem Try.sz4 : szO Try.prog 4 = some 1 := by kernel_rfl
@[go_sem] theorem Try.zero4 : zeroL Try.prog 4 = some [.bool false] := by kernel_rfl
@[go_sem] theorem Try.small4 : smallO Try.prog 4 = some (1, 1) := by kernel_rfl
@[go_sem] theorem Try.zt4 : zeroT Try.prog 4 = some (.bool false) := by kernel_rfl
@[go_sem] theorem Try.eq4 (a b : Bool) : eqT Try.prog 20 4 (.bool a) (.bool b) = some (a == b) := by kernel_rfl
@[go_sem] theorem Try.und4 : Program.underlying Try.prog 4 = some .bool := by kernel_rfl
@[go_sem] theorem Try.agg5 : aggO Try.prog 5 = some false := by kernel_rfl
@[go_sem] theorem Try.pln5 : plainO Try.prog 5 = some true := by kernel_rfl
@[go_sem] theorem Try.sz5 : szO Try.prog 5 = some 1 := by kernel_rfl
@[go_sem] theorem Try.zero5 : zeroL Try.prog 5 = some [.int .u8 0] := by kernel_rfl
@[go_sem] theorem Try.small5 : smallO Try.prog 5 = some (1, 1) := by kernel_rfl
@[go_sem] theorem Try.zt5 : zeroT Try.prog 5 = some (.int .u8 0) := by kernel_rfl
@[go_sem] theorem Try.knd5 : kindO Try.prog 5 = some .u8 := by kernel_rfl
@[go_sem] theorem Try.und5 : Program.underlying Try.prog 5 = some (.int .u8) := by kernel_rfl
@[go_sem] theorem Try.agg7 : aggO Try.prog 7 = some true := by kernel_rfl
@[go_sem] theorem Try.pln7 : plainO Try.prog 7 = some true := by kernel_rfl
@[go_sem] theorem Try.sz7 : szO Try.prog 7 = some 4 := by kernel_rfl
@[go_sem] theorem Try.zero7 : zeroL Try.prog 7 = some [.int .i64 0, .int .i64 0, .bool false, .int .u8 0] := by kernel_rfl
@[go_sem] theorem Try.small7 : smallO Try.prog 7 = some (4, 24) := by kernel_rfl
@[go_sem] theorem Try.zt7 : zeroT Try.prog 7 = some (.agg [.int .i64 0, .int .i64 0, .bool false, .int .u8 0]) := by kernel_rfl
@[go_sem] theorem Try.fld7_0 : fieldO Try.prog 7 0 = some (0, 2) := by kernel_rfl
@[go_sem] theorem Try.fld7_1 : fieldO Try.prog 7 1 = some (1, 3) := by kernel_rfl
@[go_sem] theorem Try.fld7_2 : fieldO Try.prog 7 2 = some (2, 4) := by kernel_rfl
@[go_sem] theorem Try.fld7_3 : fieldO Try.prog 7 3 = some (3, 6) := by kernel_rfl
@[go_sem] theorem Try.bld7 (parts : List (Nat × TV)) : buildO Try.prog 7 parts = (fillT (fun i => ([(0, 1), (1, 1), (2, 1), (3, 1)] : List (Nat × Nat))[i]?) [.int .i64 0, .int .i64 0, .bool false, .int .u8 0] parts).map .agg := by kernel_rfl
@[go_sem] theorem Try.eqg7 : Program.eqGuardType Try.prog (Program.depth Try.prog) 7 = false := by kernel_rfl
@[go_sem] theorem Try.agg9 : aggO Try.prog 9 = some false := by kernel_rfl
@[go_sem] theorem Try.pln9 : plainO Try.prog 9 = some true := by kernel_rfl
@[go_sem] theorem Try.sz9 : szO Try.prog 9 = some 1 := by kernel_rfl
@[go_sem] theorem Try.zero9 : zeroL Try.prog 9 = some [.str ⟨#[]⟩] := by kernel_rfl
@[go_sem] theorem Try.small9 : smallO Try.prog 9 = some (1, 16) := by kernel_rfl
@[go_sem] theorem Try.zt9 : zeroT Try.prog 9 = some (.str ⟨#[]⟩) := by kernel_rfl
@[go_sem] theorem Try.eq9 (a b : ByteArray) : eqT Try.prog 20 9 (.str a) (.str b) = some (a.toList == b.toList) := by kernel_rfl
@[go_sem] theorem Try.und9 : Program.underlying Try.prog 9 = some .string := by kernel_rfl
@[go_sem] theorem Try.agg12 : aggO Try.prog 12 = some false := by kernel_rfl
@[go_sem] theorem Try.pln12 : plainO Try.prog 12 = some true := by kernel_rfl
@[go_sem] theorem Try.sz12 : szO Try.prog 12 = some 1 := by kernel_rfl
@[go_sem] theorem Try.zero12 : zeroL Try.prog 12 = some [.int .u64 0] := by kernel_rfl
@[go_sem] theorem Try.small12 : smallO Try.prog 12 = some (1, 8) := by kernel_rfl
@[go_sem] theorem Try.zt12 : zeroT Try.prog 12 = some (.int .u64 0) := by kernel_rfl
@[go_sem] theorem Try.knd12 : kindO Try.prog 12 = some .u64 := by kernel_rfl
@[go_sem] theorem Try.und12 : Program.underlying Try.prog 12 = some (.int .u64) := by kernel_rfl
@[go_sem] theorem Try.agg13 : aggO Try.prog 13 = some true := by kernel_rfl
@[go_sem] theorem Try.pln13 : plainO Try.prog 13 = some true := by kernel_rfl
@[go_sem] theorem Try.sz13 : szO Try.prog 13 = some 2 := by kernel_rfl
@[go_sem] theorem Try.zero13 : zeroL Try.prog 13 = some [.str ⟨#[]⟩, .int .u64 0] := by kernel_rfl
@[go_sem] theorem Try.small13 : smallO Try.prog 13 = some (2, 24) := by kernel_rfl
@[go_sem] theorem Try.zt13 : zeroT Try.prog 13 = some (.agg [.str ⟨#[]⟩, .int .u64 0]) := by kernel_rfl
@[go_sem] theorem Try.fld13_0 : fieldO Try.prog 13 0 = some (0, 9) := by kernel_rfl
@[go_sem] theorem Try.fld13_1 : fieldO Try.prog 13 1 = some (1, 12) := by kernel_rfl
@[go_sem] theorem Try.bld13 (parts : List (Nat × TV)) : buildO Try.prog 13 parts = (fillT (fun i => ([(0, 1), (1, 1)] : List (Nat × Nat))[i]?) [.str ⟨#[]⟩, .int .u64 0] parts).map .agg := by kernel_rfl
@[go_sem] theorem Try.eqg13 : Program.eqGuardType Try.prog (Program.depth Try.prog) 13 = false := by kernel_rfl
@[go_sem] theorem Try.agg15 : aggO Try.prog 15 = some false := by kernel_rfl
@[go_sem] theorem Try.pln15 : plainO Try.prog 15 = some true := by kernel_rfl
@[go_sem] theorem Try.sz15 : szO Try.prog 15 = some 1 := by kernel_rfl
@[go_sem] theorem Try.zero15 : zeroL Try.prog 15 = some [.nilPtr] := by kernel_rfl
@[go_sem] theorem Try.small15 : smallO Try.prog 15 = some (1, 8) := by kernel_rfl
@[go_sem] theorem Try.zt15 : zeroT Try.prog 15 = some (.nilPtr) := by kernel_rfl
@[go_sem] theorem Try.agg16 : aggO Try.prog 16 = some false := by kernel_rfl
@[go_sem] theorem Try.pln16 : plainO Try.prog 16 = some true := by kernel_rfl
@[go_sem] theorem Try.sz16 : szO Try.prog 16 = some 1 := by kernel_rfl
@[go_sem] theorem Try.zero16 : zeroL Try.prog 16 = some [.nilPtr] := by kernel_rfl
@[go_sem] theorem Try.small16 : smallO Try.prog 16 = some (1, 8) := by kernel_rfl
@[go_sem] theorem Try.zt16 : zeroT Try.prog 16 = some (.nilPtr) := by kernel_rfl
@[go_sem] theorem Try.agg17 : aggO Try.prog 17 = some false := by kernel_rfl
@[go_sem] theorem Try.pln17 : plainO Try.prog 17 = some true := by kernel_rfl
@[go_sem] theorem Try.sz17 : szO Try.prog 17 = some 1 := by kernel_rfl
@[go_sem] theorem Try.zero17 : zeroL Try.prog 17 = some [.nilPtr] := by kernel_rfl
@[go_sem] theorem Try.small17 : smallO Try.prog 17 = some (1, 8) := by kernel_rfl
@[go_sem] theorem Try.zt17 : zeroT Try.prog 17 = some (.nilPtr) := by kernel_rfl
@[go_sem] theorem Try.agg18 : aggO Try.prog 18 = some true := by kernel_rfl
@[go_sem] theorem Try.pln18 : plainO Try.prog 18 = some true := by kernel_rfl
@[go_sem] theorem Try.sz18 : szO Try.prog 18 = some 1 := by kernel_rfl
@[go_sem] theorem Try.zero18 : zeroL Try.prog 18 = some [.nilPtr] := by kernel_rfl
@[go_sem] theorem Try.small18 : smallO Try.prog 18 = some (1, 8) := by kernel_rfl
@[go_sem] theorem Try.zt18 : zeroT Try.prog 18 = some (.agg [.nilPtr]) := by kernel_rfl
@[go_sem] theorem Try.fld18_0 : fieldO Try.prog 18 0 = some (0, 17) := by kernel_rfl
@[go_sem] theorem Try.bld18 (parts : List (Nat × TV)) : buildO Try.prog 18 parts = (fillT (fun i => ([(0, 1)] : List (Nat × Nat))[i]?) [.nilPtr] parts).map .agg := by kernel_rfl
@[go_sem] theorem Try.bldp18 (parts : List (Nat × PV)) : buildP Try.prog 18 parts = fillP (fun i => ([(0, 1)] : List (Nat × Nat))[i]?) [.t (.nilPtr)] parts := by kernel_rfl
@[go_sem] theorem Try.eqg18 : Program.eqGuardType Try.prog (Program.depth Try.prog) 18 = false := by kernel_rfl
@[go_sem] theorem Try.agg20 : aggO Try.prog 20 = some false := by kernel_rfl
@[go_sem] theorem Try.pln20 : plainO Try.prog 20 = some false := by kernel_rfl
@[go_sem] theorem Try.sz20 : szO Try.prog 20 = some 1 := by kernel_rfl
@[go_sem] theorem Try.zero20 : zeroL Try.prog 20 = some [.nilIf] := by kernel_rfl
@[go_sem] theorem Try.small20 : smallO Try.prog 20 = some (1, 16) := by kernel_rfl
@[go_sem] theorem Try.zt20 : zeroT Try.prog 20 = some (.nilIf) := by kernel_rfl
@[go_sem] theorem Try.agg21 : aggO Try.prog 21 = some false := by kernel_rfl
@[go_sem] theorem Try.pln21 : plainO Try.prog 21 = some true := by kernel_rfl
@[go_sem] theorem Try.sz21 : szO Try.prog 21 = some 1 := by kernel_rfl
@[go_sem] theorem Try.zero21 : zeroL Try.prog 21 = some [.int .i32 0] := by kernel_rfl
@[go_sem] theorem Try.small21 : smallO Try.prog 21 = some (1, 4) := by kernel_rfl
@[go_sem] theorem Try.zt21 : zeroT Try.prog 21 = some (.int .i32 0) := by kernel_rfl
@[go_sem] theorem Try.knd21 : kindO Try.prog 21 = some .i32 := by kernel_rfl
@[go_sem] theorem Try.und21 : Program.underlying Try.prog 21 = some (.int .i32) := by kernel_rfl
@[go_sem] theorem Try.agg22 : aggO Try.prog 22 = some false := by kernel_rfl
@[go_sem] theorem Try.pln22 : plainO Try.prog 22 = some true := by kernel_rfl
@[go_sem] theorem Try.sz22 : szO Try.prog 22 = some 1 := by kernel_rfl
@[go_sem] theorem Try.zero22 : zeroL Try.prog 22 = some [.nilSl] := by kernel_rfl
@[go_sem] theorem Try.small22 : smallO Try.prog 22 = some (1, 24) := by kernel_rfl
@[go_sem] theorem Try.zt22 : zeroT Try.prog 22 = some (.nilSl) := by kernel_rfl
@[go_sem] theorem Try.eqn22 : eqT Try.prog 20 22 .nilSl .nilSl = some true := by kernel_rfl
@[go_sem] theorem Try.eqs22 (cs : List TV) (n : Nat) (f : Bool) : eqT Try.prog 20 22 (.sl cs n f) .nilSl = some false := by kernel_rfl
@[go_sem] theorem Try.eqt22 (cs : List TV) (n : Nat) (f : Bool) : eqT Try.prog 20 22 .nilSl (.sl cs n f) = some false := by kernel_rfl
@[go_sem] theorem Try.sl22 : sliceO Try.prog 22 = some 87 := by kernel_rfl
@[go_sem] theorem Try.und22 : Program.underlying Try.prog 22 = some (.slice 87) := by kernel_rfl
@[go_sem] theorem Try.agg23 : aggO Try.prog 23 = some false := by kernel_rfl
@[go_sem] theorem Try.pln23 : plainO Try.prog 23 = some true := by kernel_rfl
@[go_sem] theorem Try.sz23 : szO Try.prog 23 = some 1 := by kernel_rfl
@[go_sem] theorem Try.zero23 : zeroL Try.prog 23 = some [.nilSl] := by kernel_rfl
@[go_sem] theorem Try.small23 : smallO Try.prog 23 = some (1, 24) := by kernel_rfl
@[go_sem] theorem Try.zt23 : zeroT Try.prog 23 = some (.nilSl) := by kernel_rfl
@[go_sem] theorem Try.eqn23 : eqT Try.prog 20 23 .nilSl .nilSl = some true := by kernel_rfl
@[go_sem] theorem Try.eqs23 (cs : List TV) (n : Nat) (f : Bool) : eqT Try.prog 20 23 (.sl cs n f) .nilSl = some false := by kernel_rfl
@[go_sem] theorem Try.eqt23 (cs : List TV) (n : Nat) (f : Bool) : eqT Try.prog 20 23 .nilSl (.sl cs n f) = some false := by kernel_rfl
@[go_sem] theorem Try.sl23 : sliceO Try.prog 23 = some 37 := by kernel_rfl
@[go_sem] theorem Try.und23 : Program.underlying Try.prog 23 = some (.slice 37) := by kernel_rfl
@[go_sem] theorem Try.agg24 : aggO Try.prog 24 = some true := by kernel_rfl
@[go_sem] theorem Try.pln24 : plainO Try.prog 24 = some true := by kernel_rfl
@[go_sem] theorem Try.sz24 : szO Try.prog 24 = some 2 := by kernel_rfl
@[go_sem] theorem Try.zero24 : zeroL Try.prog 24 = some [.nilSl, .nilSl] := by kernel_rfl
@[go_sem] theorem Try.small24 : smallO Try.prog 24 = some (2, 48) := by kernel_rfl
@[go_sem] theorem Try.zt24 : zeroT Try.prog 24 = some (.agg [.nilSl, .nilSl]) := by kernel_rfl
@[go_sem] theorem Try.fld24_0 : fieldO Try.prog 24 0 = some (0, 22) := by kernel_rfl
@[go_sem] theorem Try.fld24_1 : fieldO Try.prog 24 1 = some (1, 23) := by kernel_rfl
@[go_sem] theorem Try.bld24 (parts : List (Nat × TV)) : buildO Try.prog 24 parts = (fillT (fun i => ([(0, 1), (1, 1)] : List (Nat × Nat))[i]?) [.nilSl, .nilSl] parts).map .agg := by kernel_rfl
@[go_sem] theorem Try.bldp24 (parts : List (Nat × PV)) : buildP Try.prog 24 parts = fillP (fun i => ([(0, 1), (1, 1)] : List (Nat × Nat))[i]?) [.t (.nilSl), .t (.nilSl)] parts := by kernel_rfl
@[go_sem] theorem Try.eqg24 : Program.eqGuardType Try.prog (Program.depth Try.prog) 24 = false := by kernel_rfl
@[go_sem] theorem Try.agg25 : aggO Try.prog 25 = some true := by kernel_rfl
@[go_sem] theorem Try.pln25 : plainO Try.prog 25 = some true := by kernel_rfl
@[go_sem] theorem Try.sz25 : szO Try.prog 25 = some 2 := by kernel_rfl
@[go_sem] theorem Try.zero25 : zeroL Try.prog 25 = some [.nilSl, .nilSl] := by kernel_rfl
@[go_sem] theorem Try.small25 : smallO Try.prog 25 = some (2, 48) := by kernel_rfl
@[go_sem] theorem Try.zt25 : zeroT Try.prog 25 = some (.agg [.nilSl, .nilSl]) := by kernel_rfl
@[go_sem] theorem Try.fld25_0 : fieldO Try.prog 25 0 = some (0, 22) := by kernel_rfl
@[go_sem] theorem Try.fld25_1 : fieldO Try.prog 25 1 = some (1, 23) := by kernel_rfl
@[go_sem] theorem Try.bld25 (parts : List (Nat × TV)) : buildO Try.prog 25 parts = (fillT (fun i => ([(0, 1), (1, 1)] : List (Nat × Nat))[i]?) [.nilSl, .nilSl] parts).map .agg := by kernel_rfl
@[go_sem] theorem Try.bldp25 (parts : List (Nat × PV)) : buildP Try.prog 25 parts = fillP (fun i => ([(0, 1), (1, 1)] : List (Nat × Nat))[i]?) [.t (.nilSl), .t (.nilSl)] parts := by kernel_rfl
@[go_sem] theorem Try.eqg25 : Program.eqGuardType Try.prog (Program.depth Try.prog) 25 = false := by kernel_rfl
@[go_sem] theorem Try.agg26 : aggO Try.prog 26 = some true := by kernel_rfl
@[go_sem] theorem Try.pln26 : plainO Try.prog 26 = some true := by kernel_rfl
@[go_sem] theorem Try.sz26 : szO Try.prog 26 = some 3 := by kernel_rfl
@[go_sem] theorem Try.zero26 : zeroL Try.prog 26 = some [.int .i64 0, .int .i64 0, .int .i64 0] := by kernel_rfl
@[go_sem] theorem Try.small26 : smallO Try.prog 26 = some (3, 24) := by kernel_rfl
@[go_sem] theorem Try.zt26 : zeroT Try.prog 26 = some (.agg [.int .i64 0, .int .i64 0, .int .i64 0]) := by kernel_rfl
@[go_sem] theorem Try.bld26 (parts : List (Nat × TV)) : buildO Try.prog 26 parts = (fillT (fun i => some (i * 1, 1)) [.int .i64 0, .int .i64 0, .int .i64 0] parts).map .agg := by kernel_rfl
@[go_sem] theorem Try.eq26 (a0 b0 : Int) (a1 b1 : Int) (a2 b2 : Int) : eqT Try.prog 20 26 (.agg [.int .i64 a0, .int .i64 a1, .int .i64 a2]) (.agg [.int .i64 b0, .int .i64 b1, .int .i64 b2]) = some ((a0 == b0) && ((a1 == b1) && ((a2 == b2) && true))) := by kernel_rfl
@[go_sem] theorem Try.eqg26 : Program.eqGuardType Try.prog (Program.depth Try.prog) 26 = false := by kernel_rfl
@[go_sem] theorem Try.arr26 : arrayO Try.prog 26 = some (3, 3) := by kernel_rfl
@[go_sem] theorem Try.und26 : Program.underlying Try.prog 26 = some (.array 3 3) := by kernel_rfl
@[go_sem] theorem Try.agg27 : aggO Try.prog 27 = some true := by kernel_rfl
@[go_sem] theorem Try.pln27 : plainO Try.prog 27 = some true := by kernel_rfl
@[go_sem] theorem Try.sz27 : szO Try.prog 27 = some 5 := by kernel_rfl
@[go_sem] theorem Try.zero27 : zeroL Try.prog 27 = some [.int .i64 0, .int .i64 0, .int .i64 0, .int .i64 0, .int .i64 0] := by kernel_rfl
@[go_sem] theorem Try.small27 : smallO Try.prog 27 = some (5, 40) := by kernel_rfl
@[go_sem] theorem Try.zt27 : zeroT Try.prog 27 = some (.agg [.int .i64 0, .int .i64 0, .int .i64 0, .int .i64 0, .int .i64 0]) := by kernel_rfl
@[go_sem] theorem Try.fld27_0 : fieldO Try.prog 27 0 = some (0, 3) := by kernel_rfl
@[go_sem] theorem Try.fld27_1 : fieldO Try.prog 27 1 = some (1, 3) := by kernel_rfl
@[go_sem] theorem Try.fld27_2 : fieldO Try.prog 27 2 = some (2, 26) := by kernel_rfl
@[go_sem] theorem Try.bld27 (parts : List (Nat × TV)) : buildO Try.prog 27 parts = (fillT (fun i => ([(0, 1), (1, 1), (2, 3)] : List (Nat × Nat))[i]?) [.int .i64 0, .int .i64 0, .int .i64 0, .int .i64 0, .int .i64 0] parts).map .agg := by kernel_rfl
@[go_sem] theorem Try.eqg27 : Program.eqGuardType Try.prog (Program.depth Try.prog) 27 = false := by kernel_rfl
@[go_sem] theorem Try.agg28 : aggO Try.prog 28 = some true := by kernel_rfl
@[go_sem] theorem Try.pln28 : plainO Try.prog 28 = some true := by kernel_rfl
@[go_sem] theorem Try.sz28 : szO Try.prog 28 = some 5 := by kernel_rfl
@[go_sem] theorem Try.zero28 : zeroL Try.prog 28 = some [.int .i64 0, .int .i64 0, .int .i64 0, .int .i64 0, .int .i64 0] := by kernel_rfl
@[go_sem] theorem Try.small28 : smallO Try.prog 28 = some (5, 40) := by kernel_rfl
@[go_sem] theorem Try.zt28 : zeroT Try.prog 28 = some (.agg [.int .i64 0, .int .i64 0, .int .i64 0, .int .i64 0, .int .i64 0]) := by kernel_rfl
@[go_sem] theorem Try.fld28_0 : fieldO Try.prog 28 0 = some (0, 3) := by kernel_rfl
@[go_sem] theorem Try.fld28_1 : fieldO Try.prog 28 1 = some (1, 3) := by kernel_rfl
@[go_sem] theorem Try.fld28_2 : fieldO Try.prog 28 2 = some (2, 26) := by kernel_rfl
@[go_sem] theorem Try.bld28 (parts : List (Nat × TV)) : buildO Try.prog 28 parts = (fillT (fun i => ([(0, 1), (1, 1), (2, 3)] : List (Nat × Nat))[i]?) [.int .i64 0, .int .i64 0, .int .i64 0, .int .i64 0, .int .i64 0] parts).map .agg := by kernel_rfl
@[go_sem] theorem Try.eq28 (a0 b0 : Int) (a1 b1 : Int) (a2 b2 : Int) (a3 b3 : Int) (a4 b4 : Int) : eqT Try.prog 20 28 (.agg [.int .i64 a0, .int .i64 a1, .int .i64 a2, .int .i64 a3, .int .i64 a4]) (.agg [.int .i64 b0, .int .i64 b1, .int .i64 b2, .int .i64 b3, .int .i64 b4]) = some ((a0 == b0) && ((a1 == b1) && (((a2 == b2) && ((a3 == b3) && ((a4 == b4) && true))) && true))) := by kernel_rfl
@[go_sem] theorem Try.eqg28 : Program.eqGuardType Try.prog (Program.depth Try.prog) 28 = false := by kernel_rfl
@[go_sem] theorem Try.agg29 : aggO Try.prog 29 = some false := by kernel_rfl
@[go_sem] theorem Try.pln29 : plainO Try.prog 29 = some true := by kernel_rfl
@[go_sem] theorem Try.sz29 : szO Try.prog 29 = some 1 := by kernel_rfl
@[go_sem] theorem Try.zero29 : zeroL Try.prog 29 = some [.nilSl] := by kernel_rfl
@[go_sem] theorem Try.small29 : smallO Try.prog 29 = some (1, 24) := by kernel_rfl
@[go_sem] theorem Try.zt29 : zeroT Try.prog 29 = some (.nilSl) := by kernel_rfl
@[go_sem] theorem Try.eqn29 : eqT Try.prog 20 29 .nilSl .nilSl = some true := by kernel_rfl
@[go_sem] theorem Try.eqs29 (cs : List TV) (n : Nat) (f : Bool) : eqT Try.prog 20 29 (.sl cs n f) .nilSl = some false := by kernel_rfl
@[go_sem] theorem Try.eqt29 (cs : List TV) (n : Nat) (f : Bool) : eqT Try.prog 20 29 .nilSl (.sl cs n f) = some false := by kernel_rfl
@[go_sem] theorem Try.sl29 : sliceO Try.prog 29 = some 3 := by kernel_rfl
@[go_sem] theorem Try.und29 : Program.underlying Try.prog 29 = some (.slice 3) := by kernel_rfl
@[go_sem] theorem Try.agg30 : aggO Try.prog 30 = some true := by kernel_rfl
@[go_sem] theorem Try.pln30 : plainO Try.prog 30 = some true := by kernel_rfl
@[go_sem] theorem Try.sz30 : szO Try.prog 30 = some 3 := by kernel_rfl
@[go_sem] theorem Try.zero30 : zeroL Try.prog 30 = some [.nilSl, .nilSl, .nilSl] := by kernel_rfl
@[go_sem] theorem Try.small30 : smallO Try.prog 30 = some (3, 72) := by kernel_rfl
@[go_sem] theorem Try.zt30 : zeroT Try.prog 30 = some (.agg [.nilSl, .nilSl, .nilSl]) := by kernel_rfl
@[go_sem] theorem Try.fld30_0 : fieldO Try.prog 30 0 = some (0, 29) := by kernel_rfl
@[go_sem] theorem Try.fld30_1 : fieldO Try.prog 30 1 = some (1, 29) := by kernel_rfl
@[go_sem] theorem Try.fld30_2 : fieldO Try.prog 30 2 = some (2, 29) := by kernel_rfl
@[go_sem] theorem Try.bld30 (parts : List (Nat × TV)) : buildO Try.prog 30 parts = (fillT (fun i => ([(0, 1), (1, 1), (2, 1)] : List (Nat × Nat))[i]?) [.nilSl, .nilSl, .nilSl] parts).map .agg := by kernel_rfl
@[go_sem] theorem Try.bldp30 (parts : List (Nat × PV)) : buildP Try.prog 30 parts = fillP (fun i => ([(0, 1), (1, 1), (2, 1)] : List (Nat × Nat))[i]?) [.t (.nilSl), .t (.nilSl), .t (.nilSl)] parts := by kernel_rfl
@[go_sem] theorem Try.eqg30 : Program.eqGuardType Try.prog (Program.depth Try.prog) 30 = false := by kernel_rfl
@[go_sem] theorem Try.agg31 : aggO Try.prog 31 = some true := by kernel_rfl
@[go_sem] theorem Try.pln31 : plainO Try.prog 31 = some true := by kernel_rfl
@[go_sem] theorem Try.sz31 : szO Try.prog 31 = some 3 := by kernel_rfl
@[go_sem] theorem Try.zero31 : zeroL Try.prog 31 = some [.nilSl, .nilSl, .nilSl] := by kernel_rfl
@[go_sem] theorem Try.small31 : smallO Try.prog 31 = some (3, 72) := by kernel_rfl
@[go_sem] theorem Try.zt31 : zeroT Try.prog 31 = some (.agg [.nilSl, .nilSl, .nilSl]) := by kernel_rfl
@[go_sem] theorem Try.fld31_0 : fieldO Try.prog 31 0 = some (0, 29) := by kernel_rfl
@[go_sem] theorem Try.fld31_1 : fieldO Try.prog 31 1 = some (1, 29) := by kernel_rfl
@[go_sem] theorem Try.fld31_2 : fieldO Try.prog 31 2 = some (2, 29) := by kernel_rfl
@[go_sem] theorem Try.bld31 (parts : List (Nat × TV)) : buildO Try.prog 31 parts = (fillT (fun i => ([(0, 1), (1, 1), (2, 1)] : List (Nat × Nat))[i]?) [.nilSl, .nilSl, .nilSl] parts).map .agg := by kernel_rfl
@[go_sem] theorem Try.bldp31 (parts : List (Nat × PV)) : buildP Try.prog 31 parts = fillP (fun i => ([(0, 1), (1, 1), (2, 1)] : List (Nat × Nat))[i]?) [.t (.nilSl), .t (.nilSl), .t (.nilSl)] parts := by kernel_rfl
@[go_sem] theorem Try.eqg31 : Program.eqGuardType Try.prog (Program.depth Try.prog) 31 = false := by kernel_rfl
@[go_sem] theorem Try.agg32 : aggO Try.prog 32 = some false := by kernel_rfl
@[go_sem] theorem Try.pln32 : plainO Try.prog 32 = some true := by kernel_rfl
@[go_sem] theorem Try.sz32 : szO Try.prog 32 = some 1 := by kernel_rfl
@[go_sem] theorem Try.zero32 : zeroL Try.prog 32 = some [.int .i64 0] := by kernel_rfl
@[go_sem] theorem Try.small32 : smallO Try.prog 32 = some (1, 8) := by kernel_rfl
@[go_sem] theorem Try.zt32 : zeroT Try.prog 32 = some (.int .i64 0) := by kernel_rfl
@[go_sem] theorem Try.knd32 : kindO Try.prog 32 = some .i64 := by kernel_rfl
@[go_sem] theorem Try.und32 : Program.underlying Try.prog 32 = some (.int .i64) := by kernel_rfl
@[go_sem] theorem Try.agg34 : aggO Try.prog 34 = some false := by kernel_rfl
@[go_sem] theorem Try.pln34 : plainO Try.prog 34 = some true := by kernel_rfl
@[go_sem] theorem Try.sz34 : szO Try.prog 34 = some 1 := by kernel_rfl
@[go_sem] theorem Try.zero34 : zeroL Try.prog 34 = some [.nilFn] := by kernel_rfl
@[go_sem] theorem Try.small34 : smallO Try.prog 34 = some (1, 8) := by kernel_rfl
@[go_sem] theorem Try.zt34 : zeroT Try.prog 34 = some (.nilFn) := by kernel_rfl
@[go_sem] theorem Try.agg35 : aggO Try.prog 35 = some false := by kernel_rfl
@[go_sem] theorem Try.pln35 : plainO Try.prog 35 = some true := by kernel_rfl
@[go_sem] theorem Try.sz35 : szO Try.prog 35 = some 1 := by kernel_rfl
@[go_sem] theorem Try.zero35 : zeroL Try.prog 35 = some [.nilFn] := by kernel_rfl
@[go_sem] theorem Try.small35 : smallO Try.prog 35 = some (1, 8) := by kernel_rfl
@[go_sem] theorem Try.zt35 : zeroT Try.prog 35 = some (.nilFn) := by kernel_rfl
@[go_sem] theorem Try.agg36 : aggO Try.prog 36 = some true := by kernel_rfl
@[go_sem] theorem Try.pln36 : plainO Try.prog 36 = some true := by kernel_rfl
@[go_sem] theorem Try.sz36 : szO Try.prog 36 = some 2 := by kernel_rfl
@[go_sem] theorem Try.zero36 : zeroL Try.prog 36 = some [.int .i64 0, .int .i64 0] := by kernel_rfl
@[go_sem] theorem Try.small36 : smallO Try.prog 36 = some (2, 16) := by kernel_rfl
@[go_sem] theorem Try.zt36 : zeroT Try.prog 36 = some (.agg [.int .i64 0, .int .i64 0]) := by kernel_rfl
@[go_sem] theorem Try.fld36_0 : fieldO Try.prog 36 0 = some (0, 3) := by kernel_rfl
@[go_sem] theorem Try.fld36_1 : fieldO Try.prog 36 1 = some (1, 3) := by kernel_rfl
@[go_sem] theorem Try.bld36 (parts : List (Nat × TV)) : buildO Try.prog 36 parts = (fillT (fun i => ([(0, 1), (1, 1)] : List (Nat × Nat))[i]?) [.int .i64 0, .int .i64 0] parts).map .agg := by kernel_rfl
@[go_sem] theorem Try.eqg36 : Program.eqGuardType Try.prog (Program.depth Try.prog) 36 = false := by kernel_rfl
@[go_sem] theorem Try.agg37 : aggO Try.prog 37 = some true := by kernel_rfl
@[go_sem] theorem Try.pln37 : plainO Try.prog 37 = some true := by kernel_rfl
@[go_sem] theorem Try.sz37 : szO Try.prog 37 = some 2 := by kernel_rfl
@[go_sem] theorem Try.zero37 : zeroL Try.prog 37 = some [.int .i64 0, .int .i64 0] := by kernel_rfl
@[go_sem] theorem Try.small37 : smallO Try.prog 37 = some (2, 16) := by kernel_rfl
@[go_sem] theorem Try.zt37 : zeroT Try.prog 37 = some (.agg [.int .i64 0, .int .i64 0]) := by kernel_rfl
@[go_sem] theorem Try.fld37_0 : fieldO Try.prog 37 0 = some (0, 3) := by kernel_rfl
@[go_sem] theorem Try.fld37_1 : fieldO Try.prog 37 1 = some (1, 3) := by kernel_rfl
@[go_sem] theorem Try.bld37 (parts : List (Nat × TV)) : buildO Try.prog 37 parts = (fillT (fun i => ([(0, 1), (1, 1)] : List (Nat × Nat))[i]?) [.int .i64 0, .int .i64 0] parts).map .agg := by kernel_rfl
@[go_sem] theorem Try.eq37 (a0 b0 : Int) (a1 b1 : Int) : eqT Try.prog 20 37 (.agg [.int .i64 a0, .int .i64 a1]) (.agg [.int .i64 b0, .int .i64 b1]) = some ((a0 == b0) && ((a1 == b1) && true)) := by kernel_rfl
@[go_sem] theorem Try.eqg37 : Program.eqGuardType Try.prog (Program.depth Try.prog) 37 = false := by kernel_rfl
@[go_sem] theorem Try.agg39 : aggO Try.prog 39 = some false := by kernel_rfl
@[go_sem] theorem Try.pln39 : plainO Try.prog 39 = some true := by kernel_rfl
@[go_sem] theorem Try.sz39 : szO Try.prog 39 = some 1 := by kernel_rfl
@[go_sem] theorem Try.zero39 : zeroL Try.prog 39 = some [.nilFn] := by kernel_rfl
@[go_sem] theorem Try.small39 : smallO Try.prog 39 = some (1, 8) := by kernel_rfl
@[go_sem] theorem Try.zt39 : zeroT Try.prog 39 = some (.nilFn) := by kernel_rfl
@[go_sem] theorem Try.agg40 : aggO Try.prog 40 = some false := by kernel_rfl
@[go_sem] theorem Try.pln40 : plainO Try.prog 40 = some true := by kernel_rfl
@[go_sem] theorem Try.sz40 : szO Try.prog 40 = some 1 := by kernel_rfl
@[go_sem] theorem Try.zero40 : zeroL Try.prog 40 = some [.nilFn] := by kernel_rfl
@[go_sem] theorem Try.small40 : smallO Try.prog 40 = some (1, 8) := by kernel_rfl
@[go_sem] theorem Try.zt40 : zeroT Try.prog 40 = some (.nilFn) := by kernel_rfl
@[go_sem] theorem Try.agg41 : aggO Try.prog 41 = some false := by kernel_rfl
@[go_sem] theorem Try.pln41 : plainO Try.prog 41 = some true := by kernel_rfl
@[go_sem] theorem Try.sz41 : szO Try.prog 41 = some 1 := by kernel_rfl
@[go_sem] theorem Try.zero41 : zeroL Try.prog 41 = some [.nilFn] := by kernel_rfl
@[go_sem] theorem Try.small41 : smallO Try.prog 41 = some (1, 8) := by kernel_rfl
@[go_sem] theorem Try.zt41 : zeroT Try.prog 41 = some (.nilFn) := by kernel_rfl
@[go_sem] theorem Try.agg42 : aggO Try.prog 42 = some true := by kernel_rfl
@[go_sem] theorem Try.pln42 : plainO Try.prog 42 = some true := by kernel_rfl
@[go_sem] theorem Try.sz42 : szO Try.prog 42 = some 3 := by kernel_rfl
@[go_sem] theorem Try.zero42 : zeroL Try.prog 42 = some [.int .i64 0, .int .i64 0, .int .i64 0] := by kernel_rfl
@[go_sem] theorem Try.small42 : smallO Try.prog 42 = some (3, 24) := by kernel_rfl
@[go_sem] theorem Try.zt42 : zeroT Try.prog 42 = some (.agg [.int .i64 0, .int .i64 0, .int .i64 0]) := by kernel_rfl
@[go_sem] theorem Try.fld42_0 : fieldO Try.prog 42 0 = some (0, 37) := by kernel_rfl
@[go_sem] theorem Try.fld42_1 : fieldO Try.prog 42 1 = some (2, 3) := by kernel_rfl
@[go_sem] theorem Try.bld42 (parts : List (Nat × TV)) : buildO Try.prog 42 parts = (fillT (fun i => ([(0, 2), (2, 1)] : List (Nat × Nat))[i]?) [.int .i64 0, .int .i64 0, .int .i64 0] parts).map .agg := by kernel_rfl
@[go_sem] theorem Try.eqg42 : Program.eqGuardType Try.prog (Program.depth Try.prog) 42 = false := by kernel_rfl
@[go_sem] theorem Try.agg43 : aggO Try.prog 43 = some true := by kernel_rfl
@[go_sem] theorem Try.pln43 : plainO Try.prog 43 = some true := by kernel_rfl
@[go_sem] theorem Try.sz43 : szO Try.prog 43 = some 3 := by kernel_rfl
@[go_sem] theorem Try.zero43 : zeroL Try.prog 43 = some [.int .i64 0, .int .i64 0, .int .i64 0] := by kernel_rfl
@[go_sem] theorem Try.small43 : smallO Try.prog 43 = some (3, 24) := by kernel_rfl
@[go_sem] theorem Try.zt43 : zeroT Try.prog 43 = some (.agg [.int .i64 0, .int .i64 0, .int .i64 0]) := by kernel_rfl
@[go_sem] theorem Try.fld43_0 : fieldO Try.prog 43 0 = some (0, 37) := by kernel_rfl
@[go_sem] theorem Try.fld43_1 : fieldO Try.prog 43 1 = some (2, 3) := by kernel_rfl
@[go_sem] theorem Try.bld43 (parts : List (Nat × TV)) : buildO Try.prog 43 parts = (fillT (fun i => ([(0, 2), (2, 1)] : List (Nat × Nat))[i]?) [.int .i64 0, .int .i64 0, .int .i64 0] parts).map .agg := by kernel_rfl
@[go_sem] theorem Try.eq43 (a0 b0 : Int) (a1 b1 : Int) (a2 b2 : Int) : eqT Try.prog 20 43 (.agg [.int .i64 a0, .int .i64 a1, .int .i64 a2]) (.agg [.int .i64 b0, .int .i64 b1, .int .i64 b2]) = some (((a0 == b0) && ((a1 == b1) && true)) && ((a2 == b2) && true)) := by kernel_rfl
@[go_sem] theorem Try.eqg43 : Program.eqGuardType Try.prog (Program.depth Try.prog) 43 = false := by kernel_rfl
@[go_sem] theorem Try.agg45 : aggO Try.prog 45 = some false := by kernel_rfl
@[go_sem] theorem Try.pln45 : plainO Try.prog 45 = some true := by kernel_rfl
@[go_sem] theorem Try.sz45 : szO Try.prog 45 = some 1 := by kernel_rfl
@[go_sem] theorem Try.zero45 : zeroL Try.prog 45 = some [.nilFn] := by kernel_rfl
@[go_sem] theorem Try.small45 : smallO Try.prog 45 = some (1, 8) := by kernel_rfl
@[go_sem] theorem Try.zt45 : zeroT Try.prog 45 = some (.nilFn) := by kernel_rfl
@[go_sem] theorem Try.agg47 : aggO Try.prog 47 = some false := by kernel_rfl
@[go_sem] theorem Try.pln47 : plainO Try.prog 47 = some true := by kernel_rfl
@[go_sem] theorem Try.sz47 : szO Try.prog 47 = some 1 := by kernel_rfl
@[go_sem] theorem Try.zero47 : zeroL Try.prog 47 = some [.nilFn] := by kernel_rfl
@[go_sem] theorem Try.small47 : smallO Try.prog 47 = some (1, 8) := by kernel_rfl
@[go_sem] theorem Try.zt47 : zeroT Try.prog 47 = some (.nilFn) := by kernel_rfl
@[go_sem] theorem Try.agg48 : aggO Try.prog 48 = some false := by kernel_rfl
@[go_sem] theorem Try.pln48 : plainO Try.prog 48 = some true := by kernel_rfl
@[go_sem] theorem Try.sz48 : szO Try.prog 48 = some 1 := by kernel_rfl
@[go_sem] theorem Try.zero48 : zeroL Try.prog 48 = some [.nilFn] := by kernel_rfl
@[go_sem] theorem Try.small48 : smallO Try.prog 48 = some (1, 8) := by kernel_rfl
@[go_sem] theorem Try.zt48 : zeroT Try.prog 48 = some (.nilFn) := by kernel_rfl
@[go_sem] theorem Try.agg49 : aggO Try.prog 49 = some false := by kernel_rfl
@[go_sem] theorem Try.pln49 : plainO Try.prog 49 = some true := by kernel_rfl
@[go_sem] theorem Try.sz49 : szO Try.prog 49 = some 1 := by kernel_rfl
@[go_sem] theorem Try.zero49 : zeroL Try.prog 49 = some [.nilSl] := by kernel_rfl
@[go_sem] theorem Try.small49 : smallO Try.prog 49 = some (1, 24) := by kernel_rfl
@[go_sem] theorem Try.zt49 : zeroT Try.prog 49 = some (.nilSl) := by kernel_rfl
@[go_sem] theorem Try.eqn49 : eqT Try.prog 20 49 .nilSl .nilSl = some true := by kernel_rfl
@[go_sem] theorem Try.eqs49 (cs : List TV) (n : Nat) (f : Bool) : eqT Try.prog 20 49 (.sl cs n f) .nilSl = some false := by kernel_rfl
@[go_sem] theorem Try.eqt49 (cs : List TV) (n : Nat) (f : Bool) : eqT Try.prog 20 49 .nilSl (.sl cs n f) = some false := by kernel_rfl
@[go_sem] theorem Try.sl49 : sliceO Try.prog 49 = some 28 := by kernel_rfl
@[go_sem] theorem Try.und49 : Program.underlying Try.prog 49 = some (.slice 28) := by kernel_rfl
@[go_sem] theorem Try.agg51 : aggO Try.prog 51 = some false := by kernel_rfl
@[go_sem] theorem Try.pln51 : plainO Try.prog 51 = some true := by kernel_rfl
@[go_sem] theorem Try.sz51 : szO Try.prog 51 = some 1 := by kernel_rfl
@[go_sem] theorem Try.zero51 : zeroL Try.prog 51 = some [.nilFn] := by kernel_rfl
@[go_sem] theorem Try.small51 : smallO Try.prog 51 = some (1, 8) := by kernel_rfl
@[go_sem] theorem Try.zt51 : zeroT Try.prog 51 = some (.nilFn) := by kernel_rfl
@[go_sem] theorem Try.agg53 : aggO Try.prog 53 = some false := by kernel_rfl
@[go_sem] theorem Try.pln53 : plainO Try.prog 53 = some true := by kernel_rfl
@[go_sem] theorem Try.sz53 : szO Try.prog 53 = some 1 := by kernel_rfl
@[go_sem] theorem Try.zero53 : zeroL Try.prog 53 = some [.nilFn] := by kernel_rfl
@[go_sem] theorem Try.small53 : smallO Try.prog 53 = some (1, 8) := by kernel_rfl
@[go_sem] theorem Try.zt53 : zeroT Try.prog 53 = some (.nilFn) := by kernel_rfl
@[go_sem] theorem Try.agg54 : aggO Try.prog 54 = some false := by kernel_rfl
@[go_sem] theorem Try.pln54 : plainO Try.prog 54 = some true := by kernel_rfl
@[go_sem] theorem Try.sz54 : szO Try.prog 54 = some 1 := by kernel_rfl
@[go_sem] theorem Try.zero54 : zeroL Try.prog 54 = some [.nilFn] := by kernel_rfl
@[go_sem] theorem Try.small54 : smallO Try.prog 54 = some (1, 8) := by kernel_rfl
@[go_sem] theorem Try.zt54 : zeroT Try.prog 54 = some (.nilFn) := by kernel_rfl
@[go_sem] theorem Try.agg55 : aggO Try.prog 55 = some false := by kernel_rfl
@[go_sem] theorem Try.pln55 : plainO Try.prog 55 = some true := by kernel_rfl
@[go_sem] theorem Try.sz55 : szO Try.prog 55 = some 1 := by kernel_rfl
@[go_sem] theorem Try.zero55 : zeroL Try.prog 55 = some [.nilFn] := by kernel_rfl
@[go_sem] theorem Try.small55 : smallO Try.prog 55 = some (1, 8) := by kernel_rfl
@[go_sem] theorem Try.zt55 : zeroT Try.prog 55 = some (.nilFn) := by kernel_rfl
@[go_sem] theorem Try.agg56 : aggO Try.prog 56 = some false := by kernel_rfl
@[go_sem] theorem Try.pln56 : plainO Try.prog 56 = some true := by kernel_rfl
@[go_sem] theorem Try.sz56 : szO Try.prog 56 = some 1 := by kernel_rfl
@[go_sem] theorem Try.zero56 : zeroL Try.prog 56 = some [.nilSl] := by kernel_rfl
@[go_sem] theorem Try.small56 : smallO Try.prog 56 = some (1, 24) := by kernel_rfl
@[go_sem] theorem Try.zt56 : zeroT Try.prog 56 = some (.nilSl) := by kernel_rfl
@[go_sem] theorem Try.eqn56 : eqT Try.prog 20 56 .nilSl .nilSl = some true := by kernel_rfl
@[go_sem] theorem Try.eqs56 (cs : List TV) (n : Nat) (f : Bool) : eqT Try.prog 20 56 (.sl cs n f) .nilSl = some false := by kernel_rfl
@[go_sem] theorem Try.eqt56 (cs : List TV) (n : Nat) (f : Bool) : eqT Try.prog 20 56 .nilSl (.sl cs n f) = some false := by kernel_rfl
@[go_sem] theorem Try.sl56 : sliceO Try.prog 56 = some 93 := by kernel_rfl
@[go_sem] theorem Try.und56 : Program.underlying Try.prog 56 = some (.slice 93) := by kernel_rfl
@[go_sem] theorem Try.agg58 : aggO Try.prog 58 = some false := by kernel_rfl
@[go_sem] theorem Try.pln58 : plainO Try.prog 58 = some true := by kernel_rfl
@[go_sem] theorem Try.sz58 : szO Try.prog 58 = some 1 := by kernel_rfl
@[go_sem] theorem Try.zero58 : zeroL Try.prog 58 = some [.nilFn] := by kernel_rfl
@[go_sem] theorem Try.small58 : smallO Try.prog 58 = some (1, 8) := by kernel_rfl
@[go_sem] theorem Try.zt58 : zeroT Try.prog 58 = some (.nilFn) := by kernel_rfl
@[go_sem] theorem Try.agg59 : aggO Try.prog 59 = some false := by kernel_rfl
@[go_sem] theorem Try.pln59 : plainO Try.prog 59 = some true := by kernel_rfl
@[go_sem] theorem Try.sz59 : szO Try.prog 59 = some 1 := by kernel_rfl
@[go_sem] theorem Try.zero59 : zeroL Try.prog 59 = some [.nilFn] := by kernel_rfl
@[go_sem] theorem Try.small59 : smallO Try.prog 59 = some (1, 8) := by kernel_rfl
@[go_sem] theorem Try.zt59 : zeroT Try.prog 59 = some (.nilFn) := by kernel_rfl
@[go_sem] theorem Try.agg60 : aggO Try.prog 60 = some false := by kernel_rfl
@[go_sem] theorem Try.pln60 : plainO Try.prog 60 = some true := by kernel_rfl
@[go_sem] theorem Try.sz60 : szO Try.prog 60 = some 1 := by kernel_rfl
@[go_sem] theorem Try.zero60 : zeroL Try.prog 60 = some [.nilFn] := by kernel_rfl
@[go_sem] theorem Try.small60 : smallO Try.prog 60 = some (1, 8) := by kernel_rfl
@[go_sem] theorem Try.zt60 : zeroT Try.prog 60 = some (.nilFn) := by kernel_rfl
@[go_sem] theorem Try.agg61 : aggO Try.prog 61 = some false := by kernel_rfl
@[go_sem] theorem Try.pln61 : plainO Try.prog 61 = some true := by kernel_rfl
@[go_sem] theorem Try.sz61 : szO Try.prog 61 = some 1 := by kernel_rfl
@[go_sem] theorem Try.zero61 : zeroL Try.prog 61 = some [.nilFn] := by kernel_rfl
@[go_sem] theorem Try.small61 : smallO Try.prog 61 = some (1, 8) := by kernel_rfl
@[go_sem] theorem Try.zt61 : zeroT Try.prog 61 = some (.nilFn) := by kernel_rfl
@[go_sem] theorem Try.agg62 : aggO Try.prog 62 = some false := by kernel_rfl
@[go_sem] theorem Try.pln62 : plainO Try.prog 62 = some true := by kernel_rfl
@[go_sem] theorem Try.sz62 : szO Try.prog 62 = some 1 := by kernel_rfl
@[go_sem] theorem Try.zero62 : zeroL Try.prog 62 = some [.nilFn] := by kernel_rfl
@[go_sem] theorem Try.small62 : smallO Try.prog 62 = some (1, 8) := by kernel_rfl
@[go_sem] theorem Try.zt62 : zeroT Try.prog 62 = some (.nilFn) := by kernel_rfl
@[go_sem] theorem Try.agg63 : aggO Try.prog 63 = some false := by kernel_rfl
@[go_sem] theorem Try.pln63 : plainO Try.prog 63 = some true := by kernel_rfl
@[go_sem] theorem Try.sz63 : szO Try.prog 63 = some 1 := by kernel_rfl
@[go_sem] theorem Try.zero63 : zeroL Try.prog 63 = some [.nilFn] := by kernel_rfl
@[go_sem] theorem Try.small63 : smallO Try.prog 63 = some (1, 8) := by kernel_rfl
@[go_sem] theorem Try.zt63 : zeroT Try.prog 63 = some (.nilFn) := by kernel_rfl
@[go_sem] theorem Try.agg64 : aggO Try.prog 64 = some false := by kernel_rfl
@[go_sem] theorem Try.pln64 : plainO Try.prog 64 = some true := by kernel_rfl
@[go_sem] theorem Try.sz64 : szO Try.prog 64 = some 1 := by kernel_rfl
@[go_sem] theorem Try.zero64 : zeroL Try.prog 64 = some [.nilFn] := by kernel_rfl
@[go_sem] theorem Try.small64 : smallO Try.prog 64 = some (1, 8) := by kernel_rfl
@[go_sem] theorem Try.zt64 : zeroT Try.prog 64 = some (.nilFn) := by kernel_rfl
@[go_sem] theorem Try.agg65 : aggO Try.prog 65 = some false := by kernel_rfl
@[go_sem] theorem Try.pln65 : plainO Try.prog 65 = some true := by kernel_rfl
@[go_sem] theorem Try.sz65 : szO Try.prog 65 = some 1 := by kernel_rfl
@[go_sem] theorem Try.zero65 : zeroL Try.prog 65 = some [.nilFn] := by kernel_rfl
@[go_sem] theorem Try.small65 : smallO Try.prog 65 = some (1, 8) := by kernel_rfl
@[go_sem] theorem Try.zt65 : zeroT Try.prog 65 = some (.nilFn) := by kernel_rfl
@[go_sem] theorem Try.agg66 : aggO Try.prog 66 = some false := by kernel_rfl
@[go_sem] theorem Try.pln66 : plainO Try.prog 66 = some true := by kernel_rfl
@[go_sem] theorem Try.sz66 : szO Try.prog 66 = some 1 := by kernel_rfl
@[go_sem] theorem Try.zero66 : zeroL Try.prog 66 = some [.nilFn] := by kernel_rfl
@[go_sem] theorem Try.small66 : smallO Try.prog 66 = some (1, 8) := by kernel_rfl
@[go_sem] theorem Try.zt66 : zeroT Try.prog 66 = some (.nilFn) := by kernel_rfl
@[go_sem] theorem Try.agg67 : aggO Try.prog 67 = some false := by kernel_rfl
@[go_sem] theorem Try.pln67 : plainO Try.prog 67 = some true := by kernel_rfl
@[go_sem] theorem Try.sz67 : szO Try.prog 67 = some 1 := by kernel_rfl
@[go_sem] theorem Try.zero67 : zeroL Try.prog 67 = some [.nilFn] := by kernel_rfl
@[go_sem] theorem Try.small67 : smallO Try.prog 67 = some (1, 8) := by kernel_rfl
@[go_sem] theorem Try.zt67 : zeroT Try.prog 67 = some (.nilFn) := by kernel_rfl
@[go_sem] theorem Try.agg68 : aggO Try.prog 68 = some true := by kernel_rfl
@[go_sem] theorem Try.pln68 : plainO Try.prog 68 = some true := by kernel_rfl
@[go_sem] theorem Try.sz68 : szO Try.prog 68 = some 6 := by kernel_rfl
@[go_sem] theorem Try.zero68 : zeroL Try.prog 68 = some [.nilSl, .nilSl, .int .i64 0, .int .i64 0, .int .i64 0, .int .i64 0] := by kernel_rfl
@[go_sem] theorem Try.small68 : smallO Try.prog 68 = some (6, 80) := by kernel_rfl
@[go_sem] theorem Try.zt68 : zeroT Try.prog 68 = some (.agg [.nilSl, .nilSl, .int .i64 0, .int .i64 0, .int .i64 0, .int .i64 0]) := by kernel_rfl
@[go_sem] theorem Try.fld68_0 : fieldO Try.prog 68 0 = some (0, 29) := by kernel_rfl
@[go_sem] theorem Try.fld68_1 : fieldO Try.prog 68 1 = some (1, 23) := by kernel_rfl
@[go_sem] theorem Try.fld68_2 : fieldO Try.prog 68 2 = some (2, 37) := by kernel_rfl
@[go_sem] theorem Try.fld68_3 : fieldO Try.prog 68 3 = some (4, 37) := by kernel_rfl
@[go_sem] theorem Try.bld68 (parts : List (Nat × TV)) : buildO Try.prog 68 parts = (fillT (fun i => ([(0, 1), (1, 1), (2, 2), (4, 2)] : List (Nat × Nat))[i]?) [.nilSl, .nilSl, .int .i64 0, .int .i64 0, .int .i64 0, .int .i64 0] parts).map .agg := by kernel_rfl
@[go_sem] theorem Try.bldp68 (parts : List (Nat × PV)) : buildP Try.prog 68 parts = fillP (fun i => ([(0, 1), (1, 1), (2, 2), (4, 2)] : List (Nat × Nat))[i]?) [.t (.nilSl), .t (.nilSl), .t (.int .i64 0), .t (.int .i64 0), .t (.int .i64 0), .t (.int .i64 0)] parts := by kernel_rfl
@[go_sem] theorem Try.eqg68 : Program.eqGuardType Try.prog (Program.depth Try.prog) 68 = false := by kernel_rfl
@[go_sem] theorem Try.agg69 : aggO Try.prog 69 = some true := by kernel_rfl
@[go_sem] theorem Try.pln69 : plainO Try.prog 69 = some true := by kernel_rfl
@[go_sem] theorem Try.sz69 : szO Try.prog 69 = some 6 := by kernel_rfl
@[go_sem] theorem Try.zero69 : zeroL Try.prog 69 = some [.nilSl, .nilSl, .int .i64 0, .int .i64 0, .int .i64 0, .int .i64 0] := by kernel_rfl
@[go_sem] theorem Try.small69 : smallO Try.prog 69 = some (6, 80) := by kernel_rfl
@[go_sem] theorem Try.zt69 : zeroT Try.prog 69 = some (.agg [.nilSl, .nilSl, .int .i64 0, .int .i64 0, .int .i64 0, .int .i64 0]) := by kernel_rfl
@[go_sem] theorem Try.fld69_0 : fieldO Try.prog 69 0 = some (0, 29) := by kernel_rfl
@[go_sem] theorem Try.fld69_1 : fieldO Try.prog 69 1 = some (1, 23) := by kernel_rfl
@[go_sem] theorem Try.fld69_2 : fieldO Try.prog 69 2 = some (2, 37) := by kernel_rfl
@[go_sem] theorem Try.fld69_3 : fieldO Try.prog 69 3 = some (4, 37) := by kernel_rfl
@[go_sem] theorem Try.bld69 (parts : List (Nat × TV)) : buildO Try.prog 69 parts = (fillT (fun i => ([(0, 1), (1, 1), (2, 2), (4, 2)] : List (Nat × Nat))[i]?) [.nilSl, .nilSl, .int .i64 0, .int .i64 0, .int .i64 0, .int .i64 0] parts).map .agg := by kernel_rfl
@[go_sem] theorem Try.bldp69 (parts : List (Nat × PV)) : buildP Try.prog 69 parts = fillP (fun i => ([(0, 1), (1, 1), (2, 2), (4, 2)] : List (Nat × Nat))[i]?) [.t (.nilSl), .t (.nilSl), .t (.int .i64 0), .t (.int .i64 0), .t (.int .i64 0), .t (.int .i64 0)] parts := by kernel_rfl
@[go_sem] theorem Try.eqg69 : Program.eqGuardType Try.prog (Program.depth Try.prog) 69 = false := by kernel_rfl
@[go_sem] theorem Try.agg70 : aggO Try.prog 70 = some false := by kernel_rfl
@[go_sem] theorem Try.pln70 : plainO Try.prog 70 = some true := by kernel_rfl
@[go_sem] theorem Try.sz70 : szO Try.prog 70 = some 1 := by kernel_rfl
@[go_sem] theorem Try.zero70 : zeroL Try.prog 70 = some [.nilFn] := by kernel_rfl
@[go_sem] theorem Try.small70 : smallO Try.prog 70 = some (1, 8) := by kernel_rfl
@[go_sem] theorem Try.zt70 : zeroT Try.prog 70 = some (.nilFn) := by kernel_rfl
@[go_sem] theorem Try.agg71 : aggO Try.prog 71 = some false := by kernel_rfl
@[go_sem] theorem Try.pln71 : plainO Try.prog 71 = some true := by kernel_rfl
@[go_sem] theorem Try.sz71 : szO Try.prog 71 = some 1 := by kernel_rfl
@[go_sem] theorem Try.zero71 : zeroL Try.prog 71 = some [.nilFn] := by kernel_rfl
@[go_sem] theorem Try.small71 : smallO Try.prog 71 = some (1, 8) := by kernel_rfl
@[go_sem] theorem Try.zt71 : zeroT Try.prog 71 = some (.nilFn) := by kernel_rfl
@[go_sem] theorem Try.agg72 : aggO Try.prog 72 = some false := by kernel_rfl
@[go_sem] theorem Try.pln72 : plainO Try.prog 72 = some true := by kernel_rfl
@[go_sem] theorem Try.sz72 : szO Try.prog 72 = some 1 := by kernel_rfl
@[go_sem] theorem Try.zero72 : zeroL Try.prog 72 = some [.nilSl] := by kernel_rfl
@[go_sem] theorem Try.small72 : smallO Try.prog 72 = some (1, 24) := by kernel_rfl
@[go_sem] theorem Try.zt72 : zeroT Try.prog 72 = some (.nilSl) := by kernel_rfl
@[go_sem] theorem Try.eqn72 : eqT Try.prog 20 72 .nilSl .nilSl = some true := by kernel_rfl
@[go_sem] theorem Try.eqs72 (cs : List TV) (n : Nat) (f : Bool) : eqT Try.prog 20 72 (.sl cs n f) .nilSl = some false := by kernel_rfl
@[go_sem] theorem Try.eqt72 (cs : List TV) (n : Nat) (f : Bool) : eqT Try.prog 20 72 .nilSl (.sl cs n f) = some false := by kernel_rfl
@[go_sem] theorem Try.sl72 : sliceO Try.prog 72 = some 29 := by kernel_rfl
@[go_sem] theorem Try.und72 : Program.underlying Try.prog 72 = some (.slice 29) := by kernel_rfl
@[go_sem] theorem Try.agg74 : aggO Try.prog 74 = some false := by kernel_rfl
@[go_sem] theorem Try.pln74 : plainO Try.prog 74 = some true := by kernel_rfl
@[go_sem] theorem Try.sz74 : szO Try.prog 74 = some 1 := by kernel_rfl
@[go_sem] theorem Try.zero74 : zeroL Try.prog 74 = some [.nilFn] := by kernel_rfl
@[go_sem] theorem Try.small74 : smallO Try.prog 74 = some (1, 8) := by kernel_rfl
@[go_sem] theorem Try.zt74 : zeroT Try.prog 74 = some (.nilFn) := by kernel_rfl
@[go_sem] theorem Try.agg75 : aggO Try.prog 75 = some true := by kernel_rfl
@[go_sem] theorem Try.pln75 : plainO Try.prog 75 = some true := by kernel_rfl
@[go_sem] theorem Try.sz75 : szO Try.prog 75 = some 6 := by kernel_rfl
@[go_sem] theorem Try.zero75 : zeroL Try.prog 75 = some [.int .i64 0, .int .i64 0, .int .i64 0, .int .i64 0, .int .i64 0, .int .i64 0] := by kernel_rfl
@[go_sem] theorem Try.small75 : smallO Try.prog 75 = some (6, 48) := by kernel_rfl
@[go_sem] theorem Try.zt75 : zeroT Try.prog 75 = some (.agg [.int .i64 0, .int .i64 0, .int .i64 0, .int .i64 0, .int .i64 0, .int .i64 0]) := by kernel_rfl
@[go_sem] theorem Try.bld75 (parts : List (Nat × TV)) : buildO Try.prog 75 parts = (fillT (fun i => some (i * 2, 2)) [.int .i64 0, .int .i64 0, .int .i64 0, .int .i64 0, .int .i64 0, .int .i64 0] parts).map .agg := by kernel_rfl
@[go_sem] theorem Try.eq75 (a0 b0 : Int) (a1 b1 : Int) (a2 b2 : Int) (a3 b3 : Int) (a4 b4 : Int) (a5 b5 : Int) : eqT Try.prog 20 75 (.agg [.int .i64 a0, .int .i64 a1, .int .i64 a2, .int .i64 a3, .int .i64 a4, .int .i64 a5]) (.agg [.int .i64 b0, .int .i64 b1, .int .i64 b2, .int .i64 b3, .int .i64 b4, .int .i64 b5]) = some (((a0 == b0) && ((a1 == b1) && true)) && (((a2 == b2) && ((a3 == b3) && true)) && (((a4 == b4) && ((a5 == b5) && true)) && true))) := by kernel_rfl
@[go_sem] theorem Try.eqg75 : Program.eqGuardType Try.prog (Program.depth Try.prog) 75 = false := by kernel_rfl
@[go_sem] theorem Try.arr75 : arrayO Try.prog 75 = some (3, 37) := by kernel_rfl
@[go_sem] theorem Try.und75 : Program.underlying Try.prog 75 = some (.array 3 37) := by kernel_rfl
@[go_sem] theorem Try.agg76 : aggO Try.prog 76 = some true := by kernel_rfl
@[go_sem] theorem Try.pln76 : plainO Try.prog 76 = some true := by kernel_rfl
@[go_sem] theorem Try.sz76 : szO Try.prog 76 = some 9 := by kernel_rfl
@[go_sem] theorem Try.zero76 : zeroL Try.prog 76 = some [.nilSl, .nilSl, .int .i64 0, .int .i64 0, .int .i64 0, .int .i64 0, .int .i64 0, .int .i64 0, .int .i64 0] := by kernel_rfl
@[go_sem] theorem Try.small76 : smallO Try.prog 76 = some (9, 104) := by kernel_rfl
@[go_sem] theorem Try.zt76 : zeroT Try.prog 76 = some (.agg [.nilSl, .nilSl, .int .i64 0, .int .i64 0, .int .i64 0, .int .i64 0, .int .i64 0, .int .i64 0, .int .i64 0]) := by kernel_rfl
@[go_sem] theorem Try.fld76_0 : fieldO Try.prog 76 0 = some (0, 29) := by kernel_rfl
@[go_sem] theorem Try.fld76_1 : fieldO Try.prog 76 1 = some (1, 29) := by kernel_rfl
@[go_sem] theorem Try.fld76_2 : fieldO Try.prog 76 2 = some (2, 3) := by kernel_rfl
@[go_sem] theorem Try.fld76_3 : fieldO Try.prog 76 3 = some (3, 75) := by kernel_rfl
@[go_sem] theorem Try.bld76 (parts : List (Nat × TV)) : buildO Try.prog 76 parts = (fillT (fun i => ([(0, 1), (1, 1), (2, 1), (3, 6)] : List (Nat × Nat))[i]?) [.nilSl, .nilSl, .int .i64 0, .int .i64 0, .int .i64 0, .int .i64 0, .int .i64 0, .int .i64 0, .int .i64 0] parts).map .agg := by kernel_rfl
@[go_sem] theorem Try.bldp76 (parts : List (Nat × PV)) : buildP Try.prog 76 parts = fillP (fun i => ([(0, 1), (1, 1), (2, 1), (3, 6)] : List (Nat × Nat))[i]?) [.t (.nilSl), .t (.nilSl), .t (.int .i64 0), .t (.int .i64 0), .t (.int .i64 0), .t (.int .i64 0), .t (.int .i64 0), .t (.int .i64 0), .t (.int .i64 0)] parts := by kernel_rfl
@[go_sem] theorem Try.eqg76 : Program.eqGuardType Try.prog (Program.depth Try.prog) 76 = false := by kernel_rfl
@[go_sem] theorem Try.agg77 : aggO Try.prog 77 = some true := by kernel_rfl
@[go_sem] theorem Try.pln77 : plainO Try.prog 77 = some true := by kernel_rfl
@[go_sem] theorem Try.sz77 : szO Try.prog 77 = some 9 := by kernel_rfl
@[go_sem] theorem Try.zero77 : zeroL Try.prog 77 = some [.nilSl, .nilSl, .int .i64 0, .int .i64 0, .int .i64 0, .int .i64 0, .int .i64 0, .int .i64 0, .int .i64 0] := by kernel_rfl
@[go_sem] theorem Try.small77 : smallO Try.prog 77 = some (9, 104) := by kernel_rfl
@[go_sem] theorem Try.zt77 : zeroT Try.prog 77 = some (.agg [.nilSl, .nilSl, .int .i64 0, .int .i64 0, .int .i64 0, .int .i64 0, .int .i64 0, .int .i64 0, .int .i64 0]) := by kernel_rfl
@[go_sem] theorem Try.fld77_0 : fieldO Try.prog 77 0 = some (0, 29) := by kernel_rfl
@[go_sem] theorem Try.fld77_1 : fieldO Try.prog 77 1 = some (1, 29) := by kernel_rfl
@[go_sem] theorem Try.fld77_2 : fieldO Try.prog 77 2 = some (2, 3) := by kernel_rfl
@[go_sem] theorem Try.fld77_3 : fieldO Try.prog 77 3 = some (3, 75) := by kernel_rfl
@[go_sem] theorem Try.bld77 (parts : List (Nat × TV)) : buildO Try.prog 77 parts = (fillT (fun i => ([(0, 1), (1, 1), (2, 1), (3, 6)] : List (Nat × Nat))[i]?) [.nilSl, .nilSl, .int .i64 0, .int .i64 0, .int .i64 0, .int .i64 0, .int .i64 0, .int .i64 0, .int .i64 0] parts).map .agg := by kernel_rfl
@[go_sem] theorem Try.bldp77 (parts : List (Nat × PV)) : buildP Try.prog 77 parts = fillP (fun i => ([(0, 1), (1, 1), (2, 1), (3, 6)] : List (Nat × Nat))[i]?) [.t (.nilSl), .t (.nilSl), .t (.int .i64 0), .t (.int .i64 0), .t (.int .i64 0), .t (.int .i64 0), .t (.int .i64 0), .t (.int .i64 0), .t (.int .i64 0)] parts := by kernel_rfl
@[go_sem] theorem Try.eqg77 : Program.eqGuardType Try.prog (Program.depth Try.prog) 77 = false := by kernel_rfl
@[go_sem] theorem Try.agg78 : aggO Try.prog 78 = some false := by kernel_rfl
@[go_sem] theorem Try.pln78 : plainO Try.prog 78 = some true := by kernel_rfl
@[go_sem] theorem Try.sz78 : szO Try.prog 78 = some 1 := by kernel_rfl
@[go_sem] theorem Try.zero78 : zeroL Try.prog 78 = some [.nilFn] := by kernel_rfl
@[go_sem] theorem Try.small78 : smallO Try.prog 78 = some (1, 8) := by kernel_rfl
@[go_sem] theorem Try.zt78 : zeroT Try.prog 78 = some (.nilFn) := by kernel_rfl
@[go_sem] theorem Try.agg79 : aggO Try.prog 79 = some false := by kernel_rfl
@[go_sem] theorem Try.pln79 : plainO Try.prog 79 = some true := by kernel_rfl
@[go_sem] theorem Try.sz79 : szO Try.prog 79 = some 1 := by kernel_rfl
@[go_sem] theorem Try.zero79 : zeroL Try.prog 79 = some [.nilFn] := by kernel_rfl
@[go_sem] theorem Try.small79 : smallO Try.prog 79 = some (1, 8) := by kernel_rfl
@[go_sem] theorem Try.zt79 : zeroT Try.prog 79 = some (.nilFn) := by kernel_rfl
@[go_sem] theorem Try.agg81 : aggO Try.prog 81 = some false := by kernel_rfl
@[go_sem] theorem Try.pln81 : plainO Try.prog 81 = some true := by kernel_rfl
@[go_sem] theorem Try.sz81 : szO Try.prog 81 = some 1 := by kernel_rfl
@[go_sem] theorem Try.zero81 : zeroL Try.prog 81 = some [.nilFn] := by kernel_rfl
@[go_sem] theorem Try.small81 : smallO Try.prog 81 = some (1, 8) := by kernel_rfl
@[go_sem] theorem Try.zt81 : zeroT Try.prog 81 = some (.nilFn) := by kernel_rfl
@[go_sem] theorem Try.agg82 : aggO Try.prog 82 = some false := by kernel_rfl
@[go_sem] theorem Try.pln82 : plainO Try.prog 82 = some true := by kernel_rfl
@[go_sem] theorem Try.sz82 : szO Try.prog 82 = some 1 := by kernel_rfl
@[go_sem] theorem Try.zero82 : zeroL Try.prog 82 = some [.nilFn] := by kernel_rfl
@[go_sem] theorem Try.small82 : smallO Try.prog 82 = some (1, 8) := by kernel_rfl
@[go_sem] theorem Try.zt82 : zeroT Try.prog 82 = some (.nilFn) := by kernel_rfl
@[go_sem] theorem Try.agg83 : aggO Try.prog 83 = some false := by kernel_rfl
@[go_sem] theorem Try.pln83 : plainO Try.prog 83 = some true := by kernel_rfl
@[go_sem] theorem Try.sz83 : szO Try.prog 83 = some 1 := by kernel_rfl
@[go_sem] theorem Try.zero83 : zeroL Try.prog 83 = some [.nilFn] := by kernel_rfl
@[go_sem] theorem Try.small83 : smallO Try.prog 83 = some (1, 8) := by kernel_rfl
@[go_sem] theorem Try.zt83 : zeroT Try.prog 83 = some (.nilFn) := by kernel_rfl
@[go_sem] theorem Try.agg84 : aggO Try.prog 84 = some false := by kernel_rfl
@[go_sem] theorem Try.pln84 : plainO Try.prog 84 = some true := by kernel_rfl
@[go_sem] theorem Try.sz84 : szO Try.prog 84 = some 1 := by kernel_rfl
@[go_sem] theorem Try.zero84 : zeroL Try.prog 84 = some [.nilFn] := by kernel_rfl
@[go_sem] theorem Try.small84 : smallO Try.prog 84 = some (1, 8) := by kernel_rfl
@[go_sem] theorem Try.zt84 : zeroT Try.prog 84 = some (.nilFn) := by kernel_rfl
@[go_sem] theorem Try.agg85 : aggO Try.prog 85 = some false := by kernel_rfl
@[go_sem] theorem Try.pln85 : plainO Try.prog 85 = some true := by kernel_rfl
@[go_sem] theorem Try.sz85 : szO Try.prog 85 = some 1 := by kernel_rfl
@[go_sem] theorem Try.zero85 : zeroL Try.prog 85 = some [.nilFn] := by kernel_rfl
@[go_sem] theorem Try.small85 : smallO Try.prog 85 = some (1, 8) := by kernel_rfl
@[go_sem] theorem Try.zt85 : zeroT Try.prog 85 = some (.nilFn) := by kernel_rfl
@[go_sem] theorem Try.agg86 : aggO Try.prog 86 = some true := by kernel_rfl
@[go_sem] theorem Try.pln86 : plainO Try.prog 86 = some true := by kernel_rfl
@[go_sem] theorem Try.sz86 : szO Try.prog 86 = some 5 := by kernel_rfl
@[go_sem] theorem Try.zero86 : zeroL Try.prog 86 = some [.int .i64 0, .int .i64 0, .int .i64 0, .int .i64 0, .int .i64 0] := by kernel_rfl
@[go_sem] theorem Try.small86 : smallO Try.prog 86 = some (5, 40) := by kernel_rfl
@[go_sem] theorem Try.zt86 : zeroT Try.prog 86 = some (.agg [.int .i64 0, .int .i64 0, .int .i64 0, .int .i64 0, .int .i64 0]) := by kernel_rfl
@[go_sem] theorem Try.fld86_0 : fieldO Try.prog 86 0 = some (0, 37) := by kernel_rfl
@[go_sem] theorem Try.fld86_1 : fieldO Try.prog 86 1 = some (2, 37) := by kernel_rfl
@[go_sem] theorem Try.fld86_2 : fieldO Try.prog 86 2 = some (4, 3) := by kernel_rfl
@[go_sem] theorem Try.bld86 (parts : List (Nat × TV)) : buildO Try.prog 86 parts = (fillT (fun i => ([(0, 2), (2, 2), (4, 1)] : List (Nat × Nat))[i]?) [.int .i64 0, .int .i64 0, .int .i64 0, .int .i64 0, .int .i64 0] parts).map .agg := by kernel_rfl
@[go_sem] theorem Try.eqg86 : Program.eqGuardType Try.prog (Program.depth Try.prog) 86 = false := by kernel_rfl
@[go_sem] theorem Try.agg87 : aggO Try.prog 87 = some true := by kernel_rfl
@[go_sem] theorem Try.pln87 : plainO Try.prog 87 = some true := by kernel_rfl
@[go_sem] theorem Try.sz87 : szO Try.prog 87 = some 5 := by kernel_rfl
@[go_sem] theorem Try.zero87 : zeroL Try.prog 87 = some [.int .i64 0, .int .i64 0, .int .i64 0, .int .i64 0, .int .i64 0] := by kernel_rfl
@[go_sem] theorem Try.small87 : smallO Try.prog 87 = some (5, 40) := by kernel_rfl
@[go_sem] theorem Try.zt87 : zeroT Try.prog 87 = some (.agg [.int .i64 0, .int .i64 0, .int .i64 0, .int .i64 0, .int .i64 0]) := by kernel_rfl
@[go_sem] theorem Try.fld87_0 : fieldO Try.prog 87 0 = some (0, 37) := by kernel_rfl
@[go_sem] theorem Try.fld87_1 : fieldO Try.prog 87 1 = some (2, 37) := by kernel_rfl
@[go_sem] theorem Try.fld87_2 : fieldO Try.prog 87 2 = some (4, 3) := by kernel_rfl
@[go_sem] theorem Try.bld87 (parts : List (Nat × TV)) : buildO Try.prog 87 parts = (fillT (fun i => ([(0, 2), (2, 2), (4, 1)] : List (Nat × Nat))[i]?) [.int .i64 0, .int .i64 0, .int .i64 0, .int .i64 0, .int .i64 0] parts).map .agg := by kernel_rfl
@[go_sem] theorem Try.eq87 (a0 b0 : Int) (a1 b1 : Int) (a2 b2 : Int) (a3 b3 : Int) (a4 b4 : Int) : eqT Try.prog 20 87 (.agg [.int .i64 a0, .int .i64 a1, .int .i64 a2, .int .i64 a3, .int .i64 a4]) (.agg [.int .i64 b0, .int .i64 b1, .int .i64 b2, .int .i64 b3, .int .i64 b4]) = some (((a0 == b0) && ((a1 == b1) && true)) && (((a2 == b2) && ((a3 == b3) && true)) && ((a4 == b4) && true))) := by kernel_rfl
@[go_sem] theorem Try.eqg87 : Program.eqGuardType Try.prog (Program.depth Try.prog) 87 = false := by kernel_rfl
@[go_sem] theorem Try.agg88 : aggO Try.prog 88 = some false := by kernel_rfl
@[go_sem] theorem Try.pln88 : plainO Try.prog 88 = some true := by kernel_rfl
@[go_sem] theorem Try.sz88 : szO Try.prog 88 = some 1 := by kernel_rfl
@[go_sem] theorem Try.zero88 : zeroL Try.prog 88 = some [.nilFn] := by kernel_rfl
@[go_sem] theorem Try.small88 : smallO Try.prog 88 = some (1, 8) := by kernel_rfl
@[go_sem] theorem Try.zt88 : zeroT Try.prog 88 = some (.nilFn) := by kernel_rfl
@[go_sem] theorem Try.agg89 : aggO Try.prog 89 = some false := by kernel_rfl
@[go_sem] theorem Try.pln89 : plainO Try.prog 89 = some true := by kernel_rfl
@[go_sem] theorem Try.sz89 : szO Try.prog 89 = some 1 := by kernel_rfl
@[go_sem] theorem Try.zero89 : zeroL Try.prog 89 = some [.nilFn] := by kernel_rfl
@[go_sem] theorem Try.small89 : smallO Try.prog 89 = some (1, 8) := by kernel_rfl
@[go_sem] theorem Try.zt89 : zeroT Try.prog 89 = some (.nilFn) := by kernel_rfl
@[go_sem] theorem Try.agg90 : aggO Try.prog 90 = some false := by kernel_rfl
@[go_sem] theorem Try.pln90 : plainO Try.prog 90 = some true := by kernel_rfl
@[go_sem] theorem Try.sz90 : szO Try.prog 90 = some 1 := by kernel_rfl
@[go_sem] theorem Try.zero90 : zeroL Try.prog 90 = some [.nilFn] := by kernel_rfl
@[go_sem] theorem Try.small90 : smallO Try.prog 90 = some (1, 8) := by kernel_rfl
@[go_sem] theorem Try.zt90 : zeroT Try.prog 90 = some (.nilFn) := by kernel_rfl
@[go_sem] theorem Try.agg91 : aggO Try.prog 91 = some true := by kernel_rfl
@[go_sem] theorem Try.pln91 : plainO Try.prog 91 = some true := by kernel_rfl
@[go_sem] theorem Try.sz91 : szO Try.prog 91 = some 2 := by kernel_rfl
@[go_sem] theorem Try.zero91 : zeroL Try.prog 91 = some [.int .i64 0, .int .i64 0] := by kernel_rfl
@[go_sem] theorem Try.small91 : smallO Try.prog 91 = some (2, 16) := by kernel_rfl
@[go_sem] theorem Try.zt91 : zeroT Try.prog 91 = some (.agg [.int .i64 0, .int .i64 0]) := by kernel_rfl
@[go_sem] theorem Try.bld91 (parts : List (Nat × TV)) : buildO Try.prog 91 parts = (fillT (fun i => some (i * 1, 1)) [.int .i64 0, .int .i64 0] parts).map .agg := by kernel_rfl
@[go_sem] theorem Try.eq91 (a0 b0 : Int) (a1 b1 : Int) : eqT Try.prog 20 91 (.agg [.int .i64 a0, .int .i64 a1]) (.agg [.int .i64 b0, .int .i64 b1]) = some ((a0 == b0) && ((a1 == b1) && true)) := by kernel_rfl
@[go_sem] theorem Try.eqg91 : Program.eqGuardType Try.prog (Program.depth Try.prog) 91 = false := by kernel_rfl
@[go_sem] theorem Try.arr91 : arrayO Try.prog 91 = some (2, 3) := by kernel_rfl
@[go_sem] theorem Try.und91 : Program.underlying Try.prog 91 = some (.array 2 3) := by kernel_rfl
@[go_sem] theorem Try.agg92 : aggO Try.prog 92 = some true := by kernel_rfl
@[go_sem] theorem Try.pln92 : plainO Try.prog 92 = some true := by kernel_rfl
@[go_sem] theorem Try.sz92 : szO Try.prog 92 = some 5 := by kernel_rfl
@[go_sem] theorem Try.zero92 : zeroL Try.prog 92 = some [.int .i64 0, .int .i64 0, .int .i64 0, .int .i64 0, .int .i64 0] := by kernel_rfl
@[go_sem] theorem Try.small92 : smallO Try.prog 92 = some (5, 40) := by kernel_rfl
@[go_sem] theorem Try.zt92 : zeroT Try.prog 92 = some (.agg [.int .i64 0, .int .i64 0, .int .i64 0, .int .i64 0, .int .i64 0]) := by kernel_rfl
@[go_sem] theorem Try.fld92_0 : fieldO Try.prog 92 0 = some (0, 37) := by kernel_rfl
@[go_sem] theorem Try.fld92_1 : fieldO Try.prog 92 1 = some (2, 37) := by kernel_rfl
@[go_sem] theorem Try.fld92_2 : fieldO Try.prog 92 2 = some (4, 3) := by kernel_rfl
@[go_sem] theorem Try.bld92 (parts : List (Nat × TV)) : buildO Try.prog 92 parts = (fillT (fun i => ([(0, 2), (2, 2), (4, 1)] : List (Nat × Nat))[i]?) [.int .i64 0, .int .i64 0, .int .i64 0, .int .i64 0, .int .i64 0] parts).map .agg := by kernel_rfl
@[go_sem] theorem Try.eqg92 : Program.eqGuardType Try.prog (Program.depth Try.prog) 92 = false := by kernel_rfl
@[go_sem] theorem Try.agg93 : aggO Try.prog 93 = some true := by kernel_rfl
@[go_sem] theorem Try.pln93 : plainO Try.prog 93 = some true := by kernel_rfl
@[go_sem] theorem Try.sz93 : szO Try.prog 93 = some 5 := by kernel_rfl
@[go_sem] theorem Try.zero93 : zeroL Try.prog 93 = some [.int .i64 0, .int .i64 0, .int .i64 0, .int .i64 0, .int .i64 0] := by kernel_rfl
@[go_sem] theorem Try.small93 : smallO Try.prog 93 = some (5, 40) := by kernel_rfl
@[go_sem] theorem Try.zt93 : zeroT Try.prog 93 = some (.agg [.int .i64 0, .int .i64 0, .int .i64 0, .int .i64 0, .int .i64 0]) := by kernel_rfl
@[go_sem] theorem Try.fld93_0 : fieldO Try.prog 93 0 = some (0, 37) := by kernel_rfl
@[go_sem] theorem Try.fld93_1 : fieldO Try.prog 93 1 = some (2, 37) := by kernel_rfl
@[go_sem] theorem Try.fld93_2 : fieldO Try.prog 93 2 = some (4, 3) := by kernel_rfl
@[go_sem] theorem Try.bld93 (parts : List (Nat × TV)) : buildO Try.prog 93 parts = (fillT (fun i => ([(0, 2), (2, 2), (4, 1)] : List (Nat × Nat))[i]?) [.int .i64 0, .int .i64 0, .int .i64 0, .int .i64 0, .int .i64 0] parts).map .agg := by kernel_rfl
@[go_sem] theorem Try.eq93 (a0 b0 : Int) (a1 b1 : Int) (a2 b2 : Int) (a3 b3 : Int) (a4 b4 : Int) : eqT Try.prog 20 93 (.agg [.int .i64 a0, .int .i64 a1, .int .i64 a2, .int .i64 a3, .int .i64 a4]) (.agg [.int .i64 b0, .int .i64 b1, .int .i64 b2, .int .i64 b3, .int .i64 b4]) = some (((a0 == b0) && ((a1 == b1) && true)) && (((a2 == b2) && ((a3 == b3) && true)) && ((a4 == b4) && true))) := by kernel_rfl
@[go_sem] theorem Try.eqg93 : Program.eqGuardType Try.prog (Program.depth Try.prog) 93 = false := by kernel_rfl
@[go_sem] theorem Try.agg94 : aggO Try.prog 94 = some false := by kernel_rfl
@[go_sem] theorem Try.pln94 : plainO Try.prog 94 = some true := by kernel_rfl
@[go_sem] theorem Try.sz94 : szO Try.prog 94 = some 1 := by kernel_rfl
@[go_sem] theorem Try.zero94 : zeroL Try.prog 94 = some [.nilFn] := by kernel_rfl
@[go_sem] theorem Try.small94 : smallO Try.prog 94 = some (1, 8) := by kernel_rfl
@[go_sem] theorem Try.zt94 : zeroT Try.prog 94 = some (.nilFn) := by kernel_rfl
@[go_sem] theorem Try.agg95 : aggO Try.prog 95 = some false := by kernel_rfl
@[go_sem] theorem Try.pln95 : plainO Try.prog 95 = some true := by kernel_rfl
@[go_sem] theorem Try.sz95 : szO Try.prog 95 = some 1 := by kernel_rfl
@[go_sem] theorem Try.zero95 : zeroL Try.prog 95 = some [.nilFn] := by kernel_rfl
@[go_sem] theorem Try.small95 : smallO Try.prog 95 = some (1, 8) := by kernel_rfl
@[go_sem] theorem Try.zt95 : zeroT Try.prog 95 = some (.nilFn) := by kernel_rfl
@[go_sem] theorem Try.agg96 : aggO Try.prog 96 = some false := by kernel_rfl
@[go_sem] theorem Try.pln96 : plainO Try.prog 96 = some true := by kernel_rfl
@[go_sem] theorem Try.sz96 : szO Try.prog 96 = some 1 := by kernel_rfl
@[go_sem] theorem Try.zero96 : zeroL Try.prog 96 = some [.nilFn] := by kernel_rfl
@[go_sem] theorem Try.small96 : smallO Try.prog 96 = some (1, 8) := by kernel_rfl
@[go_sem] theorem Try.zt96 : zeroT Try.prog 96 = some (.nilFn) := by kernel_rfl
@[go_sem] theorem Try.agg97 : aggO Try.prog 97 = some false := by kernel_rfl
@[go_sem] theorem Try.pln97 : plainO Try.prog 97 = some true := by kernel_rfl
@[go_sem] theorem Try.sz97 : szO Try.prog 97 = some 1 := by kernel_rfl
@[go_sem] theorem Try.zero97 : zeroL Try.prog 97 = some [.nilSl] := by kernel_rfl
@[go_sem] theorem Try.small97 : smallO Try.prog 97 = some (1, 24) := by kernel_rfl
@[go_sem] theorem Try.zt97 : zeroT Try.prog 97 = some (.nilSl) := by kernel_rfl
@[go_sem] theorem Try.eqn97 : eqT Try.prog 20 97 .nilSl .nilSl = some true := by kernel_rfl
@[go_sem] theorem Try.eqs97 (cs : List TV) (n : Nat) (f : Bool) : eqT Try.prog 20 97 (.sl cs n f) .nilSl = some false := by kernel_rfl
@[go_sem] theorem Try.eqt97 (cs : List TV) (n : Nat) (f : Bool) : eqT Try.prog 20 97 .nilSl (.sl cs n f) = some false := by kernel_rfl
@[go_sem] theorem Try.sl97 : sliceO Try.prog 97 = some 25 := by kernel_rfl
@[go_sem] theorem Try.und97 : Program.underlying Try.prog 97 = some (.slice 25) := by kernel_rfl
@[go_sem] theorem Try.agg98 : aggO Try.prog 98 = some false := by kernel_rfl
@[go_sem] theorem Try.pln98 : plainO Try.prog 98 = some true := by kernel_rfl
@[go_sem] theorem Try.sz98 : szO Try.prog 98 = some 1 := by kernel_rfl
@[go_sem] theorem Try.zero98 : zeroL Try.prog 98 = some [.nilFn] := by kernel_rfl
@[go_sem] theorem Try.small98 : smallO Try.prog 98 = some (1, 8) := by kernel_rfl
@[go_sem] theorem Try.zt98 : zeroT Try.prog 98 = some (.nilFn) := by kernel_rfl
@[go_sem] theorem Try.agg99 : aggO Try.prog 99 = some false := by kernel_rfl
@[go_sem] theorem Try.pln99 : plainO Try.prog 99 = some true := by kernel_rfl
@[go_sem] theorem Try.sz99 : szO Try.prog 99 = some 1 := by kernel_rfl
@[go_sem] theorem Try.zero99 : zeroL Try.prog 99 = some [.nilFn] := by kernel_rfl
@[go_sem] theorem Try.small99 : smallO Try.prog 99 = some (1, 8) := by kernel_rfl
@[go_sem] theorem Try.zt99 : zeroT Try.prog 99 = some (.nilFn) := by kernel_rfl
@[go_sem] theorem Try.agg100 : aggO Try.prog 100 = some true := by kernel_rfl
@[go_sem] theorem Try.pln100 : plainO Try.prog 100 = some true := by kernel_rfl
@[go_sem] theorem Try.sz100 : szO Try.prog 100 = some 2 := by kernel_rfl
@[go_sem] theorem Try.zero100 : zeroL Try.prog 100 = some [.nilSl, .nilSl] := by kernel_rfl
@[go_sem] theorem Try.small100 : smallO Try.prog 100 = some (2, 48) := by kernel_rfl
@[go_sem] theorem Try.zt100 : zeroT Try.prog 100 = some (.agg [.nilSl, .nilSl]) := by kernel_rfl
@[go_sem] theorem Try.fld100_0 : fieldO Try.prog 100 0 = some (0, 25) := by kernel_rfl
@[go_sem] theorem Try.bld100 (parts : List (Nat × TV)) : buildO Try.prog 100 parts = (fillT (fun i => ([(0, 2)] : List (Nat × Nat))[i]?) [.nilSl, .nilSl] parts).map .agg := by kernel_rfl
@[go_sem] theorem Try.bldp100 (parts : List (Nat × PV)) : buildP Try.prog 100 parts = fillP (fun i => ([(0, 2)] : List (Nat × Nat))[i]?) [.t (.nilSl), .t (.nilSl)] parts := by kernel_rfl
@[go_sem] theorem Try.eqg100 : Program.eqGuardType Try.prog (Program.depth Try.prog) 100 = false := by kernel_rfl
@[go_sem] theorem Try.agg101 : aggO Try.prog 101 = some true := by kernel_rfl
@[go_sem] theorem Try.pln101 : plainO Try.prog 101 = some true := by kernel_rfl
@[go_sem] theorem Try.sz101 : szO Try.prog 101 = some 2 := by kernel_rfl
@[go_sem] theorem Try.zero101 : zeroL Try.prog 101 = some [.nilSl, .nilSl] := by kernel_rfl
@[go_sem] theorem Try.small101 : smallO Try.prog 101 = some (2, 48) := by kernel_rfl
@[go_sem] theorem Try.zt101 : zeroT Try.prog 101 = some (.agg [.nilSl, .nilSl]) := by kernel_rfl
@[go_sem] theorem Try.fld101_0 : fieldO Try.prog 101 0 = some (0, 25) := by kernel_rfl
@[go_sem] theorem Try.bld101 (parts : List (Nat × TV)) : buildO Try.prog 101 parts = (fillT (fun i => ([(0, 2)] : List (Nat × Nat))[i]?) [.nilSl, .nilSl] parts).map .agg := by kernel_rfl
@[go_sem] theorem Try.bldp101 (parts : List (Nat × PV)) : buildP Try.prog 101 parts = fillP (fun i => ([(0, 2)] : List (Nat × Nat))[i]?) [.t (.nilSl), .t (.nilSl)] parts := by kernel_rfl
@[go_sem] theorem Try.eqg101 : Program.eqGuardType Try.prog (Program.depth Try.prog) 101 = false := by kernel_rfl
@[go_sem] theorem Try.agg102 : aggO Try.prog 102 = some false := by kernel_rfl
@[go_sem] theorem Try.pln102 : plainO Try.prog 102 = some true := by kernel_rfl
@[go_sem] theorem Try.sz102 : szO Try.prog 102 = some 1 := by kernel_rfl
@[go_sem] theorem Try.zero102 : zeroL Try.prog 102 = some [.nilFn] := by kernel_rfl
@[go_sem] theorem Try.small102 : smallO Try.prog 102 = some (1, 8) := by kernel_rfl
@[go_sem] theorem Try.zt102 : zeroT Try.prog 102 = some (.nilFn) := by kernel_rfl
@[go_sem] theorem Try.agg103 : aggO Try.prog 103 = some false := by kernel_rfl
@[go_sem] theorem Try.pln103 : plainO Try.prog 103 = some true := by kernel_rfl
@[go_sem] theorem Try.sz103 : szO Try.prog 103 = some 1 := by kernel_rfl
@[go_sem] theorem Try.zero103 : zeroL Try.prog 103 = some [.nilFn] := by kernel_rfl
@[go_sem] theorem Try.small103 : smallO Try.prog 103 = some (1, 8) := by kernel_rfl
@[go_sem] theorem Try.zt103 : zeroT Try.prog 103 = some (.nilFn) := by kernel_rfl
@[go_sem] theorem Try.agg104 : aggO Try.prog 104 = some true := by kernel_rfl
@[go_sem] theorem Try.pln104 : plainO Try.prog 104 = some true := by kernel_rfl
@[go_sem] theorem Try.sz104 : szO Try.prog 104 = some 2 := by kernel_rfl
@[go_sem] theorem Try.zero104 : zeroL Try.prog 104 = some [.int .i64 0, .int .i64 0] := by kernel_rfl
@[go_sem] theorem Try.small104 : smallO Try.prog 104 = some (2, 16) := by kernel_rfl
@[go_sem] theorem Try.zt104 : zeroT Try.prog 104 = some (.agg [.int .i64 0, .int .i64 0]) := by kernel_rfl
@[go_sem] theorem Try.fld104_0 : fieldO Try.prog 104 0 = some (0, 37) := by kernel_rfl
@[go_sem] theorem Try.bld104 (parts : List (Nat × TV)) : buildO Try.prog 104 parts = (fillT (fun i => ([(0, 2)] : List (Nat × Nat))[i]?) [.int .i64 0, .int .i64 0] parts).map .agg := by kernel_rfl
@[go_sem] theorem Try.eqg104 : Program.eqGuardType Try.prog (Program.depth Try.prog) 104 = false := by kernel_rfl
@[go_sem] theorem Try.agg105 : aggO Try.prog 105 = some true := by kernel_rfl
@[go_sem] theorem Try.pln105 : plainO Try.prog 105 = some true := by kernel_rfl
@[go_sem] theorem Try.sz105 : szO Try.prog 105 = some 2 := by kernel_rfl
@[go_sem] theorem Try.zero105 : zeroL Try.prog 105 = some [.int .i64 0, .int .i64 0] := by kernel_rfl
@[go_sem] theorem Try.small105 : smallO Try.prog 105 = some (2, 16) := by kernel_rfl
@[go_sem] theorem Try.zt105 : zeroT Try.prog 105 = some (.agg [.int .i64 0, .int .i64 0]) := by kernel_rfl
@[go_sem] theorem Try.fld105_0 : fieldO Try.prog 105 0 = some (0, 37) := by kernel_rfl
@[go_sem] theorem Try.bld105 (parts : List (Nat × TV)) : buildO Try.prog 105 parts = (fillT (fun i => ([(0, 2)] : List (Nat × Nat))[i]?) [.int .i64 0, .int .i64 0] parts).map .agg := by kernel_rfl
@[go_sem] theorem Try.eq105 (a0 b0 : Int) (a1 b1 : Int) : eqT Try.prog 20 105 (.agg [.int .i64 a0, .int .i64 a1]) (.agg [.int .i64 b0, .int .i64 b1]) = some (((a0 == b0) && ((a1 == b1) && true)) && true) := by kernel_rfl
@[go_sem] theorem Try.eqg105 : Program.eqGuardType Try.prog (Program.depth Try.prog) 105 = false := by kernel_rfl
@[go_sem] theorem Try.agg106 : aggO Try.prog 106 = some false := by kernel_rfl
@[go_sem] theorem Try.pln106 : plainO Try.prog 106 = some true := by kernel_rfl
@[go_sem] theorem Try.sz106 : szO Try.prog 106 = some 1 := by kernel_rfl
@[go_sem] theorem Try.zero106 : zeroL Try.prog 106 = some [.nilFn] := by kernel_rfl
@[go_sem] theorem Try.small106 : smallO Try.prog 106 = some (1, 8) := by kernel_rfl
@[go_sem] theorem Try.zt106 : zeroT Try.prog 106 = some (.nilFn) := by kernel_rfl
@[go_sem] theorem Try.agg108 : aggO Try.prog 108 = some false := by kernel_rfl
@[go_sem] theorem Try.pln108 : plainO Try.prog 108 = some true := by kernel_rfl
@[go_sem] theorem Try.sz108 : szO Try.prog 108 = some 1 := by kernel_rfl
@[go_sem] theorem Try.zero108 : zeroL Try.prog 108 = some [.nilFn] := by kernel_rfl
@[go_sem] theorem Try.small108 : smallO Try.prog 108 = some (1, 8) := by kernel_rfl
@[go_sem] theorem Try.zt108 : zeroT Try.prog 108 = some (.nilFn) := by kernel_rfl
@[go_sem] theorem Try.agg109 : aggO Try.prog 109 = some false := by kernel_rfl
@[go_sem] theorem Try.pln109 : plainO Try.prog 109 = some true := by kernel_rfl
@[go_sem] theorem Try.sz109 : szO Try.prog 109 = some 1 := by kernel_rfl
@[go_sem] theorem Try.zero109 : zeroL Try.prog 109 = some [.nilFn] := by kernel_rfl
@[go_sem] theorem Try.small109 : smallO Try.prog 109 = some (1, 8) := by kernel_rfl
@[go_sem] theorem Try.zt109 : zeroT Try.prog 109 = some (.nilFn) := by kernel_rfl
@[go_sem] theorem Try.agg110 : aggO Try.prog 110 = some true := by kernel_rfl
@[go_sem] theorem Try.pln110 : plainO Try.prog 110 = some true := by kernel_rfl
@[go_sem] theorem Try.sz110 : szO Try.prog 110 = some 4 := by kernel_rfl
@[go_sem] theorem Try.zero110 : zeroL Try.prog 110 = some [.int .i64 0, .int .i64 0, .int .i64 0, .int .i64 0] := by kernel_rfl
@[go_sem] theorem Try.small110 : smallO Try.prog 110 = some (4, 32) := by kernel_rfl
@[go_sem] theorem Try.zt110 : zeroT Try.prog 110 = some (.agg [.int .i64 0, .int .i64 0, .int .i64 0, .int .i64 0]) := by kernel_rfl
@[go_sem] theorem Try.fld110_0 : fieldO Try.prog 110 0 = some (0, 37) := by kernel_rfl
@[go_sem] theorem Try.fld110_1 : fieldO Try.prog 110 1 = some (2, 37) := by kernel_rfl
@[go_sem] theorem Try.bld110 (parts : List (Nat × TV)) : buildO Try.prog 110 parts = (fillT (fun i => ([(0, 2), (2, 2)] : List (Nat × Nat))[i]?) [.int .i64 0, .int .i64 0, .int .i64 0, .int .i64 0] parts).map .agg := by kernel_rfl
@[go_sem] theorem Try.eqg110 : Program.eqGuardType Try.prog (Program.depth Try.prog) 110 = false := by kernel_rfl
@[go_sem] theorem Try.agg111 : aggO Try.prog 111 = some true := by kernel_rfl
@[go_sem] theorem Try.pln111 : plainO Try.prog 111 = some true := by kernel_rfl
@[go_sem] theorem Try.sz111 : szO Try.prog 111 = some 4 := by kernel_rfl
@[go_sem] theorem Try.zero111 : zeroL Try.prog 111 = some [.int .i64 0, .int .i64 0, .int .i64 0, .int .i64 0] := by kernel_rfl
@[go_sem] theorem Try.small111 : smallO Try.prog 111 = some (4, 32) := by kernel_rfl
@[go_sem] theorem Try.zt111 : zeroT Try.prog 111 = some (.agg [.int .i64 0, .int .i64 0, .int .i64 0, .int .i64 0]) := by kernel_rfl
@[go_sem] theorem Try.fld111_0 : fieldO Try.prog 111 0 = some (0, 37) := by kernel_rfl
@[go_sem] theorem Try.fld111_1 : fieldO Try.prog 111 1 = some (2, 37) := by kernel_rfl
@[go_sem] theorem Try.bld111 (parts : List (Nat × TV)) : buildO Try.prog 111 parts = (fillT (fun i => ([(0, 2), (2, 2)] : List (Nat × Nat))[i]?) [.int .i64 0, .int .i64 0, .int .i64 0, .int .i64 0] parts).map .agg := by kernel_rfl
@[go_sem] theorem Try.eq111 (a0 b0 : Int) (a1 b1 : Int) (a2 b2 : Int) (a3 b3 : Int) : eqT Try.prog 20 111 (.agg [.int .i64 a0, .int .i64 a1, .int .i64 a2, .int .i64 a3]) (.agg [.int .i64 b0, .int .i64 b1, .int .i64 b2, .int .i64 b3]) = some (((a0 == b0) && ((a1 == b1) && true)) && (((a2 == b2) && ((a3 == b3) && true)) && true)) := by kernel_rfl
@[go_sem] theorem Try.eqg111 : Program.eqGuardType Try.prog (Program.depth Try.prog) 111 = false := by kernel_rfl
@[go_sem] theorem Try.agg112 : aggO Try.prog 112 = some false := by kernel_rfl
@[go_sem] theorem Try.pln112 : plainO Try.prog 112 = some true := by kernel_rfl
@[go_sem] theorem Try.sz112 : szO Try.prog 112 = some 1 := by kernel_rfl
@[go_sem] theorem Try.zero112 : zeroL Try.prog 112 = some [.nilFn] := by kernel_rfl
@[go_sem] theorem Try.small112 : smallO Try.prog 112 = some (1, 8) := by kernel_rfl
@[go_sem] theorem Try.zt112 : zeroT Try.prog 112 = some (.nilFn) := by kernel_rfl
@[go_sem] theorem Try.agg114 : aggO Try.prog 114 = some false := by kernel_rfl
@[go_sem] theorem Try.pln114 : plainO Try.prog 114 = some true := by kernel_rfl
@[go_sem] theorem Try.sz114 : szO Try.prog 114 = some 1 := by kernel_rfl
@[go_sem] theorem Try.zero114 : zeroL Try.prog 114 = some [.nilFn] := by kernel_rfl
@[go_sem] theorem Try.small114 : smallO Try.prog 114 = some (1, 8) := by kernel_rfl
@[go_sem] theorem Try.zt114 : zeroT Try.prog 114 = some (.nilFn) := by kernel_rfl
@[go_sem] theorem Try.agg115 : aggO Try.prog 115 = some false := by kernel_rfl
@[go_sem] theorem Try.pln115 : plainO Try.prog 115 = some true := by kernel_rfl
@[go_sem] theorem Try.sz115 : szO Try.prog 115 = some 1 := by kernel_rfl
@[go_sem] theorem Try.zero115 : zeroL Try.prog 115 = some [.nilFn] := by kernel_rfl
@[go_sem] theorem Try.small115 : smallO Try.prog 115 = some (1, 8) := by kernel_rfl
@[go_sem] theorem Try.zt115 : zeroT Try.prog 115 = some (.nilFn) := by kernel_rfl
@[go_sem] theorem Try.agg116 : aggO Try.prog 116 = some false := by kernel_rfl
@[go_sem] theorem Try.pln116 : plainO Try.prog 116 = some true := by kernel_rfl
@[go_sem] theorem Try.sz116 : szO Try.prog 116 = some 1 := by kernel_rfl
@[go_sem] theorem Try.zero116 : zeroL Try.prog 116 = some [.nilFn] := by kernel_rfl
@[go_sem] theorem Try.small116 : smallO Try.prog 116 = some (1, 8) := by kernel_rfl
@[go_sem] theorem Try.zt116 : zeroT Try.prog 116 = some (.nilFn) := by kernel_rfl
@[go_sem] theorem Try.agg118 : aggO Try.prog 118 = some false := by kernel_rfl
@[go_sem] theorem Try.pln118 : plainO Try.prog 118 = some true := by kernel_rfl
@[go_sem] theorem Try.sz118 : szO Try.prog 118 = some 1 := by kernel_rfl
@[go_sem] theorem Try.zero118 : zeroL Try.prog 118 = some [.nilFn] := by kernel_rfl
@[go_sem] theorem Try.small118 : smallO Try.prog 118 = some (1, 8) := by kernel_rfl
@[go_sem] theorem Try.zt118 : zeroT Try.prog 118 = some (.nilFn) := by kernel_rfl
@[go_sem] theorem Try.agg119 : aggO Try.prog 119 = some false := by kernel_rfl
@[go_sem] theorem Try.pln119 : plainO Try.prog 119 = some true := by kernel_rfl
@[go_sem] theorem Try.sz119 : szO Try.prog 119 = some 1 := by kernel_rfl
@[go_sem] theorem Try.zero119 : zeroL Try.prog 119 = some [.nilMap] := by kernel_rfl
@[go_sem] theorem Try.small119 : smallO Try.prog 119 = some (1, 8) := by kernel_rfl
@[go_sem] theorem Try.key119 (a0 : Int) (a1 : Int) (a2 : Int) (a3 : Int) (a4 : Int) : keyOk Try.prog 119 (.agg [.int .i64 a0, .int .i64 a1, .int .i64 a2, .int .i64 a3, .int .i64 a4]) = true := by kernel_rfl
@[go_sem] theorem Try.map119 : mapO Try.prog 119 = some (28, 111) := by kernel_rfl
@[go_sem] theorem Try.und119 : Program.underlying Try.prog 119 = some (.map 28 111) := by kernel_rfl
@[go_sem] theorem Try.zt119 : zeroT Try.prog 119 = some (.nilMap) := by kernel_rfl
@[go_sem] theorem Try.agg120 : aggO Try.prog 120 = some false := by kernel_rfl
@[go_sem] theorem Try.pln120 : plainO Try.prog 120 = some true := by kernel_rfl
@[go_sem] theorem Try.sz120 : szO Try.prog 120 = some 1 := by kernel_rfl
@[go_sem] theorem Try.zero120 : zeroL Try.prog 120 = some [.nilFn] := by kernel_rfl
@[go_sem] theorem Try.small120 : smallO Try.prog 120 = some (1, 8) := by kernel_rfl
@[go_sem] theorem Try.zt120 : zeroT Try.prog 120 = some (.nilFn) := by kernel_rfl
@[go_sem] theorem Try.agg121 : aggO Try.prog 121 = some false := by kernel_rfl
@[go_sem] theorem Try.pln121 : plainO Try.prog 121 = some true := by kernel_rfl
@[go_sem] theorem Try.sz121 : szO Try.prog 121 = some 1 := by kernel_rfl
@[go_sem] theorem Try.zero121 : zeroL Try.prog 121 = some [.nilFn] := by kernel_rfl
@[go_sem] theorem Try.small121 : smallO Try.prog 121 = some (1, 8) := by kernel_rfl
@[go_sem] theorem Try.zt121 : zeroT Try.prog 121 = some (.nilFn) := by kernel_rfl
@[go_sem] theorem Try.agg122 : aggO Try.prog 122 = some true := by kernel_rfl
@[go_sem] theorem Try.pln122 : plainO Try.prog 122 = some true := by kernel_rfl
@[go_sem] theorem Try.sz122 : szO Try.prog 122 = some 1 := by kernel_rfl
@[go_sem] theorem Try.zero122 : zeroL Try.prog 122 = some [.nilFn] := by kernel_rfl
@[go_sem] theorem Try.small122 : smallO Try.prog 122 = some (1, 8) := by kernel_rfl
@[go_sem] theorem Try.zt122 : zeroT Try.prog 122 = some (.agg [.nilFn]) := by kernel_rfl
@[go_sem] theorem Try.fld122_0 : fieldO Try.prog 122 0 = some (0, 121) := by kernel_rfl
@[go_sem] theorem Try.bld122 (parts : List (Nat × TV)) : buildO Try.prog 122 parts = (fillT (fun i => ([(0, 1)] : List (Nat × Nat))[i]?) [.nilFn] parts).map .agg := by kernel_rfl
@[go_sem] theorem Try.bldp122 (parts : List (Nat × PV)) : buildP Try.prog 122 parts = fillP (fun i => ([(0, 1)] : List (Nat × Nat))[i]?) [.t (.nilFn)] parts := by kernel_rfl
@[go_sem] theorem Try.eqg122 : Program.eqGuardType Try.prog (Program.depth Try.prog) 122 = false := by kernel_rfl
@[go_sem] theorem Try.agg123 : aggO Try.prog 123 = some true := by kernel_rfl
@[go_sem] theorem Try.pln123 : plainO Try.prog 123 = some true := by kernel_rfl
@[go_sem] theorem Try.sz123 : szO Try.prog 123 = some 1 := by kernel_rfl
@[go_sem] theorem Try.zero123 : zeroL Try.prog 123 = some [.nilFn] := by kernel_rfl
@[go_sem] theorem Try.small123 : smallO Try.prog 123 = some (1, 8) := by kernel_rfl
@[go_sem] theorem Try.zt123 : zeroT Try.prog 123 = some (.agg [.nilFn]) := by kernel_rfl
@[go_sem] theorem Try.fld123_0 : fieldO Try.prog 123 0 = some (0, 121) := by kernel_rfl
@[go_sem] theorem Try.bld123 (parts : List (Nat × TV)) : buildO Try.prog 123 parts = (fillT (fun i => ([(0, 1)] : List (Nat × Nat))[i]?) [.nilFn] parts).map .agg := by kernel_rfl
@[go_sem] theorem Try.bldp123 (parts : List (Nat × PV)) : buildP Try.prog 123 parts = fillP (fun i => ([(0, 1)] : List (Nat × Nat))[i]?) [.t (.nilFn)] parts := by kernel_rfl
@[go_sem] theorem Try.eqg123 : Program.eqGuardType Try.prog (Program.depth Try.prog) 123 = false := by kernel_rfl
@[go_sem] theorem Try.agg124 : aggO Try.prog 124 = some false := by kernel_rfl
@[go_sem] theorem Try.pln124 : plainO Try.prog 124 = some true := by kernel_rfl
@[go_sem] theorem Try.sz124 : szO Try.prog 124 = some 1 := by kernel_rfl
@[go_sem] theorem Try.zero124 : zeroL Try.prog 124 = some [.nilFn] := by kernel_rfl
@[go_sem] theorem Try.small124 : smallO Try.prog 124 = some (1, 8) := by kernel_rfl
@[go_sem] theorem Try.zt124 : zeroT Try.prog 124 = some (.nilFn) := by kernel_rfl
@[go_sem] theorem Try.agg126 : aggO Try.prog 126 = some false := by kernel_rfl
@[go_sem] theorem Try.pln126 : plainO Try.prog 126 = some true := by kernel_rfl
@[go_sem] theorem Try.sz126 : szO Try.prog 126 = some 1 := by kernel_rfl
@[go_sem] theorem Try.zero126 : zeroL Try.prog 126 = some [.nilFn] := by kernel_rfl
@[go_sem] theorem Try.small126 : smallO Try.prog 126 = some (1, 8) := by kernel_rfl
@[go_sem] theorem Try.zt126 : zeroT Try.prog 126 = some (.nilFn) := by kernel_rfl
@[go_sem] theorem Try.agg127 : aggO Try.prog 127 = some false := by kernel_rfl
@[go_sem] theorem Try.pln127 : plainO Try.prog 127 = some true := by kernel_rfl
@[go_sem] theorem Try.sz127 : szO Try.prog 127 = some 1 := by kernel_rfl
@[go_sem] theorem Try.zero127 : zeroL Try.prog 127 = some [.nilMap] := by kernel_rfl
@[go_sem] theorem Try.small127 : smallO Try.prog 127 = some (1, 8) := by kernel_rfl
@[go_sem] theorem Try.key127 (a0 : Int) (a1 : Int) : keyOk Try.prog 127 (.agg [.int .i64 a0, .int .i64 a1]) = true := by kernel_rfl
@[go_sem] theorem Try.map127 : mapO Try.prog 127 = some (128, 28) := by kernel_rfl
@[go_sem] theorem Try.und127 : Program.underlying Try.prog 127 = some (.map 128 28) := by kernel_rfl
@[go_sem] theorem Try.zt127 : zeroT Try.prog 127 = some (.nilMap) := by kernel_rfl
@[go_sem] theorem Try.agg128 : aggO Try.prog 128 = some true := by kernel_rfl
@[go_sem] theorem Try.pln128 : plainO Try.prog 128 = some true := by kernel_rfl
@[go_sem] theorem Try.sz128 : szO Try.prog 128 = some 2 := by kernel_rfl
@[go_sem] theorem Try.zero128 : zeroL Try.prog 128 = some [.int .i64 0, .int .i64 0] := by kernel_rfl
@[go_sem] theorem Try.small128 : smallO Try.prog 128 = some (2, 16) := by kernel_rfl
@[go_sem] theorem Try.zt128 : zeroT Try.prog 128 = some (.agg [.int .i64 0, .int .i64 0]) := by kernel_rfl
@[go_sem] theorem Try.bld128 (parts : List (Nat × TV)) : buildO Try.prog 128 parts = (fillT (fun i => some (i * 1, 1)) [.int .i64 0, .int .i64 0] parts).map .agg := by kernel_rfl
@[go_sem] theorem Try.eq128 (a0 b0 : Int) (a1 b1 : Int) : eqT Try.prog 20 128 (.agg [.int .i64 a0, .int .i64 a1]) (.agg [.int .i64 b0, .int .i64 b1]) = some ((a0 == b0) && ((a1 == b1) && true)) := by kernel_rfl
@[go_sem] theorem Try.eqg128 : Program.eqGuardType Try.prog (Program.depth Try.prog) 128 = false := by kernel_rfl
@[go_sem] theorem Try.arr128 : arrayO Try.prog 128 = some (2, 3) := by kernel_rfl
@[go_sem] theorem Try.und128 : Program.underlying Try.prog 128 = some (.array 2 3) := by kernel_rfl
@[go_sem] theorem Try.agg130 : aggO Try.prog 130 = some false := by kernel_rfl
@[go_sem] theorem Try.pln130 : plainO Try.prog 130 = some true := by kernel_rfl
@[go_sem] theorem Try.sz130 : szO Try.prog 130 = some 1 := by kernel_rfl
@[go_sem] theorem Try.zero130 : zeroL Try.prog 130 = some [.nilFn] := by kernel_rfl
@[go_sem] theorem Try.small130 : smallO Try.prog 130 = some (1, 8) := by kernel_rfl
@[go_sem] theorem Try.zt130 : zeroT Try.prog 130 = some (.nilFn) := by kernel_rfl
@[go_sem] theorem Try.agg131 : aggO Try.prog 131 = some true := by kernel_rfl
@[go_sem] theorem Try.pln131 : plainO Try.prog 131 = some true := by kernel_rfl
@[go_sem] theorem Try.sz131 : szO Try.prog 131 = some 8 := by kernel_rfl
@[go_sem] theorem Try.zero131 : zeroL Try.prog 131 = some [.bool false, .bool false, .bool false, .bool false, .bool false, .bool false, .bool false, .bool false] := by kernel_rfl
@[go_sem] theorem Try.small131 : smallO Try.prog 131 = some (8, 8) := by kernel_rfl
@[go_sem] theorem Try.zt131 : zeroT Try.prog 131 = some (.agg [.bool false, .bool false, .bool false, .bool false, .bool false, .bool false, .bool false, .bool false]) := by kernel_rfl
@[go_sem] theorem Try.bld131 (parts : List (Nat × TV)) : buildO Try.prog 131 parts = (fillT (fun i => some (i * 1, 1)) [.bool false, .bool false, .bool false, .bool false, .bool false, .bool false, .bool false, .bool false] parts).map .agg := by kernel_rfl
@[go_sem] theorem Try.eq131 (a0 b0 : Bool) (a1 b1 : Bool) (a2 b2 : Bool) (a3 b3 : Bool) (a4 b4 : Bool) (a5 b5 : Bool) (a6 b6 : Bool) (a7 b7 : Bool) : eqT Try.prog 20 131 (.agg [.bool a0, .bool a1, .bool a2, .bool a3, .bool a4, .bool a5, .bool a6, .bool a7]) (.agg [.bool b0, .bool b1, .bool b2, .bool b3, .bool b4, .bool b5, .bool b6, .bool b7]) = some ((a0 == b0) && ((a1 == b1) && ((a2 == b2) && ((a3 == b3) && ((a4 == b4) && ((a5 == b5) && ((a6 == b6) && ((a7 == b7) && true)))))))) := by kernel_rfl
@[go_sem] theorem Try.eqg131 : Program.eqGuardType Try.prog (Program.depth Try.prog) 131 = false := by kernel_rfl
@[go_sem] theorem Try.arr131 : arrayO Try.prog 131 = some (8, 4) := by kernel_rfl
@[go_sem] theorem Try.und131 : Program.underlying Try.prog 131 = some (.array 8 4) := by kernel_rfl
@[go_sem] theorem Try.agg132 : aggO Try.prog 132 = some true := by kernel_rfl
@[go_sem] theorem Try.pln132 : plainO Try.prog 132 = some true := by kernel_rfl
@[go_sem] theorem Try.sz132 : szO Try.prog 132 = some 5 := by kernel_rfl
@[go_sem] theorem Try.zero132 : zeroL Try.prog 132 = some [.int .i64 0, .int .i64 0, .int .i64 0, .int .i64 0, .int .i64 0] := by kernel_rfl
@[go_sem] theorem Try.small132 : smallO Try.prog 132 = some (5, 40) := by kernel_rfl
@[go_sem] theorem Try.zt132 : zeroT Try.prog 132 = some (.agg [.int .i64 0, .int .i64 0, .int .i64 0, .int .i64 0, .int .i64 0]) := by kernel_rfl
@[go_sem] theorem Try.fld132_0 : fieldO Try.prog 132 0 = some (0, 93) := by kernel_rfl
@[go_sem] theorem Try.bld132 (parts : List (Nat × TV)) : buildO Try.prog 132 parts = (fillT (fun i => ([(0, 5)] : List (Nat × Nat))[i]?) [.int .i64 0, .int .i64 0, .int .i64 0, .int .i64 0, .int .i64 0] parts).map .agg := by kernel_rfl
@[go_sem] theorem Try.eqg132 : Program.eqGuardType Try.prog (Program.depth Try.prog) 132 = false := by kernel_rfl
@[go_sem] theorem Try.agg133 : aggO Try.prog 133 = some true := by kernel_rfl
@[go_sem] theorem Try.pln133 : plainO Try.prog 133 = some true := by kernel_rfl
@[go_sem] theorem Try.sz133 : szO Try.prog 133 = some 5 := by kernel_rfl
@[go_sem] theorem Try.zero133 : zeroL Try.prog 133 = some [.int .i64 0, .int .i64 0, .int .i64 0, .int .i64 0, .int .i64 0] := by kernel_rfl
@[go_sem] theorem Try.small133 : smallO Try.prog 133 = some (5, 40) := by kernel_rfl
@[go_sem] theorem Try.zt133 : zeroT Try.prog 133 = some (.agg [.int .i64 0, .int .i64 0, .int .i64 0, .int .i64 0, .int .i64 0]) := by kernel_rfl
@[go_sem] theorem Try.fld133_0 : fieldO Try.prog 133 0 = some (0, 93) := by kernel_rfl
@[go_sem] theorem Try.bld133 (parts : List (Nat × TV)) : buildO Try.prog 133 parts = (fillT (fun i => ([(0, 5)] : List (Nat × Nat))[i]?) [.int .i64 0, .int .i64 0, .int .i64 0, .int .i64 0, .int .i64 0] parts).map .agg := by kernel_rfl
@[go_sem] theorem Try.eq133 (a0 b0 : Int) (a1 b1 : Int) (a2 b2 : Int) (a3 b3 : Int) (a4 b4 : Int) : eqT Try.prog 20 133 (.agg [.int .i64 a0, .int .i64 a1, .int .i64 a2, .int .i64 a3, .int .i64 a4]) (.agg [.int .i64 b0, .int .i64 b1, .int .i64 b2, .int .i64 b3, .int .i64 b4]) = some ((((a0 == b0) && ((a1 == b1) && true)) && (((a2 == b2) && ((a3 == b3) && true)) && ((a4 == b4) && true))) && true) := by kernel_rfl
@[go_sem] theorem Try.eqg133 : Program.eqGuardType Try.prog (Program.depth Try.prog) 133 = false := by kernel_rfl
@[go_sem] theorem Try.agg134 : aggO Try.prog 134 = some false := by kernel_rfl
@[go_sem] theorem Try.pln134 : plainO Try.prog 134 = some true := by kernel_rfl
@[go_sem] theorem Try.sz134 : szO Try.prog 134 = some 1 := by kernel_rfl
@[go_sem] theorem Try.zero134 : zeroL Try.prog 134 = some [.nilFn] := by kernel_rfl
@[go_sem] theorem Try.small134 : smallO Try.prog 134 = some (1, 8) := by kernel_rfl
@[go_sem] theorem Try.zt134 : zeroT Try.prog 134 = some (.nilFn) := by kernel_rfl
@[go_sem] theorem Try.agg135 : aggO Try.prog 135 = some true := by kernel_rfl
@[go_sem] theorem Try.pln135 : plainO Try.prog 135 = some true := by kernel_rfl
@[go_sem] theorem Try.sz135 : szO Try.prog 135 = some 6 := by kernel_rfl
@[go_sem] theorem Try.zero135 : zeroL Try.prog 135 = some [.nilSl, .nilSl, .int .i64 0, .int .i64 0, .int .i64 0, .int .i64 0] := by kernel_rfl
@[go_sem] theorem Try.small135 : smallO Try.prog 135 = some (6, 80) := by kernel_rfl
@[go_sem] theorem Try.zt135 : zeroT Try.prog 135 = some (.agg [.nilSl, .nilSl, .int .i64 0, .int .i64 0, .int .i64 0, .int .i64 0]) := by kernel_rfl
@[go_sem] theorem Try.fld135_0 : fieldO Try.prog 135 0 = some (0, 69) := by kernel_rfl
@[go_sem] theorem Try.bld135 (parts : List (Nat × TV)) : buildO Try.prog 135 parts = (fillT (fun i => ([(0, 6)] : List (Nat × Nat))[i]?) [.nilSl, .nilSl, .int .i64 0, .int .i64 0, .int .i64 0, .int .i64 0] parts).map .agg := by kernel_rfl
@[go_sem] theorem Try.bldp135 (parts : List (Nat × PV)) : buildP Try.prog 135 parts = fillP (fun i => ([(0, 6)] : List (Nat × Nat))[i]?) [.t (.nilSl), .t (.nilSl), .t (.int .i64 0), .t (.int .i64 0), .t (.int .i64 0), .t (.int .i64 0)] parts := by kernel_rfl
@[go_sem] theorem Try.eqg135 : Program.eqGuardType Try.prog (Program.depth Try.prog) 135 = false := by kernel_rfl
@[go_sem] theorem Try.agg136 : aggO Try.prog 136 = some true := by kernel_rfl
@[go_sem] theorem Try.pln136 : plainO Try.prog 136 = some true := by kernel_rfl
@[go_sem] theorem Try.sz136 : szO Try.prog 136 = some 6 := by kernel_rfl
@[go_sem] theorem Try.zero136 : zeroL Try.prog 136 = some [.nilSl, .nilSl, .int .i64 0, .int .i64 0, .int .i64 0, .int .i64 0] := by kernel_rfl
@[go_sem] theorem Try.small136 : smallO Try.prog 136 = some (6, 80) := by kernel_rfl
@[go_sem] theorem Try.zt136 : zeroT Try.prog 136 = some (.agg [.nilSl, .nilSl, .int .i64 0, .int .i64 0, .int .i64 0, .int .i64 0]) := by kernel_rfl
@[go_sem] theorem Try.fld136_0 : fieldO Try.prog 136 0 = some (0, 69) := by kernel_rfl
@[go_sem] theorem Try.bld136 (parts : List (Nat × TV)) : buildO Try.prog 136 parts = (fillT (fun i => ([(0, 6)] : List (Nat × Nat))[i]?) [.nilSl, .nilSl, .int .i64 0, .int .i64 0, .int .i64 0, .int .i64 0] parts).map .agg := by kernel_rfl
@[go_sem] theorem Try.bldp136 (parts : List (Nat × PV)) : buildP Try.prog 136 parts = fillP (fun i => ([(0, 6)] : List (Nat × Nat))[i]?) [.t (.nilSl), .t (.nilSl), .t (.int .i64 0), .t (.int .i64 0), .t (.int .i64 0), .t (.int .i64 0)] parts := by kernel_rfl
@[go_sem] theorem Try.eqg136 : Program.eqGuardType Try.prog (Program.depth Try.prog) 136 = false := by kernel_rfl
@[go_sem] theorem Try.agg138 : aggO Try.prog 138 = some false := by kernel_rfl
@[go_sem] theorem Try.pln138 : plainO Try.prog 138 = some true := by kernel_rfl
@[go_sem] theorem Try.sz138 : szO Try.prog 138 = some 1 := by kernel_rfl
@[go_sem] theorem Try.zero138 : zeroL Try.prog 138 = some [.nilFn] := by kernel_rfl
@[go_sem] theorem Try.small138 : smallO Try.prog 138 = some (1, 8) := by kernel_rfl
@[go_sem] theorem Try.zt138 : zeroT Try.prog 138 = some (.nilFn) := by kernel_rfl
@[go_sem] theorem Try.agg139 : aggO Try.prog 139 = some false := by kernel_rfl
@[go_sem] theorem Try.pln139 : plainO Try.prog 139 = some false := by kernel_rfl
@[go_sem] theorem Try.sz139 : szO Try.prog 139 = some 1 := by kernel_rfl
@[go_sem] theorem Try.zero139 : zeroL Try.prog 139 = some [.nilIf] := by kernel_rfl
@[go_sem] theorem Try.small139 : smallO Try.prog 139 = some (1, 16) := by kernel_rfl
@[go_sem] theorem Try.zt139 : zeroT Try.prog 139 = some (.nilIf) := by kernel_rfl
@[go_sem] theorem Try.agg140 : aggO Try.prog 140 = some false := by kernel_rfl
@[go_sem] theorem Try.pln140 : plainO Try.prog 140 = some false := by kernel_rfl
@[go_sem] theorem Try.sz140 : szO Try.prog 140 = some 1 := by kernel_rfl
@[go_sem] theorem Try.zero140 : zeroL Try.prog 140 = some [.nilIf] := by kernel_rfl
@[go_sem] theorem Try.small140 : smallO Try.prog 140 = some (1, 16) := by kernel_rfl
@[go_sem] theorem Try.zt140 : zeroT Try.prog 140 = some (.nilIf) := by kernel_rfl
@[go_sem] theorem Try.agg141 : aggO Try.prog 141 = some false := by kernel_rfl
@[go_sem] theorem Try.pln141 : plainO Try.prog 141 = some true := by kernel_rfl
@[go_sem] theorem Try.sz141 : szO Try.prog 141 = some 1 := by kernel_rfl
@[go_sem] theorem Try.zero141 : zeroL Try.prog 141 = some [.nilFn] := by kernel_rfl
@[go_sem] theorem Try.small141 : smallO Try.prog 141 = some (1, 8) := by kernel_rfl
@[go_sem] theorem Try.zt141 : zeroT Try.prog 141 = some (.nilFn) := by kernel_rfl
@[go_sem] theorem Try.agg142 : aggO Try.prog 142 = some false := by kernel_rfl
@[go_sem] theorem Try.pln142 : plainO Try.prog 142 = some true := by kernel_rfl
@[go_sem] theorem Try.sz142 : szO Try.prog 142 = some 1 := by kernel_rfl
@[go_sem] theorem Try.zero142 : zeroL Try.prog 142 = some [.nilFn] := by kernel_rfl
@[go_sem] theorem Try.small142 : smallO Try.prog 142 = some (1, 8) := by kernel_rfl
@[go_sem] theorem Try.zt142 : zeroT Try.prog 142 = some (.nilFn) := by kernel_rfl
@[go_sem] theorem Try.agg143 : aggO Try.prog 143 = some false := by kernel_rfl
@[go_sem] theorem Try.pln143 : plainO Try.prog 143 = some true := by kernel_rfl
@[go_sem] theorem Try.sz143 : szO Try.prog 143 = some 1 := by kernel_rfl
@[go_sem] theorem Try.zero143 : zeroL Try.prog 143 = some [.nilFn] := by kernel_rfl
@[go_sem] theorem Try.small143 : smallO Try.prog 143 = some (1, 8) := by kernel_rfl
@[go_sem] theorem Try.zt143 : zeroT Try.prog 143 = some (.nilFn) := by kernel_rfl
@[go_sem] theorem Try.agg144 : aggO Try.prog 144 = some false := by kernel_rfl
@[go_sem] theorem Try.pln144 : plainO Try.prog 144 = some true := by kernel_rfl
@[go_sem] theorem Try.sz144 : szO Try.prog 144 = some 1 := by kernel_rfl
@[go_sem] theorem Try.zero144 : zeroL Try.prog 144 = some [.nilFn] := by kernel_rfl
@[go_sem] theorem Try.small144 : smallO Try.prog 144 = some (1, 8) := by kernel_rfl
@[go_sem] theorem Try.zt144 : zeroT Try.prog 144 = some (.nilFn) := by kernel_rfl
@[go_sem] theorem Try.agg145 : aggO Try.prog 145 = some false := by kernel_rfl
@[go_sem] theorem Try.pln145 : plainO Try.prog 145 = some true := by kernel_rfl
@[go_sem] theorem Try.sz145 : szO Try.prog 145 = some 1 := by kernel_rfl
@[go_sem] theorem Try.zero145 : zeroL Try.prog 145 = some [.nilFn] := by kernel_rfl
@[go_sem] theorem Try.small145 : smallO Try.prog 145 = some (1, 8) := by kernel_rfl
@[go_sem] theorem Try.zt145 : zeroT Try.prog 145 = some (.nilFn) := by kernel_rfl
@[go_sem] theorem Try.agg146 : aggO Try.prog 146 = some true := by kernel_rfl
@[go_sem] theorem Try.pln146 : plainO Try.prog 146 = some true := by kernel_rfl
@[go_sem] theorem Try.sz146 : szO Try.prog 146 = some 6 := by kernel_rfl
@[go_sem] theorem Try.zero146 : zeroL Try.prog 146 = some [.int .i64 0, .int .i64 0, .int .i64 0, .int .i64 0, .int .i64 0, .int .i64 0] := by kernel_rfl
@[go_sem] theorem Try.small146 : smallO Try.prog 146 = some (6, 48) := by kernel_rfl
@[go_sem] theorem Try.zt146 : zeroT Try.prog 146 = some (.agg [.int .i64 0, .int .i64 0, .int .i64 0, .int .i64 0, .int .i64 0, .int .i64 0]) := by kernel_rfl
@[go_sem] theorem Try.fld146_0 : fieldO Try.prog 146 0 = some (0, 3) := by kernel_rfl
@[go_sem] theorem Try.fld146_1 : fieldO Try.prog 146 1 = some (1, 3) := by kernel_rfl
@[go_sem] theorem Try.fld146_2 : fieldO Try.prog 146 2 = some (2, 3) := by kernel_rfl
@[go_sem] theorem Try.fld146_3 : fieldO Try.prog 146 3 = some (3, 37) := by kernel_rfl
@[go_sem] theorem Try.fld146_4 : fieldO Try.prog 146 4 = some (5, 3) := by kernel_rfl
@[go_sem] theorem Try.bld146 (parts : List (Nat × TV)) : buildO Try.prog 146 parts = (fillT (fun i => ([(0, 1), (1, 1), (2, 1), (3, 2), (5, 1)] : List (Nat × Nat))[i]?) [.int .i64 0, .int .i64 0, .int .i64 0, .int .i64 0, .int .i64 0, .int .i64 0] parts).map .agg := by kernel_rfl
@[go_sem] theorem Try.eqg146 : Program.eqGuardType Try.prog (Program.depth Try.prog) 146 = false := by kernel_rfl
@[go_sem] theorem Try.agg147 : aggO Try.prog 147 = some true := by kernel_rfl
@[go_sem] theorem Try.pln147 : plainO Try.prog 147 = some true := by kernel_rfl
@[go_sem] theorem Try.sz147 : szO Try.prog 147 = some 6 := by kernel_rfl
@[go_sem] theorem Try.zero147 : zeroL Try.prog 147 = some [.int .i64 0, .int .i64 0, .int .i64 0, .int .i64 0, .int .i64 0, .int .i64 0] := by kernel_rfl
@[go_sem] theorem Try.small147 : smallO Try.prog 147 = some (6, 48) := by kernel_rfl
@[go_sem] theorem Try.zt147 : zeroT Try.prog 147 = some (.agg [.int .i64 0, .int .i64 0, .int .i64 0, .int .i64 0, .int .i64 0, .int .i64 0]) := by kernel_rfl
@[go_sem] theorem Try.fld147_0 : fieldO Try.prog 147 0 = some (0, 3) := by kernel_rfl
@[go_sem] theorem Try.fld147_1 : fieldO Try.prog 147 1 = some (1, 3) := by kernel_rfl
@[go_sem] theorem Try.fld147_2 : fieldO Try.prog 147 2 = some (2, 3) := by kernel_rfl
@[go_sem] theorem Try.fld147_3 : fieldO Try.prog 147 3 = some (3, 37) := by kernel_rfl
@[go_sem] theorem Try.fld147_4 : fieldO Try.prog 147 4 = some (5, 3) := by kernel_rfl
@[go_sem] theorem Try.bld147 (parts : List (Nat × TV)) : buildO Try.prog 147 parts = (fillT (fun i => ([(0, 1), (1, 1), (2, 1), (3, 2), (5, 1)] : List (Nat × Nat))[i]?) [.int .i64 0, .int .i64 0, .int .i64 0, .int .i64 0, .int .i64 0, .int .i64 0] parts).map .agg := by kernel_rfl
@[go_sem] theorem Try.eq147 (a0 b0 : Int) (a1 b1 : Int) (a2 b2 : Int) (a3 b3 : Int) (a4 b4 : Int) (a5 b5 : Int) : eqT Try.prog 20 147 (.agg [.int .i64 a0, .int .i64 a1, .int .i64 a2, .int .i64 a3, .int .i64 a4, .int .i64 a5]) (.agg [.int .i64 b0, .int .i64 b1, .int .i64 b2, .int .i64 b3, .int .i64 b4, .int .i64 b5]) = some ((a0 == b0) && ((a1 == b1) && ((a2 == b2) && (((a3 == b3) && ((a4 == b4) && true)) && ((a5 == b5) && true))))) := by kernel_rfl
@[go_sem] theorem Try.eqg147 : Program.eqGuardType Try.prog (Program.depth Try.prog) 147 = false := by kernel_rfl
@[go_sem] theorem Try.agg148 : aggO Try.prog 148 = some true := by kernel_rfl
@[go_sem] theorem Try.pln148 : plainO Try.prog 148 = some true := by kernel_rfl
@[go_sem] theorem Try.sz148 : szO Try.prog 148 = some 4 := by kernel_rfl
@[go_sem] theorem Try.zero148 : zeroL Try.prog 148 = some [.nilSl, .int .i64 0, .int .i64 0, .nilSl] := by kernel_rfl
@[go_sem] theorem Try.small148 : smallO Try.prog 148 = some (4, 64) := by kernel_rfl
@[go_sem] theorem Try.zt148 : zeroT Try.prog 148 = some (.agg [.nilSl, .int .i64 0, .int .i64 0, .nilSl]) := by kernel_rfl
@[go_sem] theorem Try.fld148_0 : fieldO Try.prog 148 0 = some (0, 29) := by kernel_rfl
@[go_sem] theorem Try.fld148_1 : fieldO Try.prog 148 1 = some (1, 3) := by kernel_rfl
@[go_sem] theorem Try.fld148_2 : fieldO Try.prog 148 2 = some (2, 3) := by kernel_rfl
@[go_sem] theorem Try.fld148_3 : fieldO Try.prog 148 3 = some (3, 29) := by kernel_rfl
@[go_sem] theorem Try.bld148 (parts : List (Nat × TV)) : buildO Try.prog 148 parts = (fillT (fun i => ([(0, 1), (1, 1), (2, 1), (3, 1)] : List (Nat × Nat))[i]?) [.nilSl, .int .i64 0, .int .i64 0, .nilSl] parts).map .agg := by kernel_rfl
@[go_sem] theorem Try.bldp148 (parts : List (Nat × PV)) : buildP Try.prog 148 parts = fillP (fun i => ([(0, 1), (1, 1), (2, 1), (3, 1)] : List (Nat × Nat))[i]?) [.t (.nilSl), .t (.int .i64 0), .t (.int .i64 0), .t (.nilSl)] parts := by kernel_rfl
@[go_sem] theorem Try.eqg148 : Program.eqGuardType Try.prog (Program.depth Try.prog) 148 = false := by kernel_rfl
@[go_sem] theorem Try.agg149 : aggO Try.prog 149 = some true := by kernel_rfl
@[go_sem] theorem Try.pln149 : plainO Try.prog 149 = some true := by kernel_rfl
@[go_sem] theorem Try.sz149 : szO Try.prog 149 = some 4 := by kernel_rfl
@[go_sem] theorem Try.zero149 : zeroL Try.prog 149 = some [.nilSl, .int .i64 0, .int .i64 0, .nilSl] := by kernel_rfl
@[go_sem] theorem Try.small149 : smallO Try.prog 149 = some (4, 64) := by kernel_rfl
@[go_sem] theorem Try.zt149 : zeroT Try.prog 149 = some (.agg [.nilSl, .int .i64 0, .int .i64 0, .nilSl]) := by kernel_rfl
@[go_sem] theorem Try.fld149_0 : fieldO Try.prog 149 0 = some (0, 29) := by kernel_rfl
@[go_sem] theorem Try.fld149_1 : fieldO Try.prog 149 1 = some (1, 3) := by kernel_rfl
@[go_sem] theorem Try.fld149_2 : fieldO Try.prog 149 2 = some (2, 3) := by kernel_rfl
@[go_sem] theorem Try.fld149_3 : fieldO Try.prog 149 3 = some (3, 29) := by kernel_rfl
@[go_sem] theorem Try.bld149 (parts : List (Nat × TV)) : buildO Try.prog 149 parts = (fillT (fun i => ([(0, 1), (1, 1), (2, 1), (3, 1)] : List (Nat × Nat))[i]?) [.nilSl, .int .i64 0, .int .i64 0, .nilSl] parts).map .agg := by kernel_rfl
@[go_sem] theorem Try.bldp149 (parts : List (Nat × PV)) : buildP Try.prog 149 parts = fillP (fun i => ([(0, 1), (1, 1), (2, 1), (3, 1)] : List (Nat × Nat))[i]?) [.t (.nilSl), .t (.int .i64 0), .t (.int .i64 0), .t (.nilSl)] parts := by kernel_rfl
@[go_sem] theorem Try.eqg149 : Program.eqGuardType Try.prog (Program.depth Try.prog) 149 = false := by kernel_rfl
@[go_sem] theorem Try.agg150 : aggO Try.prog 150 = some false := by kernel_rfl
@[go_sem] theorem Try.pln150 : plainO Try.prog 150 = some true := by kernel_rfl
@[go_sem] theorem Try.sz150 : szO Try.prog 150 = some 1 := by kernel_rfl
@[go_sem] theorem Try.zero150 : zeroL Try.prog 150 = some [.nilFn] := by kernel_rfl
@[go_sem] theorem Try.small150 : smallO Try.prog 150 = some (1, 8) := by kernel_rfl
@[go_sem] theorem Try.zt150 : zeroT Try.prog 150 = some (.nilFn) := by kernel_rfl
@[go_sem] theorem Try.agg151 : aggO Try.prog 151 = some false := by kernel_rfl
@[go_sem] theorem Try.pln151 : plainO Try.prog 151 = some true := by kernel_rfl
@[go_sem] theorem Try.sz151 : szO Try.prog 151 = some 1 := by kernel_rfl
@[go_sem] theorem Try.zero151 : zeroL Try.prog 151 = some [.nilMap] := by kernel_rfl
@[go_sem] theorem Try.small151 : smallO Try.prog 151 = some (1, 8) := by kernel_rfl
@[go_sem] theorem Try.key151 (a0 : Int) (a1 : Int) : keyOk Try.prog 151 (.agg [.int .i64 a0, .int .i64 a1]) = true := by kernel_rfl
@[go_sem] theorem Try.map151 : mapO Try.prog 151 = some (168, 3) := by kernel_rfl
@[go_sem] theorem Try.und151 : Program.underlying Try.prog 151 = some (.map 168 3) := by kernel_rfl
@[go_sem] theorem Try.zt151 : zeroT Try.prog 151 = some (.nilMap) := by kernel_rfl
@[go_sem] theorem Try.agg152 : aggO Try.prog 152 = some true := by kernel_rfl
@[go_sem] theorem Try.pln152 : plainO Try.prog 152 = some true := by kernel_rfl
@[go_sem] theorem Try.sz152 : szO Try.prog 152 = some 11 := by kernel_rfl
@[go_sem] theorem Try.zero152 : zeroL Try.prog 152 = some [.nilSl, .nilSl, .int .i64 0, .int .i64 0, .int .i64 0, .int .i64 0, .int .i64 0, .int .i64 0, .int .i64 0, .int .i64 0, .nilMap] := by kernel_rfl
@[go_sem] theorem Try.small152 : smallO Try.prog 152 = some (11, 120) := by kernel_rfl
@[go_sem] theorem Try.zt152 : zeroT Try.prog 152 = some (.agg [.nilSl, .nilSl, .int .i64 0, .int .i64 0, .int .i64 0, .int .i64 0, .int .i64 0, .int .i64 0, .int .i64 0, .int .i64 0, .nilMap]) := by kernel_rfl
@[go_sem] theorem Try.fld152_0 : fieldO Try.prog 152 0 = some (0, 77) := by kernel_rfl
@[go_sem] theorem Try.fld152_1 : fieldO Try.prog 152 1 = some (9, 3) := by kernel_rfl
@[go_sem] theorem Try.fld152_2 : fieldO Try.prog 152 2 = some (10, 151) := by kernel_rfl
@[go_sem] theorem Try.bld152 (parts : List (Nat × TV)) : buildO Try.prog 152 parts = (fillT (fun i => ([(0, 9), (9, 1), (10, 1)] : List (Nat × Nat))[i]?) [.nilSl, .nilSl, .int .i64 0, .int .i64 0, .int .i64 0, .int .i64 0, .int .i64 0, .int .i64 0, .int .i64 0, .int .i64 0, .nilMap] parts).map .agg := by kernel_rfl
@[go_sem] theorem Try.bldp152 (parts : List (Nat × PV)) : buildP Try.prog 152 parts = fillP (fun i => ([(0, 9), (9, 1), (10, 1)] : List (Nat × Nat))[i]?) [.t (.nilSl), .t (.nilSl), .t (.int .i64 0), .t (.int .i64 0), .t (.int .i64 0), .t (.int .i64 0), .t (.int .i64 0), .t (.int .i64 0), .t (.int .i64 0), .t (.int .i64 0), .t (.nilMap)] parts := by kernel_rfl
@[go_sem] theorem Try.eqg152 : Program.eqGuardType Try.prog (Program.depth Try.prog) 152 = false := by kernel_rfl
@[go_sem] theorem Try.agg153 : aggO Try.prog 153 = some true := by kernel_rfl
@[go_sem] theorem Try.pln153 : plainO Try.prog 153 = some true := by kernel_rfl
@[go_sem] theorem Try.sz153 : szO Try.prog 153 = some 11 := by kernel_rfl
@[go_sem] theorem Try.zero153 : zeroL Try.prog 153 = some [.nilSl, .nilSl, .int .i64 0, .int .i64 0, .int .i64 0, .int .i64 0, .int .i64 0, .int .i64 0, .int .i64 0, .int .i64 0, .nilMap] := by kernel_rfl
@[go_sem] theorem Try.small153 : smallO Try.prog 153 = some (11, 120) := by kernel_rfl
@[go_sem] theorem Try.zt153 : zeroT Try.prog 153 = some (.agg [.nilSl, .nilSl, .int .i64 0, .int .i64 0, .int .i64 0, .int .i64 0, .int .i64 0, .int .i64 0, .int .i64 0, .int .i64 0, .nilMap]) := by kernel_rfl
@[go_sem] theorem Try.fld153_0 : fieldO Try.prog 153 0 = some (0, 77) := by kernel_rfl
@[go_sem] theorem Try.fld153_1 : fieldO Try.prog 153 1 = some (9, 3) := by kernel_rfl
@[go_sem] theorem Try.fld153_2 : fieldO Try.prog 153 2 = some (10, 151) := by kernel_rfl
@[go_sem] theorem Try.bld153 (parts : List (Nat × TV)) : buildO Try.prog 153 parts = (fillT (fun i => ([(0, 9), (9, 1), (10, 1)] : List (Nat × Nat))[i]?) [.nilSl, .nilSl, .int .i64 0, .int .i64 0, .int .i64 0, .int .i64 0, .int .i64 0, .int .i64 0, .int .i64 0, .int .i64 0, .nilMap] parts).map .agg := by kernel_rfl
@[go_sem] theorem Try.bldp153 (parts : List (Nat × PV)) : buildP Try.prog 153 parts = fillP (fun i => ([(0, 9), (9, 1), (10, 1)] : List (Nat × Nat))[i]?) [.t (.nilSl), .t (.nilSl), .t (.int .i64 0), .t (.int .i64 0), .t (.int .i64 0), .t (.int .i64 0), .t (.int .i64 0), .t (.int .i64 0), .t (.int .i64 0), .t (.int .i64 0), .t (.nilMap)] parts := by kernel_rfl
@[go_sem] theorem Try.eqg153 : Program.eqGuardType Try.prog (Program.depth Try.prog) 153 = false := by kernel_rfl
@[go_sem] theorem Try.agg155 : aggO Try.prog 155 = some false := by kernel_rfl
@[go_sem] theorem Try.pln155 : plainO Try.prog 155 = some true := by kernel_rfl
@[go_sem] theorem Try.sz155 : szO Try.prog 155 = some 1 := by kernel_rfl
@[go_sem] theorem Try.zero155 : zeroL Try.prog 155 = some [.nilFn] := by kernel_rfl
@[go_sem] theorem Try.small155 : smallO Try.prog 155 = some (1, 8) := by kernel_rfl
@[go_sem] theorem Try.zt155 : zeroT Try.prog 155 = some (.nilFn) := by kernel_rfl
@[go_sem] theorem Try.agg156 : aggO Try.prog 156 = some false := by kernel_rfl
@[go_sem] theorem Try.pln156 : plainO Try.prog 156 = some true := by kernel_rfl
@[go_sem] theorem Try.sz156 : szO Try.prog 156 = some 1 := by kernel_rfl
@[go_sem] theorem Try.zero156 : zeroL Try.prog 156 = some [.int .u64 0] := by kernel_rfl
@[go_sem] theorem Try.small156 : smallO Try.prog 156 = some (1, 8) := by kernel_rfl
@[go_sem] theorem Try.zt156 : zeroT Try.prog 156 = some (.int .u64 0) := by kernel_rfl
@[go_sem] theorem Try.knd156 : kindO Try.prog 156 = some .u64 := by kernel_rfl
@[go_sem] theorem Try.und156 : Program.underlying Try.prog 156 = some (.int .u64) := by kernel_rfl
@[go_sem] theorem Try.agg157 : aggO Try.prog 157 = some false := by kernel_rfl
@[go_sem] theorem Try.pln157 : plainO Try.prog 157 = some true := by kernel_rfl
@[go_sem] theorem Try.sz157 : szO Try.prog 157 = some 1 := by kernel_rfl
@[go_sem] theorem Try.zero157 : zeroL Try.prog 157 = some [.nilFn] := by kernel_rfl
@[go_sem] theorem Try.small157 : smallO Try.prog 157 = some (1, 8) := by kernel_rfl
@[go_sem] theorem Try.zt157 : zeroT Try.prog 157 = some (.nilFn) := by kernel_rfl
@[go_sem] theorem Try.agg158 : aggO Try.prog 158 = some false := by kernel_rfl
@[go_sem] theorem Try.pln158 : plainO Try.prog 158 = some true := by kernel_rfl
@[go_sem] theorem Try.sz158 : szO Try.prog 158 = some 1 := by kernel_rfl
@[go_sem] theorem Try.zero158 : zeroL Try.prog 158 = some [.nilFn] := by kernel_rfl
@[go_sem] theorem Try.small158 : smallO Try.prog 158 = some (1, 8) := by kernel_rfl
@[go_sem] theorem Try.zt158 : zeroT Try.prog 158 = some (.nilFn) := by kernel_rfl
@[go_sem] theorem Try.agg159 : aggO Try.prog 159 = some false := by kernel_rfl
@[go_sem] theorem Try.pln159 : plainO Try.prog 159 = some true := by kernel_rfl
@[go_sem] theorem Try.sz159 : szO Try.prog 159 = some 1 := by kernel_rfl
@[go_sem] theorem Try.zero159 : zeroL Try.prog 159 = some [.nilFn] := by kernel_rfl
@[go_sem] theorem Try.small159 : smallO Try.prog 159 = some (1, 8) := by kernel_rfl
@[go_sem] theorem Try.zt159 : zeroT Try.prog 159 = some (.nilFn) := by kernel_rfl
@[go_sem] theorem Try.agg160 : aggO Try.prog 160 = some false := by kernel_rfl
@[go_sem] theorem Try.pln160 : plainO Try.prog 160 = some true := by kernel_rfl
@[go_sem] theorem Try.sz160 : szO Try.prog 160 = some 1 := by kernel_rfl
@[go_sem] theorem Try.zero160 : zeroL Try.prog 160 = some [.nilFn] := by kernel_rfl
@[go_sem] theorem Try.small160 : smallO Try.prog 160 = some (1, 8) := by kernel_rfl
@[go_sem] theorem Try.zt160 : zeroT Try.prog 160 = some (.nilFn) := by kernel_rfl
@[go_sem] theorem Try.agg161 : aggO Try.prog 161 = some false := by kernel_rfl
@[go_sem] theorem Try.pln161 : plainO Try.prog 161 = some true := by kernel_rfl
@[go_sem] theorem Try.sz161 : szO Try.prog 161 = some 1 := by kernel_rfl
@[go_sem] theorem Try.zero161 : zeroL Try.prog 161 = some [.nilFn] := by kernel_rfl
@[go_sem] theorem Try.small161 : smallO Try.prog 161 = some (1, 8) := by kernel_rfl
@[go_sem] theorem Try.zt161 : zeroT Try.prog 161 = some (.nilFn) := by kernel_rfl
@[go_sem] theorem Try.agg162 : aggO Try.prog 162 = some false := by kernel_rfl
@[go_sem] theorem Try.pln162 : plainO Try.prog 162 = some true := by kernel_rfl
@[go_sem] theorem Try.sz162 : szO Try.prog 162 = some 1 := by kernel_rfl
@[go_sem] theorem Try.zero162 : zeroL Try.prog 162 = some [.nilFn] := by kernel_rfl
@[go_sem] theorem Try.small162 : smallO Try.prog 162 = some (1, 8) := by kernel_rfl
@[go_sem] theorem Try.zt162 : zeroT Try.prog 162 = some (.nilFn) := by kernel_rfl
@[go_sem] theorem Try.agg163 : aggO Try.prog 163 = some false := by kernel_rfl
@[go_sem] theorem Try.pln163 : plainO Try.prog 163 = some true := by kernel_rfl
@[go_sem] theorem Try.sz163 : szO Try.prog 163 = some 1 := by kernel_rfl
@[go_sem] theorem Try.zero163 : zeroL Try.prog 163 = some [.nilFn] := by kernel_rfl
@[go_sem] theorem Try.small163 : smallO Try.prog 163 = some (1, 8) := by kernel_rfl
@[go_sem] theorem Try.zt163 : zeroT Try.prog 163 = some (.nilFn) := by kernel_rfl
@[go_sem] theorem Try.agg164 : aggO Try.prog 164 = some true := by kernel_rfl
@[go_sem] theorem Try.pln164 : plainO Try.prog 164 = some true := by kernel_rfl
@[go_sem] theorem Try.sz164 : szO Try.prog 164 = some 2 := by kernel_rfl
@[go_sem] theorem Try.zero164 : zeroL Try.prog 164 = some [.nilSl, .nilFn] := by kernel_rfl
@[go_sem] theorem Try.small164 : smallO Try.prog 164 = some (2, 32) := by kernel_rfl
@[go_sem] theorem Try.zt164 : zeroT Try.prog 164 = some (.agg [.nilSl, .nilFn]) := by kernel_rfl
@[go_sem] theorem Try.fld164_0 : fieldO Try.prog 164 0 = some (0, 29) := by kernel_rfl
@[go_sem] theorem Try.fld164_1 : fieldO Try.prog 164 1 = some (1, 63) := by kernel_rfl
@[go_sem] theorem Try.bld164 (parts : List (Nat × TV)) : buildO Try.prog 164 parts = (fillT (fun i => ([(0, 1), (1, 1)] : List (Nat × Nat))[i]?) [.nilSl, .nilFn] parts).map .agg := by kernel_rfl
@[go_sem] theorem Try.bldp164 (parts : List (Nat × PV)) : buildP Try.prog 164 parts = fillP (fun i => ([(0, 1), (1, 1)] : List (Nat × Nat))[i]?) [.t (.nilSl), .t (.nilFn)] parts := by kernel_rfl
@[go_sem] theorem Try.eqg164 : Program.eqGuardType Try.prog (Program.depth Try.prog) 164 = false := by kernel_rfl
@[go_sem] theorem Try.agg165 : aggO Try.prog 165 = some true := by kernel_rfl
@[go_sem] theorem Try.pln165 : plainO Try.prog 165 = some true := by kernel_rfl
@[go_sem] theorem Try.sz165 : szO Try.prog 165 = some 2 := by kernel_rfl
@[go_sem] theorem Try.zero165 : zeroL Try.prog 165 = some [.nilSl, .nilFn] := by kernel_rfl
@[go_sem] theorem Try.small165 : smallO Try.prog 165 = some (2, 32) := by kernel_rfl
@[go_sem] theorem Try.zt165 : zeroT Try.prog 165 = some (.agg [.nilSl, .nilFn]) := by kernel_rfl
@[go_sem] theorem Try.fld165_0 : fieldO Try.prog 165 0 = some (0, 29) := by kernel_rfl
@[go_sem] theorem Try.fld165_1 : fieldO Try.prog 165 1 = some (1, 63) := by kernel_rfl
@[go_sem] theorem Try.bld165 (parts : List (Nat × TV)) : buildO Try.prog 165 parts = (fillT (fun i => ([(0, 1), (1, 1)] : List (Nat × Nat))[i]?) [.nilSl, .nilFn] parts).map .agg := by kernel_rfl
@[go_sem] theorem Try.bldp165 (parts : List (Nat × PV)) : buildP Try.prog 165 parts = fillP (fun i => ([(0, 1), (1, 1)] : List (Nat × Nat))[i]?) [.t (.nilSl), .t (.nilFn)] parts := by kernel_rfl
@[go_sem] theorem Try.eqg165 : Program.eqGuardType Try.prog (Program.depth Try.prog) 165 = false := by kernel_rfl
@[go_sem] theorem Try.agg166 : aggO Try.prog 166 = some true := by kernel_rfl
@[go_sem] theorem Try.pln166 : plainO Try.prog 166 = some true := by kernel_rfl
@[go_sem] theorem Try.sz166 : szO Try.prog 166 = some 2 := by kernel_rfl
@[go_sem] theorem Try.zero166 : zeroL Try.prog 166 = some [.nilSl, .nilSl] := by kernel_rfl
@[go_sem] theorem Try.small166 : smallO Try.prog 166 = some (2, 48) := by kernel_rfl
@[go_sem] theorem Try.zt166 : zeroT Try.prog 166 = some (.agg [.nilSl, .nilSl]) := by kernel_rfl
@[go_sem] theorem Try.bld166 (parts : List (Nat × TV)) : buildO Try.prog 166 parts = (fillT (fun i => some (i * 1, 1)) [.nilSl, .nilSl] parts).map .agg := by kernel_rfl
@[go_sem] theorem Try.eqg166 : Program.eqGuardType Try.prog (Program.depth Try.prog) 166 = false := by kernel_rfl
@[go_sem] theorem Try.arr166 : arrayO Try.prog 166 = some (2, 29) := by kernel_rfl
@[go_sem] theorem Try.und166 : Program.underlying Try.prog 166 = some (.array 2 29) := by kernel_rfl
@[go_sem] theorem Try.agg167 : aggO Try.prog 167 = some true := by kernel_rfl
@[go_sem] theorem Try.pln167 : plainO Try.prog 167 = some true := by kernel_rfl
@[go_sem] theorem Try.sz167 : szO Try.prog 167 = some 2 := by kernel_rfl
@[go_sem] theorem Try.zero167 : zeroL Try.prog 167 = some [.int .i64 0, .int .i64 0] := by kernel_rfl
@[go_sem] theorem Try.small167 : smallO Try.prog 167 = some (2, 16) := by kernel_rfl
@[go_sem] theorem Try.zt167 : zeroT Try.prog 167 = some (.agg [.int .i64 0, .int .i64 0]) := by kernel_rfl
@[go_sem] theorem Try.fld167_0 : fieldO Try.prog 167 0 = some (0, 3) := by kernel_rfl
@[go_sem] theorem Try.fld167_1 : fieldO Try.prog 167 1 = some (1, 3) := by kernel_rfl
@[go_sem] theorem Try.bld167 (parts : List (Nat × TV)) : buildO Try.prog 167 parts = (fillT (fun i => ([(0, 1), (1, 1)] : List (Nat × Nat))[i]?) [.int .i64 0, .int .i64 0] parts).map .agg := by kernel_rfl
@[go_sem] theorem Try.eqg167 : Program.eqGuardType Try.prog (Program.depth Try.prog) 167 = false := by kernel_rfl
@[go_sem] theorem Try.agg168 : aggO Try.prog 168 = some true := by kernel_rfl
@[go_sem] theorem Try.pln168 : plainO Try.prog 168 = some true := by kernel_rfl
@[go_sem] theorem Try.sz168 : szO Try.prog 168 = some 2 := by kernel_rfl
@[go_sem] theorem Try.zero168 : zeroL Try.prog 168 = some [.int .i64 0, .int .i64 0] := by kernel_rfl
@[go_sem] theorem Try.small168 : smallO Try.prog 168 = some (2, 16) := by kernel_rfl
@[go_sem] theorem Try.zt168 : zeroT Try.prog 168 = some (.agg [.int .i64 0, .int .i64 0]) := by kernel_rfl
@[go_sem] theorem Try.fld168_0 : fieldO Try.prog 168 0 = some (0, 3) := by kernel_rfl
@[go_sem] theorem Try.fld168_1 : fieldO Try.prog 168 1 = some (1, 3) := by kernel_rfl
@[go_sem] theorem Try.bld168 (parts : List (Nat × TV)) : buildO Try.prog 168 parts = (fillT (fun i => ([(0, 1), (1, 1)] : List (Nat × Nat))[i]?) [.int .i64 0, .int .i64 0] parts).map .agg := by kernel_rfl
@[go_sem] theorem Try.eq168 (a0 b0 : Int) (a1 b1 : Int) : eqT Try.prog 20 168 (.agg [.int .i64 a0, .int .i64 a1]) (.agg [.int .i64 b0, .int .i64 b1]) = some ((a0 == b0) && ((a1 == b1) && true)) := by kernel_rfl
@[go_sem] theorem Try.eqg168 : Program.eqGuardType Try.prog (Program.depth Try.prog) 168 = false := by kernel_rfl
@[go_sem] theorem Try.agg169 : aggO Try.prog 169 = some false := by kernel_rfl
@[go_sem] theorem Try.pln169 : plainO Try.prog 169 = some true := by kernel_rfl
@[go_sem] theorem Try.sz169 : szO Try.prog 169 = some 1 := by kernel_rfl
@[go_sem] theorem Try.zero169 : zeroL Try.prog 169 = some [.nilSl] := by kernel_rfl
@[go_sem] theorem Try.small169 : smallO Try.prog 169 = some (1, 24) := by kernel_rfl
@[go_sem] theorem Try.zt169 : zeroT Try.prog 169 = some (.nilSl) := by kernel_rfl
@[go_sem] theorem Try.eqn169 : eqT Try.prog 20 169 .nilSl .nilSl = some true := by kernel_rfl
@[go_sem] theorem Try.eqs169 (cs : List TV) (n : Nat) (f : Bool) : eqT Try.prog 20 169 (.sl cs n f) .nilSl = some false := by kernel_rfl
@[go_sem] theorem Try.eqt169 (cs : List TV) (n : Nat) (f : Bool) : eqT Try.prog 20 169 .nilSl (.sl cs n f) = some false := by kernel_rfl
@[go_sem] theorem Try.sl169 : sliceO Try.prog 169 = some 174 := by kernel_rfl
@[go_sem] theorem Try.und169 : Program.underlying Try.prog 169 = some (.slice 174) := by kernel_rfl
@[go_sem] theorem Try.agg170 : aggO Try.prog 170 = some false := by kernel_rfl
@[go_sem] theorem Try.pln170 : plainO Try.prog 170 = some true := by kernel_rfl
@[go_sem] theorem Try.sz170 : szO Try.prog 170 = some 1 := by kernel_rfl
@[go_sem] theorem Try.zero170 : zeroL Try.prog 170 = some [.nilFn] := by kernel_rfl
@[go_sem] theorem Try.small170 : smallO Try.prog 170 = some (1, 8) := by kernel_rfl
@[go_sem] theorem Try.zt170 : zeroT Try.prog 170 = some (.nilFn) := by kernel_rfl
@[go_sem] theorem Try.agg171 : aggO Try.prog 171 = some true := by kernel_rfl
@[go_sem] theorem Try.pln171 : plainO Try.prog 171 = some true := by kernel_rfl
@[go_sem] theorem Try.sz171 : szO Try.prog 171 = some 60 := by kernel_rfl
@[go_sem] theorem Try.zero171 : zeroL Try.prog 171 = some [.int .i64 0, .int .i64 0, .int .i64 0, .int .i64 0, .int .i64 0, .int .i64 0, .int .i64 0, .int .i64 0, .int .i64 0, .int .i64 0, .int .i64 0, .int .i64 0, .int .i64 0, .int .i64 0, .int .i64 0, .int .i64 0, .int .i64 0, .int .i64 0, .int .i64 0, .int .i64 0, .int .i64 0, .int .i64 0, .int .i64 0, .int .i64 0, .int .i64 0, .int .i64 0, .int .i64 0, .int .i64 0, .int .i64 0, .int .i64 0, .int .i64 0, .int .i64 0, .int .i64 0, .int .i64 0, .int .i64 0, .int .i64 0, .int .i64 0, .int .i64 0, .int .i64 0, .int .i64 0, .int .i64 0, .int .i64 0, .int .i64 0, .int .i64 0, .int .i64 0, .int .i64 0, .int .i64 0, .int .i64 0, .int .i64 0, .int .i64 0, .int .i64 0, .int .i64 0, .int .i64 0, .int .i64 0, .int .i64 0, .int .i64 0, .int .i64 0, .int .i64 0, .int .i64 0, .int .i64 0] := by kernel_rfl
@[go_sem] theorem Try.small171 : smallO Try.prog 171 = some (60, 480) := by kernel_rfl
@[go_sem] theorem Try.zt171 : zeroT Try.prog 171 = some (.agg [.int .i64 0, .int .i64 0, .int .i64 0, .int .i64 0, .int .i64 0, .int .i64 0, .int .i64 0, .int .i64 0, .int .i64 0, .int .i64 0, .int .i64 0, .int .i64 0, .int .i64 0, .int .i64 0, .int .i64 0, .int .i64 0, .int .i64 0, .int .i64 0, .int .i64 0, .int .i64 0, .int .i64 0, .int .i64 0, .int .i64 0, .int .i64 0, .int .i64 0, .int .i64 0, .int .i64 0, .int .i64 0, .int .i64 0, .int .i64 0, .int .i64 0, .int .i64 0, .int .i64 0, .int .i64 0, .int .i64 0, .int .i64 0, .int .i64 0, .int .i64 0, .int .i64 0, .int .i64 0, .int .i64 0, .int .i64 0, .int .i64 0, .int .i64 0, .int .i64 0, .int .i64 0, .int .i64 0, .int .i64 0, .int .i64 0, .int .i64 0, .int .i64 0, .int .i64 0, .int .i64 0, .int .i64 0, .int .i64 0, .int .i64 0, .int .i64 0, .int .i64 0, .int .i64 0, .int .i64 0]) := by kernel_rfl
@[go_sem] theorem Try.bld171 (parts : List (Nat × TV)) : buildO Try.prog 171 parts = (fillT (fun i => some (i * 1, 1)) [.int .i64 0, .int .i64 0, .int .i64 0, .int .i64 0, .int .i64 0, .int .i64 0, .int .i64 0, .int .i64 0, .int .i64 0, .int .i64 0, .int .i64 0, .int .i64 0, .int .i64 0, .int .i64 0, .int .i64 0, .int .i64 0, .int .i64 0, .int .i64 0, .int .i64 0, .int .i64 0, .int .i64 0, .int .i64 0, .int .i64 0, .int .i64 0, .int .i64 0, .int .i64 0, .int .i64 0, .int .i64 0, .int .i64 0, .int .i64 0, .int .i64 0, .int .i64 0, .int .i64 0, .int .i64 0, .int .i64 0, .int .i64 0, .int .i64 0, .int .i64 0, .int .i64 0, .int .i64 0, .int .i64 0, .int .i64 0, .int .i64 0, .int .i64 0, .int .i64 0, .int .i64 0, .int .i64 0, .int .i64 0, .int .i64 0, .int .i64 0, .int .i64 0, .int .i64 0, .int .i64 0, .int .i64 0, .int .i64 0, .int .i64 0, .int .i64 0, .int .i64 0, .int .i64 0, .int .i64 0] parts).map .agg := by kernel_rfl
@[go_sem] theorem Try.eqg171 : Program.eqGuardType Try.prog (Program.depth Try.prog) 171 = false := by kernel_rfl
@[go_sem] theorem Try.arr171 : arrayO Try.prog 171 = some (60, 3) := by kernel_rfl
@[go_sem] theorem Try.und171 : Program.underlying Try.prog 171 = some (.array 60 3) := by kernel_rfl
@[go_sem] theorem Try.agg172 : aggO Try.prog 172 = some true := by kernel_rfl
@[go_sem] theorem Try.pln172 : plainO Try.prog 172 = some true := by kernel_rfl
@[go_sem] theorem Try.sz172 : szO Try.prog 172 = some 60 := by kernel_rfl
@[go_sem] theorem Try.zero172 : zeroL Try.prog 172 = some [.int .i64 0, .int .i64 0, .int .i64 0, .int .i64 0, .int .i64 0, .int .i64 0, .int .i64 0, .int .i64 0, .int .i64 0, .int .i64 0, .int .i64 0, .int .i64 0, .int .i64 0, .int .i64 0, .int .i64 0, .int .i64 0, .int .i64 0, .int .i64 0, .int .i64 0, .int .i64 0, .int .i64 0, .int .i64 0, .int .i64 0, .int .i64 0, .int .i64 0, .int .i64 0, .int .i64 0, .int .i64 0, .int .i64 0, .int .i64 0, .int .i64 0, .int .i64 0, .int .i64 0, .int .i64 0, .int .i64 0, .int .i64 0, .int .i64 0, .int .i64 0, .int .i64 0, .int .i64 0, .int .i64 0, .int .i64 0, .int .i64 0, .int .i64 0, .int .i64 0, .int .i64 0, .int .i64 0, .int .i64 0, .int .i64 0, .int .i64 0, .int .i64 0, .int .i64 0, .int .i64 0, .int .i64 0, .int .i64 0, .int .i64 0, .int .i64 0, .int .i64 0, .int .i64 0, .int .i64 0] := by kernel_rfl
@[go_sem] theorem Try.small172 : smallO Try.prog 172 = some (60, 480) := by kernel_rfl
@[go_sem] theorem Try.zt172 : zeroT Try.prog 172 = some (.agg [.int .i64 0, .int .i64 0, .int .i64 0, .int .i64 0, .int .i64 0, .int .i64 0, .int .i64 0, .int .i64 0, .int .i64 0, .int .i64 0, .int .i64 0, .int .i64 0, .int .i64 0, .int .i64 0, .int .i64 0, .int .i64 0, .int .i64 0, .int .i64 0, .int .i64 0, .int .i64 0, .int .i64 0, .int .i64 0, .int .i64 0, .int .i64 0, .int .i64 0, .int .i64 0, .int .i64 0, .int .i64 0, .int .i64 0, .int .i64 0, .int .i64 0, .int .i64 0, .int .i64 0, .int .i64 0, .int .i64 0, .int .i64 0, .int .i64 0, .int .i64 0, .int .i64 0, .int .i64 0, .int .i64 0, .int .i64 0, .int .i64 0, .int .i64 0, .int .i64 0, .int .i64 0, .int .i64 0, .int .i64 0, .int .i64 0, .int .i64 0, .int .i64 0, .int .i64 0, .int .i64 0, .int .i64 0, .int .i64 0, .int .i64 0, .int .i64 0, .int .i64 0, .int .i64 0, .int .i64 0]) := by kernel_rfl
@[go_sem] theorem Try.bld172 (parts : List (Nat × TV)) : buildO Try.prog 172 parts = (fillT (fun i => some (i * 1, 1)) [.int .i64 0, .int .i64 0, .int .i64 0, .int .i64 0, .int .i64 0, .int .i64 0, .int .i64 0, .int .i64 0, .int .i64 0, .int .i64 0, .int .i64 0, .int .i64 0, .int .i64 0, .int .i64 0, .int .i64 0, .int .i64 0, .int .i64 0, .int .i64 0, .int .i64 0, .int .i64 0, .int .i64 0, .int .i64 0, .int .i64 0, .int .i64 0, .int .i64 0, .int .i64 0, .int .i64 0, .int .i64 0, .int .i64 0, .int .i64 0, .int .i64 0, .int .i64 0, .int .i64 0, .int .i64 0, .int .i64 0, .int .i64 0, .int .i64 0, .int .i64 0, .int .i64 0, .int .i64 0, .int .i64 0, .int .i64 0, .int .i64 0, .int .i64 0, .int .i64 0, .int .i64 0, .int .i64 0, .int .i64 0, .int .i64 0, .int .i64 0, .int .i64 0, .int .i64 0, .int .i64 0, .int .i64 0, .int .i64 0, .int .i64 0, .int .i64 0, .int .i64 0, .int .i64 0, .int .i64 0] parts).map .agg := by kernel_rfl
@[go_sem] theorem Try.eqg172 : Program.eqGuardType Try.prog (Program.depth Try.prog) 172 = false := by kernel_rfl
@[go_sem] theorem Try.arr172 : arrayO Try.prog 172 = some (60, 3) := by kernel_rfl
@[go_sem] theorem Try.und172 : Program.underlying Try.prog 172 = some (.array 60 3) := by kernel_rfl
@[go_sem] theorem Try.agg173 : aggO Try.prog 173 = some true := by kernel_rfl
@[go_sem] theorem Try.pln173 : plainO Try.prog 173 = some true := by kernel_rfl
@[go_sem] theorem Try.sz173 : szO Try.prog 173 = some 5 := by kernel_rfl
@[go_sem] theorem Try.zero173 : zeroL Try.prog 173 = some [.int .i64 0, .int .i64 0, .int .i64 0, .int .i64 0, .int .i64 0] := by kernel_rfl
@[go_sem] theorem Try.small173 : smallO Try.prog 173 = some (5, 40) := by kernel_rfl
@[go_sem] theorem Try.zt173 : zeroT Try.prog 173 = some (.agg [.int .i64 0, .int .i64 0, .int .i64 0, .int .i64 0, .int .i64 0]) := by kernel_rfl
@[go_sem] theorem Try.fld173_0 : fieldO Try.prog 173 0 = some (0, 168) := by kernel_rfl
@[go_sem] theorem Try.fld173_1 : fieldO Try.prog 173 1 = some (2, 168) := by kernel_rfl
@[go_sem] theorem Try.fld173_2 : fieldO Try.prog 173 2 = some (4, 3) := by kernel_rfl
@[go_sem] theorem Try.bld173 (parts : List (Nat × TV)) : buildO Try.prog 173 parts = (fillT (fun i => ([(0, 2), (2, 2), (4, 1)] : List (Nat × Nat))[i]?) [.int .i64 0, .int .i64 0, .int .i64 0, .int .i64 0, .int .i64 0] parts).map .agg := by kernel_rfl
@[go_sem] theorem Try.eqg173 : Program.eqGuardType Try.prog (Program.depth Try.prog) 173 = false := by kernel_rfl
@[go_sem] theorem Try.agg174 : aggO Try.prog 174 = some true := by kernel_rfl
@[go_sem] theorem Try.pln174 : plainO Try.prog 174 = some true := by kernel_rfl
@[go_sem] theorem Try.sz174 : szO Try.prog 174 = some 5 := by kernel_rfl
@[go_sem] theorem Try.zero174 : zeroL Try.prog 174 = some [.int .i64 0, .int .i64 0, .int .i64 0, .int .i64 0, .int .i64 0] := by kernel_rfl
@[go_sem] theorem Try.small174 : smallO Try.prog 174 = some (5, 40) := by kernel_rfl
@[go_sem] theorem Try.zt174 : zeroT Try.prog 174 = some (.agg [.int .i64 0, .int .i64 0, .int .i64 0, .int .i64 0, .int .i64 0]) := by kernel_rfl
@[go_sem] theorem Try.fld174_0 : fieldO Try.prog 174 0 = some (0, 168) := by kernel_rfl
@[go_sem] theorem Try.fld174_1 : fieldO Try.prog 174 1 = some (2, 168) := by kernel_rfl
@[go_sem] theorem Try.fld174_2 : fieldO Try.prog 174 2 = some (4, 3) := by kernel_rfl
@[go_sem] theorem Try.bld174 (parts : List (Nat × TV)) : buildO Try.prog 174 parts = (fillT (fun i => ([(0, 2), (2, 2), (4, 1)] : List (Nat × Nat))[i]?) [.int .i64 0, .int .i64 0, .int .i64 0, .int .i64 0, .int .i64 0] parts).map .agg := by kernel_rfl
@[go_sem] theorem Try.eq174 (a0 b0 : Int) (a1 b1 : Int) (a2 b2 : Int) (a3 b3 : Int) (a4 b4 : Int) : eqT Try.prog 20 174 (.agg [.int .i64 a0, .int .i64 a1, .int .i64 a2, .int .i64 a3, .int .i64 a4]) (.agg [.int .i64 b0, .int .i64 b1, .int .i64 b2, .int .i64 b3, .int .i64 b4]) = some (((a0 == b0) && ((a1 == b1) && true)) && (((a2 == b2) && ((a3 == b3) && true)) && ((a4 == b4) && true))) := by kernel_rfl
@[go_sem] theorem Try.eqg174 : Program.eqGuardType Try.prog (Program.depth Try.prog) 174 = false := by kernel_rfl
@[go_sem] theorem Try.agg175 : aggO Try.prog 175 = some false := by kernel_rfl
@[go_sem] theorem Try.pln175 : plainO Try.prog 175 = some true := by kernel_rfl
@[go_sem] theorem Try.sz175 : szO Try.prog 175 = some 1 := by kernel_rfl
@[go_sem] theorem Try.zero175 : zeroL Try.prog 175 = some [.nilFn] := by kernel_rfl
@[go_sem] theorem Try.small175 : smallO Try.prog 175 = some (1, 8) := by kernel_rfl
@[go_sem] theorem Try.zt175 : zeroT Try.prog 175 = some (.nilFn) := by kernel_rfl
@[go_sem] theorem Try.agg176 : aggO Try.prog 176 = some false := by kernel_rfl
@[go_sem] theorem Try.pln176 : plainO Try.prog 176 = some true := by kernel_rfl
@[go_sem] theorem Try.sz176 : szO Try.prog 176 = some 1 := by kernel_rfl
@[go_sem] theorem Try.zero176 : zeroL Try.prog 176 = some [.nilFn] := by kernel_rfl
@[go_sem] theorem Try.small176 : smallO Try.prog 176 = some (1, 8) := by kernel_rfl
@[go_sem] theorem Try.zt176 : zeroT Try.prog 176 = some (.nilFn) := by kernel_rfl
@[go_sem] theorem Try.agg177 : aggO Try.prog 177 = some false := by kernel_rfl
@[go_sem] theorem Try.pln177 : plainO Try.prog 177 = some true := by kernel_rfl
@[go_sem] theorem Try.sz177 : szO Try.prog 177 = some 1 := by kernel_rfl
@[go_sem] theorem Try.zero177 : zeroL Try.prog 177 = some [.nilFn] := by kernel_rfl
@[go_sem] theorem Try.small177 : smallO Try.prog 177 = some (1, 8) := by kernel_rfl
@[go_sem] theorem Try.zt177 : zeroT Try.prog 177 = some (.nilFn) := by kernel_rfl
@[go_sem] theorem Try.agg178 : aggO Try.prog 178 = some true := by kernel_rfl
@[go_sem] theorem Try.pln178 : plainO Try.prog 178 = some true := by kernel_rfl
@[go_sem] theorem Try.sz178 : szO Try.prog 178 = some 4 := by kernel_rfl
@[go_sem] theorem Try.zero178 : zeroL Try.prog 178 = some [.nilPtr, .nilPtr, .nilPtr, .str ⟨#[]⟩] := by kernel_rfl
@[go_sem] theorem Try.small178 : smallO Try.prog 178 = some (4, 40) := by kernel_rfl
@[go_sem] theorem Try.zt178 : zeroT Try.prog 178 = some (.agg [.nilPtr, .nilPtr, .nilPtr, .str ⟨#[]⟩]) := by kernel_rfl
@[go_sem] theorem Try.fld178_0 : fieldO Try.prog 178 0 = some (0, 17) := by kernel_rfl
@[go_sem] theorem Try.fld178_1 : fieldO Try.prog 178 1 = some (1, 17) := by kernel_rfl
@[go_sem] theorem Try.fld178_2 : fieldO Try.prog 178 2 = some (2, 17) := by kernel_rfl
@[go_sem] theorem Try.fld178_3 : fieldO Try.prog 178 3 = some (3, 9) := by kernel_rfl
@[go_sem] theorem Try.bld178 (parts : List (Nat × TV)) : buildO Try.prog 178 parts = (fillT (fun i => ([(0, 1), (1, 1), (2, 1), (3, 1)] : List (Nat × Nat))[i]?) [.nilPtr, .nilPtr, .nilPtr, .str ⟨#[]⟩] parts).map .agg := by kernel_rfl
@[go_sem] theorem Try.bldp178 (parts : List (Nat × PV)) : buildP Try.prog 178 parts = fillP (fun i => ([(0, 1), (1, 1), (2, 1), (3, 1)] : List (Nat × Nat))[i]?) [.t (.nilPtr), .t (.nilPtr), .t (.nilPtr), .t (.str ⟨#[]⟩)] parts := by kernel_rfl
@[go_sem] theorem Try.eqg178 : Program.eqGuardType Try.prog (Program.depth Try.prog) 178 = false := by kernel_rfl
@[go_sem] theorem Try.agg180 : aggO Try.prog 180 = some true := by kernel_rfl
@[go_sem] theorem Try.pln180 : plainO Try.prog 180 = some true := by kernel_rfl
@[go_sem] theorem Try.sz180 : szO Try.prog 180 = some 0 := by kernel_rfl
@[go_sem] theorem Try.zero180 : zeroL Try.prog 180 = some [] := by kernel_rfl
@[go_sem] theorem Try.zt180 : zeroT Try.prog 180 = some (.agg []) := by kernel_rfl
@[go_sem] theorem Try.arr180 : arrayO Try.prog 180 = some (0, 16) := by kernel_rfl
@[go_sem] theorem Try.und180 : Program.underlying Try.prog 180 = some (.array 0 16) := by kernel_rfl
@[go_sem] theorem Try.agg181 : aggO Try.prog 181 = some true := by kernel_rfl
@[go_sem] theorem Try.pln181 : plainO Try.prog 181 = some true := by kernel_rfl
@[go_sem] theorem Try.sz181 : szO Try.prog 181 = some 0 := by kernel_rfl
@[go_sem] theorem Try.zero181 : zeroL Try.prog 181 = some [] := by kernel_rfl
@[go_sem] theorem Try.zt181 : zeroT Try.prog 181 = some (.agg []) := by kernel_rfl
@[go_sem] theorem Try.fld181_0 : fieldO Try.prog 181 0 = some (0, 180) := by kernel_rfl
@[go_sem] theorem Try.agg183 : aggO Try.prog 183 = some false := by kernel_rfl
@[go_sem] theorem Try.pln183 : plainO Try.prog 183 = some true := by kernel_rfl
@[go_sem] theorem Try.sz183 : szO Try.prog 183 = some 1 := by kernel_rfl
@[go_sem] theorem Try.zero183 : zeroL Try.prog 183 = some [.int .u32 0] := by kernel_rfl
@[go_sem] theorem Try.small183 : smallO Try.prog 183 = some (1, 4) := by kernel_rfl
@[go_sem] theorem Try.zt183 : zeroT Try.prog 183 = some (.int .u32 0) := by kernel_rfl
@[go_sem] theorem Try.knd183 : kindO Try.prog 183 = some .u32 := by kernel_rfl
@[go_sem] theorem Try.und183 : Program.underlying Try.prog 183 = some (.int .u32) := by kernel_rfl
@[go_sem] theorem Try.agg186 : aggO Try.prog 186 = some false := by kernel_rfl
@[go_sem] theorem Try.pln186 : plainO Try.prog 186 = some true := by kernel_rfl
@[go_sem] theorem Try.sz186 : szO Try.prog 186 = some 1 := by kernel_rfl
@[go_sem] theorem Try.zero186 : zeroL Try.prog 186 = some [.nilFn] := by kernel_rfl
@[go_sem] theorem Try.small186 : smallO Try.prog 186 = some (1, 8) := by kernel_rfl
@[go_sem] theorem Try.zt186 : zeroT Try.prog 186 = some (.nilFn) := by kernel_rfl
@[go_sem] theorem Try.agg187 : aggO Try.prog 187 = some false := by kernel_rfl
@[go_sem] theorem Try.pln187 : plainO Try.prog 187 = some true := by kernel_rfl
@[go_sem] theorem Try.sz187 : szO Try.prog 187 = some 1 := by kernel_rfl
@[go_sem] theorem Try.zero187 : zeroL Try.prog 187 = some [.nilPtr] := by kernel_rfl
@[go_sem] theorem Try.small187 : smallO Try.prog 187 = some (1, 8) := by kernel_rfl
@[go_sem] theorem Try.zt187 : zeroT Try.prog 187 = some (.nilPtr) := by kernel_rfl
@[go_sem] theorem Try.agg190 : aggO Try.prog 190 = some true := by kernel_rfl
@[go_sem] theorem Try.pln190 : plainO Try.prog 190 = some true := by kernel_rfl
@[go_sem] theorem Try.sz190 : szO Try.prog 190 = some 11 := by kernel_rfl
@[go_sem] theorem Try.zero190 : zeroL Try.prog 190 = some [.int .u64 0, .int .u64 0, .int .u32 0, .int .u8 0, .int .u8 0, .int .u8 0, .int .u8 0, .nilFn, .nilPtr, .int .i32 0, .int .i32 0] := by kernel_rfl
@[go_sem] theorem Try.small190 : smallO Try.prog 190 = some (11, 48) := by kernel_rfl
@[go_sem] theorem Try.zt190 : zeroT Try.prog 190 = some (.agg [.int .u64 0, .int .u64 0, .int .u32 0, .int .u8 0, .int .u8 0, .int .u8 0, .int .u8 0, .nilFn, .nilPtr, .int .i32 0, .int .i32 0]) := by kernel_rfl
@[go_sem] theorem Try.fld190_0 : fieldO Try.prog 190 0 = some (0, 12) := by kernel_rfl
@[go_sem] theorem Try.fld190_1 : fieldO Try.prog 190 1 = some (1, 12) := by kernel_rfl
@[go_sem] theorem Try.fld190_2 : fieldO Try.prog 190 2 = some (2, 183) := by kernel_rfl
@[go_sem] theorem Try.fld190_3 : fieldO Try.prog 190 3 = some (3, 184) := by kernel_rfl
@[go_sem] theorem Try.fld190_4 : fieldO Try.prog 190 4 = some (4, 5) := by kernel_rfl
@[go_sem] theorem Try.fld190_5 : fieldO Try.prog 190 5 = some (5, 5) := by kernel_rfl
@[go_sem] theorem Try.fld190_6 : fieldO Try.prog 190 6 = some (6, 185) := by kernel_rfl
@[go_sem] theorem Try.fld190_7 : fieldO Try.prog 190 7 = some (7, 186) := by kernel_rfl
@[go_sem] theorem Try.fld190_8 : fieldO Try.prog 190 8 = some (8, 187) := by kernel_rfl
@[go_sem] theorem Try.fld190_9 : fieldO Try.prog 190 9 = some (9, 188) := by kernel_rfl
@[go_sem] theorem Try.fld190_10 : fieldO Try.prog 190 10 = some (10, 189) := by kernel_rfl
@[go_sem] theorem Try.bld190 (parts : List (Nat × TV)) : buildO Try.prog 190 parts = (fillT (fun i => ([(0, 1), (1, 1), (2, 1), (3, 1), (4, 1), (5, 1), (6, 1), (7, 1), (8, 1), (9, 1), (10, 1)] : List (Nat × Nat))[i]?) [.int .u64 0, .int .u64 0, .int .u32 0, .int .u8 0, .int .u8 0, .int .u8 0, .int .u8 0, .nilFn, .nilPtr, .int .i32 0, .int .i32 0] parts).map .agg := by kernel_rfl
@[go_sem] theorem Try.bldp190 (parts : List (Nat × PV)) : buildP Try.prog 190 parts = fillP (fun i => ([(0, 1), (1, 1), (2, 1), (3, 1), (4, 1), (5, 1), (6, 1), (7, 1), (8, 1), (9, 1), (10, 1)] : List (Nat × Nat))[i]?) [.t (.int .u64 0), .t (.int .u64 0), .t (.int .u32 0), .t (.int .u8 0), .t (.int .u8 0), .t (.int .u8 0), .t (.int .u8 0), .t (.nilFn), .t (.nilPtr), .t (.int .i32 0), .t (.int .i32 0)] parts := by kernel_rfl
@[go_sem] theorem Try.eqg190 : Program.eqGuardType Try.prog (Program.depth Try.prog) 190 = false := by kernel_rfl
@[go_sem] theorem Try.agg193 : aggO Try.prog 193 = some false := by kernel_rfl
@[go_sem] theorem Try.pln193 : plainO Try.prog 193 = some true := by kernel_rfl
@[go_sem] theorem Try.sz193 : szO Try.prog 193 = some 1 := by kernel_rfl
@[go_sem] theorem Try.zero193 : zeroL Try.prog 193 = some [.nilFn] := by kernel_rfl
@[go_sem] theorem Try.small193 : smallO Try.prog 193 = some (1, 8) := by kernel_rfl
@[go_sem] theorem Try.zt193 : zeroT Try.prog 193 = some (.nilFn) := by kernel_rfl
theorem Try.mixes : Try.prog.follows .mixedOrders = true := by kernel_rfl
end Go.Proofs.Ytcjcnmpecmbdeaa

/- Part Pb. -/
namespace Go.Oc
open Go Go.Pm

/-- A number that an int can hold. -/
def In64 (n : Int) : Prop := -9223372036854775808 ≤ n ∧ n ≤ 9223372036854775807
theorem wrap_id {n : Int} (h : In64 n) : IntKind.i64.wrap n = n := wrap_in h.1 h.2

def inB (n lo hi : Int) : Bool := decide (lo ≤ n) && decide (n ≤ hi)
theorem inB_iff {n lo hi : Int} : inB n lo hi = true ↔ lo ≤ n ∧ n ≤ hi := by simp [inB]

structure Span where
  lo : Int
  hi : Int
  deriving DecidableEq
def Span.cs (s : Span) : List TV := [.int .i64 s.lo, .int .i64 s.hi]
def Span.t (s : Span) : TV := .agg s.cs
def spannedB (s : Span) (lo hi : Int) : Bool := decide (lo ≤ s.lo) && decide (s.lo ≤ s.hi) && decide (s.hi ≤ hi)
def widerS (s : Span) (n : Int) (first : Bool) : Span := if first then ⟨n, n⟩ else ⟨min s.lo n, max s.hi n⟩
def chosen (lo hi n : Int) : Int := if lo ≥ hi then lo else if 9223372036854775807 < hi - lo + 1 then min (max n lo) hi else lo + n % (hi - lo + 1)
theorem chosen_mem {lo hi : Int} (n : Int) (h : lo ≤ hi) : lo ≤ chosen lo hi n ∧ chosen lo hi n ≤ hi := by
  unfold chosen
  split
  · omega
  · split
    · omega
    · have h1 := Int.emod_nonneg n (show hi - lo + 1 ≠ 0 by omega)
      have h2 := Int.emod_lt_of_pos n (show 0 < hi - lo + 1 by omega)
      omega
theorem chosen_low {lo hi : Int} (n : Int) (h : ¬ lo ≤ hi) : chosen lo hi n = lo := by
  unfold chosen; rw [if_pos (by omega)]

/-- A list of ints, as cells. -/
def ints (l : List Int) : List TV := l.map (TV.int .i64)
theorem ints_at {l : List Int} {k : Nat} {x : Int} (h : l[k]? = some x) : (ints l).drop (k * 1) = .int .i64 x :: ints (l.drop (k + 1)) := by
  unfold ints
  rw [Nat.mul_one, ← List.map_drop]
  have hk := (List.getElem?_eq_some_iff.1 h).1
  rw [List.drop_eq_getElem_cons hk, List.map_cons]
  congr 2
  exact (List.getElem?_eq_some_iff.1 h).2
theorem ints_inj : ∀ {a b : List Int}, ints a = ints b → a = b
  | [], [], _ => rfl
  | x :: a, y :: b, h => by
    simp only [ints, List.map_cons, List.cons.injEq, TV.int.injEq, true_and] at h
    rw [h.1, ints_inj (a := a) (b := b) h.2]
  | [], _ :: _, h => by simp [ints] at h
  | _ :: _, [], h => by simp [ints] at h
theorem ints_len (l : List Int) : (ints l).length = l.length := by simp [ints]
noncomputable def unints (cs : List TV) : Option (List Int) := open Classical in if h : ∃ l, cs = ints l then some h.choose else none
theorem unints_eq (l : List Int) : unints (ints l) = some l := by
  have h : ∃ l', ints l = ints l' := ⟨l, rfl⟩
  unfold unints
  rw [dif_pos h]
  congr 1
  exact (ints_inj h.choose_spec).symm

/-- Lists of structs. -/
theorem flat_at {α : Type} (c : α → List TV) {n : Nat} (hc : ∀ x, (c x).length = n) : ∀ {l : List α} {k : Nat} {x : α}, l[k]? = some x → (l.flatMap c).drop (k * n) = c x ++ (l.drop (k + 1)).flatMap c
  | [], k, x, h => by simp at h
  | y :: l, 0, x, h => by simp at h; subst h; simp
  | y :: l, k + 1, x, h => by
    simp at h
    have := flat_at c hc h
    simp only [List.flatMap_cons, List.drop_succ_cons, Nat.add_mul, Nat.one_mul]
    rw [Nat.add_comm, List.drop_append, hc y]
    simp [List.drop_eq_nil_of_le, hc y, this]
theorem flat_len {α : Type} (c : α → List TV) {n : Nat} (hc : ∀ x, (c x).length = n) (l : List α) : (l.flatMap c).length = l.length * n := by
  induction l with
  | nil => simp
  | cons x l ih => simp only [List.flatMap_cons, List.length_append, hc, ih, List.length_cons, Nat.add_mul]; omega
theorem flat_inj {α : Type} {c : α → List TV} {n : Nat} (hc : ∀ x, (c x).length = n) (hn : 0 < n) (hi : ∀ x y, c x = c y → x = y) : ∀ {a b : List α}, a.flatMap c = b.flatMap c → a = b
  | [], [], _ => rfl
  | x :: a, y :: b, h => by
    simp only [List.flatMap_cons] at h
    have h1 := List.append_inj h (by rw [hc, hc])
    rw [hi x y h1.1, flat_inj hc hn hi h1.2]
  | [], y :: b, h => by have := congrArg List.length h; simp [hc] at this; omega
  | x :: a, [], h => by have := congrArg List.length h; simp [hc] at this; omega
noncomputable def unflat {α : Type} (c : α → List TV) (cs : List TV) : Option (List α) := open Classical in if h : ∃ l, cs = l.flatMap c then some h.choose else none
theorem unflat_eq {α : Type} {c : α → List TV} {n : Nat} (hc : ∀ x, (c x).length = n) (hn : 0 < n) (hi : ∀ x y, c x = c y → x = y) (l : List α) : unflat c (l.flatMap c) = some l := by
  have h : ∃ l' : List α, l.flatMap c = l'.flatMap c := ⟨l, rfl⟩
  unfold unflat
  rw [dif_pos h]
  congr 1
  exact (flat_inj hc hn hi h.choose_spec).symm
theorem unflat_some {α : Type} {c : α → List TV} {cs : List TV} {l : List α} (h : unflat c cs = some l) : cs = l.flatMap c := by
  unfold unflat at h
  split at h
  · rename_i hc; cases h; exact hc.choose_spec
  · cases h
theorem unints_some {cs : List TV} {l : List Int} (h : unints cs = some l) : cs = ints l := by
  unfold unints at h
  split at h
  · rename_i hc; cases h; exact hc.choose_spec
  · cases h

/-- A row of structs. -/
def IsRow {α : Type} (c : α → List TV) (s : TV) (l : List α) : Prop := (s = .nilSl ∧ l = []) ∨ ∃ full, s = .sl (l.flatMap c) l.length full
noncomputable def rowL {α : Type} (un : List TV → Option (List α)) : TV → Option (List α)
  | .nilSl => un []
  | .sl cs n _ => match un cs with
    | some l => if n = l.length then some l else none
    | none => none
  | _ => none
attribute [go_sem] rowL
theorem rowL_some {α : Type} {c : α → List TV} {un : List TV → Option (List α)} (h0 : un [] = some []) (hu : ∀ {cs l}, un cs = some l → cs = l.flatMap c) {s : TV} {l : List α} (h : rowL un s = some l) : IsRow c s l := by
  unfold rowL at h
  split at h
  · rw [h0] at h; cases h; exact .inl ⟨rfl, rfl⟩
  · split at h
    · rename_i l' hl
      split at h
      · rename_i hn
        cases h
        have := hu hl
        subst this; subst hn
        exact .inr ⟨_, rfl⟩
      · cases h
    · cases h
  · cases h
theorem IsRow.ne {α : Type} {c : α → List TV} {s : TV} {l : List α} (h : IsRow c s l) (hl : 1 ≤ l.length) : ∃ full, s = .sl (l.flatMap c) l.length full := by
  rcases h with ⟨_, rfl⟩ | h
  · simp at hl
  · exact h

theorem get_lt {α : Type} {l : List α} {k : Nat} (h : (k : Int) < (l.length : Int)) : ∃ x, l[k]? = some x := ⟨l[k]'(by omega), List.getElem?_eq_getElem (by omega)⟩
theorem take_all {α : Type} (p : α → Bool) {l : List α} {k : Nat} {x : α} (h : l[k]? = some x) : (l.take (k + 1)).all p = ((l.take k).all p && p x) := by
  rw [List.take_add_one, h]; simp
theorem take_snoc {α : Type} {l : List α} {k : Nat} {x : α} (h : l[k]? = some x) : l.take (k + 1) = l.take k ++ [x] := by
  rw [List.take_add_one, h]; rfl
theorem all_of_take {α : Type} {p : α → Bool} {l : List α} {k : Nat} (h : (l.take k).all p = false) : l.all p = false := by
  rw [← List.take_append_drop k l, List.all_append, h]; rfl

/-- May the first list stand before the second one? -/
def before : List Int → List Int → Bool
  | [], [] => false
  | [], _ :: _ => true
  | _ :: _, [] => false
  | x :: a, y :: b => if x < y then true else if y < x then false else before a b
def risingB : Int → List Int → Int → Bool
  | _, [], _ => true
  | lo, x :: l, hi => decide (lo ≤ x) && decide (x < hi) && risingB (x + 1) l hi
/-- The numbers of a set, below another one. -/
def members (set below : Nat) : List Int := ((List.range below).filter set.testBit).map Int.ofNat
end Go.Oc

/- Part Bt. -/
namespace Go.Proofs.Ytcjcnmpecmbdeaa
open Go.RowKit Go.Pm Go.Oc
set_option maxRecDepth 100000
set_option maxHeartbeats 1000000

theorem In_c (n lo hi : Int) : PCalls Try.prog 48 [.int .i64 n, .int .i64 lo, .int .i64 hi] (.bool (inB n lo hi)) := by
  refine pcalls_by Try.mixes noSpec_ok (fn := Try.f48) Try.func48 rfl (by kernel_rfl) (by show 3 ≤ _; decide) ?_
  simp (decide := true) (maxSteps := 4000000) only [go_sem, Nat.reduceAdd, Nat.reduceSub, Nat.reduceMul, Nat.reduceDiv, Nat.reduceMod, Nat.reduceLT, Nat.reduceLeDiff, Nat.reduceEqDiff, Nat.reduceBEq, Nat.reduceBNe, Nat.reduceGT, Int.reduceAdd, Int.reduceSub, Int.reduceMul, Int.reduceNeg, Int.reduceLT, Int.reduceLE, Int.reduceEq, Int.reduceNe, Int.reduceBEq, Int.reduceBNe, Int.reduceToNat, Int.reduceGT, Int.reduceGE, ↓reduceIte, decide_true, decide_false, Try.f48, inB, ge_iff_le]
def gIn : List TV → Option TV
  | [.int .i64 n, .int .i64 a, .int .i64 b] => some (.bool (inB n a b))
  | _ => none
theorem gIn_ok : ∀ xs r, gIn xs = some r → PCalls Try.prog 48 xs r := by
  intro xs r h
  unfold gIn at h
  split at h
  · cases h; exact In_c _ _ _
  · cases h
def spIn : Pm.Spec := noSpec.one 48 gIn
attribute [go_sem] gIn
@[go_sem] theorem spIn_p (f : FuncId) (xs : List TV) : spIn.p f xs = Pm.Spec.p (noSpec.one 48 gIn) f xs := rfl
@[go_sem] theorem spIn_h (f : FuncId) (ps : List PV) (hl : List PO) : spIn.h f ps hl = Pm.Spec.h (noSpec.one 48 gIn) f ps hl := rfl
@[go_sem] theorem spIn_fz (f : FuncId) : spIn.fz f = Pm.Spec.fz (noSpec.one 48 gIn) f := rfl
@[go_sem] theorem spIn_fr (f : FuncId) : spIn.fr f = Pm.Spec.fr (noSpec.one 48 gIn) f := rfl
@[go_sem] theorem spIn_mu (t : TypeId) : spIn.mu t = Pm.Spec.mu (noSpec.one 48 gIn) t := rfl
theorem spIn_ok : SpecOk Try.prog spIn := Spec.one_ok gIn_ok noSpec_ok

theorem Spanned_c (s : Span) (lo hi : Int) : PCalls Try.prog 51 [s.t, .int .i64 lo, .int .i64 hi] (.bool (spannedB s lo hi)) := by
  refine pcalls_by Try.mixes noSpec_ok (fn := Try.f51) Try.func51 rfl (by kernel_rfl) (by show 3 ≤ _; decide) ?_
  simp (decide := true) (maxSteps := 4000000) only [go_sem, Nat.reduceAdd, Nat.reduceSub, Nat.reduceMul, Nat.reduceDiv, Nat.reduceMod, Nat.reduceLT, Nat.reduceLeDiff, Nat.reduceEqDiff, Nat.reduceBEq, Nat.reduceBNe, Nat.reduceGT, Int.reduceAdd, Int.reduceSub, Int.reduceMul, Int.reduceNeg, Int.reduceLT, Int.reduceLE, Int.reduceEq, Int.reduceNe, Int.reduceBEq, Int.reduceBNe, Int.reduceToNat, Int.reduceGT, Int.reduceGE, ↓reduceIte, decide_true, decide_false, Try.f51, Span.t, Span.cs, spannedB]
theorem Holds_c (s : Span) (n : Int) : PCalls Try.prog 34 [s.t, .int .i64 n] (.bool (inB n s.lo s.hi)) := by
  refine pcalls_by Try.mixes spIn_ok (fn := Try.f34) Try.func34 rfl (by kernel_rfl) (by show 2 ≤ _; decide) ?_
  simp (decide := true) (maxSteps := 4000000) only [go_sem, Nat.reduceAdd, Nat.reduceSub, Nat.reduceMul, Nat.reduceDiv, Nat.reduceMod, Nat.reduceLT, Nat.reduceLeDiff, Nat.reduceEqDiff, Nat.reduceBEq, Nat.reduceBNe, Nat.reduceGT, Int.reduceAdd, Int.reduceSub, Int.reduceMul, Int.reduceNeg, Int.reduceLT, Int.reduceLE, Int.reduceEq, Int.reduceNe, Int.reduceBEq, Int.reduceBNe, Int.reduceToNat, Int.reduceGT, Int.reduceGE, ↓reduceIte, decide_true, decide_false, Try.f34, Span.t, Span.cs, spIn, gIn]
theorem Wider_c (s : Span) (n : Int) (b : Bool) : PCalls Try.prog 37 [s.t, .int .i64 n, .bool b] (widerS s n b).t := by
  refine pcalls_by Try.mixes noSpec_ok (fn := Try.f37) Try.func37 rfl (by kernel_rfl) (by show 3 ≤ _; decide) ?_
  cases b <;> simp (decide := true) (maxSteps := 4000000) only [go_sem, Nat.reduceAdd, Nat.reduceSub, Nat.reduceMul, Nat.reduceDiv, Nat.reduceMod, Nat.reduceLT, Nat.reduceLeDiff, Nat.reduceEqDiff, Nat.reduceBEq, Nat.reduceBNe, Nat.reduceGT, Int.reduceAdd, Int.reduceSub, Int.reduceMul, Int.reduceNeg, Int.reduceLT, Int.reduceLE, Int.reduceEq, Int.reduceNe, Int.reduceBEq, Int.reduceBNe, Int.reduceToNat, Int.reduceGT, Int.reduceGE, ↓reduceIte, decide_true, decide_false, Try.f37, Span.t, Span.cs, widerS]
theorem Mod_c (n by_ : Int) (h : 0 < by_) (h2 : by_ ≤ 9223372036854775807) : PCalls Try.prog 40 [.int .i64 n, .int .i64 by_] (.int .i64 (n % by_)) := by
  refine pcalls_by Try.mixes noSpec_ok (fn := Try.f40) Try.func40 rfl (by kernel_rfl) (by show 2 ≤ _; decide) ?_
  have hne : ¬ by_ = 0 := by omega
  simp (decide := true) (maxSteps := 4000000) only [go_sem, Nat.reduceAdd, Nat.reduceSub, Nat.reduceMul, Nat.reduceDiv, Nat.reduceMod, Nat.reduceLT, Nat.reduceLeDiff, Nat.reduceEqDiff, Nat.reduceBEq, Nat.reduceBNe, Nat.reduceGT, Int.reduceAdd, Int.reduceSub, Int.reduceMul, Int.reduceNeg, Int.reduceLT, Int.reduceLE, Int.reduceEq, Int.reduceNe, Int.reduceBEq, Int.reduceBNe, Int.reduceToNat, Int.reduceGT, Int.reduceGE, ↓reduceIte, decide_true, decide_false, Try.f40, hne]
  have e := Int.tmod_eq_emod (a := n) (b := by_)
  have e1 := Int.emod_nonneg n hne
  have e2 := Int.emod_lt_of_pos n h
  by_cases hn : n.tmod by_ < 0
  · simp (decide := true) (maxSteps := 4000000) only [go_sem, Nat.reduceAdd, Nat.reduceSub, Nat.reduceMul, Nat.reduceDiv, Nat.reduceMod, Nat.reduceLT, Nat.reduceLeDiff, Nat.reduceEqDiff, Nat.reduceBEq, Nat.reduceBNe, Nat.reduceGT, Int.reduceAdd, Int.reduceSub, Int.reduceMul, Int.reduceNeg, Int.reduceLT, Int.reduceLE, Int.reduceEq, Int.reduceNe, Int.reduceBEq, Int.reduceBNe, Int.reduceToNat, Int.reduceGT, Int.reduceGE, ↓reduceIte, decide_true, decide_false, hn]
    have e3 : n.tmod by_ + by_ = n % by_ := by
      rw [e] at hn ⊢
      split at hn
      · omega
      · rename_i hc
        rw [if_neg hc]
        have : (by_.natAbs : Int) = by_ := by omega
        omega
    rw [e3, wrap_in (by omega) (by omega)]
  · simp (decide := true) (maxSteps := 4000000) only [go_sem, Nat.reduceAdd, Nat.reduceSub, Nat.reduceMul, Nat.reduceDiv, Nat.reduceMod, Nat.reduceLT, Nat.reduceLeDiff, Nat.reduceEqDiff, Nat.reduceBEq, Nat.reduceBNe, Nat.reduceGT, Int.reduceAdd, Int.reduceSub, Int.reduceMul, Int.reduceNeg, Int.reduceLT, Int.reduceLE, Int.reduceEq, Int.reduceNe, Int.reduceBEq, Int.reduceBNe, Int.reduceToNat, Int.reduceGT, Int.reduceGE, ↓reduceIte, decide_true, decide_false, hn]
    rw [e] at hn ⊢
    split at hn
    · rename_i hc; rw [if_pos hc]; simp
    · rename_i hc
      have : (by_.natAbs : Int) = by_ := by omega
      omega
theorem Abs_c (n : Int) : PCalls Try.prog 35 [.int .i64 n] (.int .i64 (max n (IntKind.i64.wrap (0 - n)))) := by
  refine pcalls_by Try.mixes noSpec_ok (fn := Try.f35) Try.func35 rfl (by kernel_rfl) (by show 1 ≤ _; decide) ?_
  simp (decide := true) (maxSteps := 4000000) only [go_sem, Nat.reduceAdd, Nat.reduceSub, Nat.reduceMul, Nat.reduceDiv, Nat.reduceMod, Nat.reduceLT, Nat.reduceLeDiff, Nat.reduceEqDiff, Nat.reduceBEq, Nat.reduceBNe, Nat.reduceGT, Int.reduceAdd, Int.reduceSub, Int.reduceMul, Int.reduceNeg, Int.reduceLT, Int.reduceLE, Int.reduceEq, Int.reduceNe, Int.reduceBEq, Int.reduceBNe, Int.reduceToNat, Int.reduceGT, Int.reduceGE, ↓reduceIte, decide_true, decide_false, Try.f35]
def gSpanned : List TV → Option TV
  | [.agg [.int .i64 x, .int .i64 y], .int .i64 a, .int .i64 b] => some (.bool (spannedB ⟨x, y⟩ a b))
  | _ => none
theorem gSpanned_ok : ∀ xs r, gSpanned xs = some r → PCalls Try.prog 51 xs r := by
  intro xs r h
  unfold gSpanned at h
  split at h
  · cases h; exact Spanned_c ⟨_, _⟩ _ _
  · cases h
def gHolds : List TV → Option TV
  | [.agg [.int .i64 x, .int .i64 y], .int .i64 n] => some (.bool (inB n x y))
  | _ => none
theorem gHolds_ok : ∀ xs r, gHolds xs = some r → PCalls Try.prog 34 xs r := by
  intro xs r h
  unfold gHolds at h
  split at h
  · cases h; exact Holds_c ⟨_, _⟩ _
  · cases h
def gWider : List TV → Option TV
  | [.agg [.int .i64 x, .int .i64 y], .int .i64 n, .bool b] => some (widerS ⟨x, y⟩ n b).t
  | _ => none
theorem gWider_ok : ∀ xs r, gWider xs = some r → PCalls Try.prog 37 xs r := by
  intro xs r h
  unfold gWider at h
  split at h
  · cases h; exact Wider_c ⟨_, _⟩ _ _
  · cases h
def gMod : List TV → Option TV
  | [.int .i64 n, .int .i64 b] => if 0 < b ∧ b ≤ 9223372036854775807 then some (.int .i64 (n % b)) else none
  | _ => none
theorem gMod_ok : ∀ xs r, gMod xs = some r → PCalls Try.prog 40 xs r := by
  intro xs r h
  unfold gMod at h
  split at h
  · split at h
    · rename_i hc; cases h; exact Mod_c _ _ hc.1 hc.2
    · cases h
  · cases h
def gAbs : List TV → Option TV
  | [.int .i64 n] => some (.int .i64 (max n (IntKind.i64.wrap (0 - n))))
  | _ => none
theorem gAbs_ok : ∀ xs r, gAbs xs = some r → PCalls Try.prog 35 xs r := by
  intro xs r h
  unfold gAbs at h
  split at h
  · cases h; exact Abs_c _
  · cases h
def spB1 : Pm.Spec := ((((spIn.one 51 gSpanned).one 34 gHolds).one 37 gWider).one 40 gMod).one 35 gAbs
attribute [go_sem] gSpanned gHolds gWider gMod gAbs
@[go_sem] theorem spB1_p (f : FuncId) (xs : List TV) : spB1.p f xs = Pm.Spec.p (((((spIn.one 51 gSpanned).one 34 gHolds).one 37 gWider).one 40 gMod).one 35 gAbs) f xs := rfl
@[go_sem] theorem spB1_h (f : FuncId) (ps : List PV) (hl : List PO) : spB1.h f ps hl = Pm.Spec.h (((((spIn.one 51 gSpanned).one 34 gHolds).one 37 gWider).one 40 gMod).one 35 gAbs) f ps hl := rfl
@[go_sem] theorem spB1_fz (f : FuncId) : spB1.fz f = Pm.Spec.fz (((((spIn.one 51 gSpanned).one 34 gHolds).one 37 gWider).one 40 gMod).one 35 gAbs) f := rfl
@[go_sem] theorem spB1_fr (f : FuncId) : spB1.fr f = Pm.Spec.fr (((((spIn.one 51 gSpanned).one 34 gHolds).one 37 gWider).one 40 gMod).one 35 gAbs) f := rfl
@[go_sem] theorem spB1_mu (t : TypeId) : spB1.mu t = Pm.Spec.mu (((((spIn.one 51 gSpanned).one 34 gHolds).one 37 gWider).one 40 gMod).one 35 gAbs) t := rfl
theorem spB1_ok : SpecOk Try.prog spB1 := Spec.one_ok gAbs_ok (Spec.one_ok gMod_ok (Spec.one_ok gWider_ok (Spec.one_ok gHolds_ok (Spec.one_ok gSpanned_ok spIn_ok))))

theorem Chosen_c (lo hi n : Int) (h1 : In64 lo) (h2 : In64 hi) : PCalls Try.prog 42 [.int .i64 lo, .int .i64 hi, .int .i64 n] (.int .i64 (chosen lo hi n)) := by
  refine pcalls_by Try.mixes spB1_ok (fn := Try.f42) Try.func42 rfl (by kernel_rfl) (by show 3 ≤ _; decide) ?_
  obtain ⟨a1, a2⟩ := h1
  obtain ⟨b1, b2⟩ := h2
  unfold chosen
  by_cases hge : lo ≥ hi
  · simp (decide := true) (maxSteps := 4000000) only [go_sem, Nat.reduceAdd, Nat.reduceSub, Nat.reduceMul, Nat.reduceDiv, Nat.reduceMod, Nat.reduceLT, Nat.reduceLeDiff, Nat.reduceEqDiff, Nat.reduceBEq, Nat.reduceBNe, Nat.reduceGT, Int.reduceAdd, Int.reduceSub, Int.reduceMul, Int.reduceNeg, Int.reduceLT, Int.reduceLE, Int.reduceEq, Int.reduceNe, Int.reduceBEq, Int.reduceBNe, Int.reduceToNat, Int.reduceGT, Int.reduceGE, ↓reduceIte, decide_true, decide_false, Try.f42, hge]
  · by_cases hbig : 9223372036854775807 < hi - lo + 1
    · have e : IntKind.i64.wrap (IntKind.i64.wrap (hi - lo) + 1) < 1 := by simp only [IntKind.wrap_i64]; omega
      simp (decide := true) (maxSteps := 4000000) only [go_sem, Nat.reduceAdd, Nat.reduceSub, Nat.reduceMul, Nat.reduceDiv, Nat.reduceMod, Nat.reduceLT, Nat.reduceLeDiff, Nat.reduceEqDiff, Nat.reduceBEq, Nat.reduceBNe, Nat.reduceGT, Int.reduceAdd, Int.reduceSub, Int.reduceMul, Int.reduceNeg, Int.reduceLT, Int.reduceLE, Int.reduceEq, Int.reduceNe, Int.reduceBEq, Int.reduceBNe, Int.reduceToNat, Int.reduceGT, Int.reduceGE, ↓reduceIte, decide_true, decide_false, Try.f42, hge, e, hbig]
    · have e : IntKind.i64.wrap (IntKind.i64.wrap (hi - lo) + 1) = hi - lo + 1 := by rw [wrap_in (n := hi - lo) (by omega) (by omega), wrap_in (by omega) (by omega)]
      have e2 : ¬ hi - lo + 1 < 1 := by omega
      have e3 : 0 < hi - lo + 1 ∧ hi - lo + 1 ≤ 9223372036854775807 := by omega
      have m1 := Int.emod_nonneg n (show hi - lo + 1 ≠ 0 by omega)
      have m2 := Int.emod_lt_of_pos n (show 0 < hi - lo + 1 by omega)
      simp (decide := true) (maxSteps := 4000000) only [go_sem, Nat.reduceAdd, Nat.reduceSub, Nat.reduceMul, Nat.reduceDiv, Nat.reduceMod, Nat.reduceLT, Nat.reduceLeDiff, Nat.reduceEqDiff, Nat.reduceBEq, Nat.reduceBNe, Nat.reduceGT, Int.reduceAdd, Int.reduceSub, Int.reduceMul, Int.reduceNeg, Int.reduceLT, Int.reduceLE, Int.reduceEq, Int.reduceNe, Int.reduceBEq, Int.reduceBNe, Int.reduceToNat, Int.reduceGT, Int.reduceGE, ↓reduceIte, decide_true, decide_false, Try.f42, hge, hbig, e, e2, spB1, spIn, gMod, if_pos e3]
      rw [wrap_in (by omega) (by omega)]
def gChosen : List TV → Option TV
  | [.int .i64 a, .int .i64 b, .int .i64 n] => if (-9223372036854775808 ≤ a ∧ a ≤ 9223372036854775807) ∧ -9223372036854775808 ≤ b ∧ b ≤ 9223372036854775807 then some (.int .i64 (chosen a b n)) else none
  | _ => none
theorem gChosen_ok : ∀ xs r, gChosen xs = some r → PCalls Try.prog 42 xs r := by
  intro xs r h
  unfold gChosen at h
  split at h
  · split at h
    · rename_i hc; cases h; exact Chosen_c _ _ _ hc.1 hc.2
    · cases h
  · cases h
theorem Bit_c (s k : Nat) (hk : k < 64) : PCalls Try.prog 73 [.int .i64 s, .int .i64 k] (.bool (s.testBit k)) := by
  refine pcalls_by Try.mixes noSpec_ok (fn := Try.f73) Try.func73 rfl (by kernel_rfl) (by show 2 ≤ _; decide) ?_
  have hk0 : ¬ (k : Int) < 0 := by omega
  have e : (Int.fdiv (s : Int) (2 ^ (min k 64))) = ((s / 2 ^ k : Nat) : Int) := by
    rw [Nat.min_eq_left (by omega), Int.fdiv_eq_ediv_of_nonneg _ (Int.pow_nonneg (by omega))]
    simp
  have e2 : Int.tmod ((s / 2 ^ k : Nat) : Int) 2 = ((s / 2 ^ k % 2 : Nat) : Int) := by
    rw [Int.tmod_eq_emod_of_nonneg (Int.natCast_nonneg _)]; simp
  simp (decide := true) (maxSteps := 4000000) only [go_sem, Nat.reduceAdd, Nat.reduceSub, Nat.reduceMul, Nat.reduceDiv, Nat.reduceMod, Nat.reduceLT, Nat.reduceLeDiff, Nat.reduceEqDiff, Nat.reduceBEq, Nat.reduceBNe, Nat.reduceGT, Int.reduceAdd, Int.reduceSub, Int.reduceMul, Int.reduceNeg, Int.reduceLT, Int.reduceLE, Int.reduceEq, Int.reduceNe, Int.reduceBEq, Int.reduceBNe, Int.reduceToNat, Int.reduceGT, Int.reduceGE, ↓reduceIte, decide_true, decide_false, Try.f73, hk0, e, IntKind.bits]
  rw [e2, Nat.testBit_eq_decide_div_mod_eq]
  congr 1
  rw [Bool.eq_iff_iff, beq_iff_eq, decide_eq_true_eq]
  omega
def gBit : List TV → Option TV
  | [.int .i64 s, .int .i64 k] => if 0 ≤ s ∧ 0 ≤ k ∧ k < 64 then some (.bool (s.toNat.testBit k.toNat)) else none
  | _ => none
theorem gBit_ok : ∀ xs r, gBit xs = some r → PCalls Try.prog 73 xs r := by
  intro xs r h
  unfold gBit at h
  split at h
  · rename_i s k
    split at h
    · rename_i hc; cases h
      have := Bit_c s.toNat k.toNat (by omega)
      rwa [Int.toNat_of_nonneg hc.1, Int.toNat_of_nonneg hc.2.1] at this
    · cases h
  · cases h
def spB3 : Pm.Spec := (spB1.one 42 gChosen).one 73 gBit
attribute [go_sem] gChosen gBit
@[go_sem] theorem spB3_p (f : FuncId) (xs : List TV) : spB3.p f xs = Pm.Spec.p ((spB1.one 42 gChosen).one 73 gBit) f xs := rfl
@[go_sem] theorem spB3_h (f : FuncId) (ps : List PV) (hl : List PO) : spB3.h f ps hl = Pm.Spec.h ((spB1.one 42 gChosen).one 73 gBit) f ps hl := rfl
@[go_sem] theorem spB3_fz (f : FuncId) : spB3.fz f = Pm.Spec.fz ((spB1.one 42 gChosen).one 73 gBit) f := rfl
@[go_sem] theorem spB3_fr (f : FuncId) : spB3.fr f = Pm.Spec.fr ((spB1.one 42 gChosen).one 73 gBit) f := rfl
@[go_sem] theorem spB3_mu (t : TypeId) : spB3.mu t = Pm.Spec.mu ((spB1.one 42 gChosen).one 73 gBit) t := rfl
theorem spB3_ok : SpecOk Try.prog spB3 := Spec.one_ok gBit_ok (Spec.one_ok gChosen_ok spB1_ok)

theorem Same_c (a b : List Int) (fa fb : Bool) (ha : a.length ≤ 9223372036854775806) : PCalls Try.prog 46 [.sl (ints a) a.length fa, .sl (ints b) b.length fb] (.bool (decide (a = b))) := by
  refine pcalls_by Try.mixes noSpec_ok (fn := Try.f46) Try.func46 rfl (by kernel_rfl) (by show 2 ≤ _; decide) ?_
  by_cases hl : a.length = b.length
  · have hl' : (a.length : Int) = b.length := by omega
    simp (decide := true) (maxSteps := 4000000) only [go_sem, Nat.reduceAdd, Nat.reduceSub, Nat.reduceMul, Nat.reduceDiv, Nat.reduceMod, Nat.reduceLT, Nat.reduceLeDiff, Nat.reduceEqDiff, Nat.reduceBEq, Nat.reduceBNe, Nat.reduceGT, Int.reduceAdd, Int.reduceSub, Int.reduceMul, Int.reduceNeg, Int.reduceLT, Int.reduceLE, Int.reduceEq, Int.reduceNe, Int.reduceBEq, Int.reduceBNe, Int.reduceToNat, Int.reduceGT, Int.reduceGE, ↓reduceIte, decide_true, decide_false, Try.f46, hl', bne_self_eq_false]
    refine pwpC_loop (A := { k : Nat // a.take k = b.take k ∧ k ≤ a.length }) (fun k => { env := [(5, .t (.int .i64 k.1)), (0, .t (.sl (ints a) a.length fa)), (1, .t (.sl (ints b) b.length fb))], heap := [] }) (fun k => a.length - k.1) ⟨0, by simp⟩ ?_ (fun _ => by rfl) fun ⟨k, hk, hka⟩ => ?_
    · simp (decide := true) (maxSteps := 4000000) only [go_sem, Nat.reduceAdd, Nat.reduceSub, Nat.reduceMul, Nat.reduceDiv, Nat.reduceMod, Nat.reduceLT, Nat.reduceLeDiff, Nat.reduceEqDiff, Nat.reduceBEq, Nat.reduceBNe, Nat.reduceGT, Int.reduceAdd, Int.reduceSub, Int.reduceMul, Int.reduceNeg, Int.reduceLT, Int.reduceLE, Int.reduceEq, Int.reduceNe, Int.reduceBEq, Int.reduceBNe, Int.reduceToNat, Int.reduceGT, Int.reduceGE, ↓reduceIte, decide_true, decide_false]
    · by_cases hlt : (k : Int) < a.length
      · have hltb : (k : Int) < b.length := by omega
        obtain ⟨x, hx⟩ := get_lt hlt
        obtain ⟨y, hy⟩ := get_lt hltb
        by_cases hxy : x = y
        · subst hxy
          simp (decide := true) (maxSteps := 4000000) only [go_sem, Nat.reduceAdd, Nat.reduceSub, Nat.reduceMul, Nat.reduceDiv, Nat.reduceMod, Nat.reduceLT, Nat.reduceLeDiff, Nat.reduceEqDiff, Nat.reduceBEq, Nat.reduceBNe, Nat.reduceGT, Int.reduceAdd, Int.reduceSub, Int.reduceMul, Int.reduceNeg, Int.reduceLT, Int.reduceLE, Int.reduceEq, Int.reduceNe, Int.reduceBEq, Int.reduceBNe, Int.reduceToNat, Int.reduceGT, Int.reduceGE, ↓reduceIte, decide_true, decide_false, hlt, hltb, ints_at hx, ints_at hy, hl', bne_self_eq_false]
          refine ⟨⟨k + 1, by rw [take_snoc hx, take_snoc hy, hk], by omega⟩, by rw [wrap_in (by omega) (by omega)]; simp, by simp only; omega⟩
        · have hxy' : (x != y) = true := by simpa using hxy
          simp (decide := true) (maxSteps := 4000000) only [go_sem, Nat.reduceAdd, Nat.reduceSub, Nat.reduceMul, Nat.reduceDiv, Nat.reduceMod, Nat.reduceLT, Nat.reduceLeDiff, Nat.reduceEqDiff, Nat.reduceBEq, Nat.reduceBNe, Nat.reduceGT, Int.reduceAdd, Int.reduceSub, Int.reduceMul, Int.reduceNeg, Int.reduceLT, Int.reduceLE, Int.reduceEq, Int.reduceNe, Int.reduceBEq, Int.reduceBNe, Int.reduceToNat, Int.reduceGT, Int.reduceGE, ↓reduceIte, decide_true, decide_false, hlt, hltb, ints_at hx, ints_at hy, hl', hxy']
          symm
          rw [decide_eq_false_iff_not]
          rintro rfl
          rw [hx] at hy; cases hy; exact hxy rfl
      · have hltb : ¬ (k : Int) < b.length := by omega
        simp (decide := true) (maxSteps := 4000000) only [go_sem, Nat.reduceAdd, Nat.reduceSub, Nat.reduceMul, Nat.reduceDiv, Nat.reduceMod, Nat.reduceLT, Nat.reduceLeDiff, Nat.reduceEqDiff, Nat.reduceBEq, Nat.reduceBNe, Nat.reduceGT, Int.reduceAdd, Int.reduceSub, Int.reduceMul, Int.reduceNeg, Int.reduceLT, Int.reduceLE, Int.reduceEq, Int.reduceNe, Int.reduceBEq, Int.reduceBNe, Int.reduceToNat, Int.reduceGT, Int.reduceGE, ↓reduceIte, decide_true, decide_false, hlt, hltb, hl']
        symm
        rw [decide_eq_true_eq]
        rwa [List.take_of_length_le (by omega), List.take_of_length_le (by omega)] at hk
  · have hl' : ((a.length : Int) != b.length) = true := by simp; omega
    simp (decide := true) (maxSteps := 4000000) only [go_sem, Nat.reduceAdd, Nat.reduceSub, Nat.reduceMul, Nat.reduceDiv, Nat.reduceMod, Nat.reduceLT, Nat.reduceLeDiff, Nat.reduceEqDiff, Nat.reduceBEq, Nat.reduceBNe, Nat.reduceGT, Int.reduceAdd, Int.reduceSub, Int.reduceMul, Int.reduceNeg, Int.reduceLT, Int.reduceLE, Int.reduceEq, Int.reduceNe, Int.reduceBEq, Int.reduceBNe, Int.reduceToNat, Int.reduceGT, Int.reduceGE, ↓reduceIte, decide_true, decide_false, Try.f46, hl']
    symm
    rw [decide_eq_false_iff_not]
    rintro rfl; exact hl rfl
end Go.Proofs.Ytcjcnmpecmbdeaa

/- Part Gp. -/
namespace Go.Oc
open Go Go.Pm

structure Blank where
  i : Span
  c : Span
  pr : Int
  deriving DecidableEq
def Blank.cs (b : Blank) : List TV := [.int .i64 b.i.lo, .int .i64 b.i.hi, .int .i64 b.c.lo, .int .i64 b.c.hi, .int .i64 b.pr]
def unBlanks : List TV → Option (List Blank)
  | [] => some []
  | .int .i64 a :: .int .i64 b :: .int .i64 c :: .int .i64 d :: .int .i64 e :: r => (unBlanks r).map (⟨⟨a, b⟩, ⟨c, d⟩, e⟩ :: ·)
  | _ => none
theorem unBlanks_eq : ∀ l : List Blank, unBlanks (l.flatMap Blank.cs) = some l
  | [] => rfl
  | x :: l => by simp [Blank.cs, unBlanks, unBlanks_eq l]
theorem unBlanks_some : ∀ {cs : List TV} {l : List Blank}, unBlanks cs = some l → cs = l.flatMap Blank.cs := by
  intro cs
  induction cs using unBlanks.induct with
  | case1 => intro l h; simp [unBlanks] at h; subst h; rfl
  | case2 a b c d e r ih =>
    intro l h
    simp only [unBlanks, Option.map_eq_some_iff] at h
    obtain ⟨l', h1, rfl⟩ := h
    rw [ih h1]; rfl
  | case3 r h1 h2 =>
    intro l h
    unfold unBlanks at h
    split at h
    · exact absurd rfl h1
    · exact absurd rfl (h2 _ _ _ _ _ _)
    · cases h
def unSpans : List TV → Option (List Span)
  | [] => some []
  | .int .i64 a :: .int .i64 b :: r => (unSpans r).map (⟨a, b⟩ :: ·)
  | _ => none
theorem unSpans_eq : ∀ l : List Span, unSpans (l.flatMap Span.cs) = some l
  | [] => rfl
  | x :: l => by simp [Span.cs, unSpans, unSpans_eq l]
theorem unSpans_some : ∀ {cs : List TV} {l : List Span}, unSpans cs = some l → cs = l.flatMap Span.cs := by
  intro cs
  induction cs using unSpans.induct with
  | case1 => intro l h; simp [unSpans] at h; subst h; rfl
  | case2 a b r ih =>
    intro l h
    simp only [unSpans, Option.map_eq_some_iff] at h
    obtain ⟨l', h1, rfl⟩ := h
    rw [ih h1]; rfl
  | case3 r h1 h2 =>
    intro l h
    unfold unSpans at h
    split at h
    · exact absurd rfl h1
    · exact absurd rfl (h2 _ _ _)
    · cases h
attribute [go_sem] unBlanks_eq unSpans_eq
/-- A row of numbers, read. -/
def ic (n : Int) : List TV := [.int .i64 n]
theorem ic_ints (l : List Int) : l.flatMap ic = ints l := by
  induction l with
  | nil => rfl
  | cons x l ih => simp only [List.flatMap_cons, ih]; rfl
def unI : List TV → Option (List Int)
  | [] => some []
  | .int .i64 a :: r => (unI r).map (a :: ·)
  | _ => none
theorem unI_eq : ∀ l : List Int, unI (ints l) = some l
  | [] => rfl
  | x :: l => by
    show (unI (ints l)).map (x :: ·) = some (x :: l)
    rw [unI_eq l]; rfl
theorem unI_some : ∀ {cs : List TV} {l : List Int}, unI cs = some l → cs = l.flatMap ic := by
  intro cs
  induction cs using unI.induct with
  | case1 => intro l h; simp [unI] at h; subst h; rfl
  | case2 a r ih =>
    intro l h
    simp only [unI, Option.map_eq_some_iff] at h
    obtain ⟨l', h1, rfl⟩ := h
    rw [ih h1]; rfl
  | case3 r h1 h2 =>
    intro l h
    unfold unI at h
    split at h
    · exact absurd rfl h1
    · exact absurd rfl (h2 _ _)
    · cases h
attribute [go_sem] unI_eq

/-- An objective. -/
structure Ob where
  f : Int
  s : Int
  a : Int
  b : Int
  c : Int
  deriving DecidableEq
def Ob.cs (o : Ob) : List TV := [.int .i64 o.f, .int .i64 o.s, .int .i64 o.a, .int .i64 o.b, .int .i64 o.c]
def Ob.t (o : Ob) : TV := .agg o.cs
/-- A wish. -/
structure Want where
  p : Span
  c : Int
  deriving DecidableEq
def Want.t (w : Want) : TV := .agg [.int .i64 w.p.lo, .int .i64 w.p.hi, .int .i64 w.c]

def blankOk (b : Blank) : Bool := spannedB b.i 1 100000 && spannedB b.c 1 5000 && inB b.pr 0 1000000
def toolOk (t : Span) : Bool := spannedB t (-1000) 1000
def stockOk (B : List Blank) (T : List Span) : Bool := (inB B.length 2 8 && inB T.length 1 6) && B.all blankOk && T.all toolOk
def wantOk (w : Want) : Bool := spannedB w.p (-400000000) 400000000 && inB w.c 0 400000000
/-- Is something an objective of so many blanks and tools? -/
def obOk (n m : Int) (o : Ob) : Bool := inB o.f 0 (n - 1) && inB o.s 0 (n - 1) && (o.f != o.s) && inB o.a 0 (m - 1) && inB o.b 0 (m - 1) && inB o.c 0 (m - 1)
/-- The error of a stock, a wish and an objective. -/
def askedG (B : List Blank) (T : List Span) (w : Want) (o : Ob) : Int := if stockOk B T = false then 40 else if wantOk w = false then 43 else if obOk B.length T.length o = false then 41 else 0

/-- A number of a row. -/
def nth (l : List Int) (i : Int) : Int := l.getD i.toNat 0
/-- What both lenses do: of two numbers, with three curvatures. -/
def pw (n1 n2 f m b : Int) : Int := n1 * (f - m) + n2 * (m - b)
/-- An end of a span. -/
def endS (s : Span) (h : Bool) : Int := if h then s.hi else s.lo
theorem endS_mem {s : Span} (h : s.lo ≤ s.hi) (b : Bool) : s.lo ≤ endS s b ∧ endS s b ≤ s.hi := by
  unfold endS; cases b <;> simp <;> omega
/-- The bit of the second tool, and of the third one. -/
def bit1 (o : Ob) : Nat := if o.a = o.b then 0 else 1
def bit2 (o : Ob) : Nat := if o.a = o.c then 0 else if o.b = o.c then 1 else 2
/-- In a corner: what both lenses do. -/
def cornV (s1 s2 t1 t2 t3 : Span) (o : Ob) (k : Nat) : Int := pw (endS s1 (k.testBit 3)) (endS s2 (k.testBit 4)) (endS t1 (k.testBit 0)) (endS t2 (k.testBit (bit1 o))) (endS t3 (k.testBit (bit2 o)))
/-- The least and the greatest of some numbers. -/
def minmax : List Int → Span
  | [] => ⟨0, 0⟩
  | x :: l => ⟨l.foldl min x, l.foldl max x⟩
def corners (s1 s2 t1 t2 t3 : Span) (o : Ob) (k : Nat) : List Int := (List.range k).map (cornV s1 s2 t1 t2 t3 o)
/-- Between what power and colour lie. -/
structure Sn where
  p : Span
  c : Span
  deriving DecidableEq
def Sn.t (x : Sn) : TV := .agg [.int .i64 x.p.lo, .int .i64 x.p.hi, .int .i64 x.c.lo, .int .i64 x.c.hi]
def blankAt (B : List Blank) (i : Int) : Blank := B.getD i.toNat ⟨⟨0, 0⟩, ⟨0, 0⟩, 0⟩
def toolAt (T : List Span) (i : Int) : Span := T.getD i.toNat ⟨0, 0⟩
/-- Are true numbers within spans? -/
def tOkB (B : List Blank) (ix co : List Int) (k : Nat) : Bool := (List.range k).all fun (i : Nat) => inB (nth ix i) (blankAt B i).i.lo (blankAt B i).i.hi && inB (nth co i) (blankAt B i).c.lo (blankAt B i).c.hi
def tOkT (T : List Span) (cu : List Int) (k : Nat) : Bool := (List.range k).all fun (i : Nat) => inB (nth cu i) (toolAt T i).lo (toolAt T i).hi
theorem tOkB_succ (B : List Blank) (ix co : List Int) (k : Nat) : tOkB B ix co (k + 1) = (tOkB B ix co k && (inB (nth ix k) (blankAt B k).i.lo (blankAt B k).i.hi && inB (nth co k) (blankAt B k).c.lo (blankAt B k).c.hi)) := by
  unfold tOkB; rw [List.range_succ, List.all_append]; simp
theorem tOkT_succ (T : List Span) (cu : List Int) (k : Nat) : tOkT T cu (k + 1) = (tOkT T cu k && inB (nth cu k) (toolAt T k).lo (toolAt T k).hi) := by
  unfold tOkT; rw [List.range_succ, List.all_append]; simp
theorem tOkB_at {B : List Blank} {ix co : List Int} {k i : Nat} (h : tOkB B ix co k = true) (hi : i < k) : (((blankAt B i).i.lo ≤ nth ix i ∧ nth ix i ≤ (blankAt B i).i.hi)) ∧ (blankAt B i).c.lo ≤ nth co i ∧ nth co i ≤ (blankAt B i).c.hi := by
  unfold tOkB at h
  have := List.all_eq_true.1 h i (List.mem_range.2 hi)
  simp only [Bool.and_eq_true, inB_iff] at this
  exact this
theorem tOkT_at {T : List Span} {cu : List Int} {k i : Nat} (h : tOkT T cu k = true) (hi : i < k) : (toolAt T i).lo ≤ nth cu i ∧ nth cu i ≤ (toolAt T i).hi := by
  unfold tOkT at h
  have := List.all_eq_true.1 h i (List.mem_range.2 hi)
  exact inB_iff.1 this
theorem tOkB_no {B : List Blank} {ix co : List Int} {k n : Nat} (h : tOkB B ix co k = false) (hk : k ≤ n) : tOkB B ix co n = false := by
  rw [← Bool.not_eq_true] at h ⊢
  intro h'
  apply h
  unfold tOkB at h' ⊢
  rw [List.all_eq_true] at h' ⊢
  exact fun i hi => h' i (List.mem_range.2 (by have := List.mem_range.1 hi; omega))
theorem tOkT_no {T : List Span} {cu : List Int} {k n : Nat} (h : tOkT T cu k = false) (hk : k ≤ n) : tOkT T cu n = false := by
  rw [← Bool.not_eq_true] at h ⊢
  intro h'
  apply h
  unfold tOkT at h' ⊢
  rw [List.all_eq_true] at h' ⊢
  exact fun i hi => h' i (List.mem_range.2 (by have := List.mem_range.1 hi; omega))
def truthOk (B : List Blank) (T : List Span) (ix co cu : List Int) : Bool := ((ix.length == B.length) && (co.length == B.length) && (cu.length == T.length)) && (tOkB B ix co B.length && tOkT T cu T.length)
theorem nth_eq {l : List Int} {i : Nat} {x : Int} (h : l[i]? = some x) : nth l (i : Int) = x := by
  unfold nth
  rw [Int.toNat_natCast, List.getD_eq_getElem?_getD, h]; rfl
/-- The power and the colour of an objective in a truth, and the error. -/
def seenP (B : List Blank) (T : List Span) (o : Ob) (ix co cu : List Int) : Int × Int × Int :=
  if stockOk B T = false then (0, 0, 40) else if obOk B.length T.length o = false then (0, 0, 41) else if truthOk B T ix co cu = false then (0, 0, 42)
  else (pw (nth ix o.f) (nth ix o.s) (nth cu o.a) (nth cu o.b) (nth cu o.c), pw (nth co o.f) (nth co o.s) (nth cu o.a) (nth cu o.b) (nth cu o.c), 0)

def spansP (B : List Blank) (T : List Span) (o : Ob) : Sn :=
  ⟨minmax (corners (blankAt B o.f).i (blankAt B o.s).i (toolAt T o.a) (toolAt T o.b) (toolAt T o.c) o 32), minmax (corners (blankAt B o.f).c (blankAt B o.s).c (toolAt T o.a) (toolAt T o.b) (toolAt T o.c) o 32)⟩
def spansE (B : List Blank) (T : List Span) (o : Ob) : Sn × Int :=
  if stockOk B T = false then (⟨⟨0, 0⟩, ⟨0, 0⟩⟩, 40) else if obOk B.length T.length o = false then (⟨⟨0, 0⟩, ⟨0, 0⟩⟩, 41) else (spansP B T o, 0)
def worstS (c : Span) : Int := max c.hi (-c.lo)
def goodB (x : Sn) (w : Want) : Bool := decide (x.p.lo ≥ w.p.lo) && decide (x.p.hi ≤ w.p.hi) && decide (worstS x.c ≤ w.c)
def goodE (B : List Blank) (T : List Span) (w : Want) (o : Ob) : Bool × Int := if askedG B T w o = 0 then (goodB (spansP B T o) w, 0) else (false, askedG B T w o)

/-- All objectives of two blanks, and all. -/
def obs2 (m : Nat) (i j : Nat) : List Ob := (List.range (m * m * m)).map fun n => ⟨i, j, ((n / m / m : Nat) : Int), ((n / m % m : Nat) : Int), ((n % m : Nat) : Int)⟩
def obs1 (n m i : Nat) : List Ob := (List.range n).flatMap fun j => if i = j then [] else obs2 m i j
def obsA (n m : Nat) : List Ob := (List.range n).flatMap (obs1 n m)
/-- What the search has found: the objective, its worst colour, its price, and whether there is one. -/
structure Bst where
  o : Ob
  n : Int
  p : Int
  is : Bool
  deriving DecidableEq
def bst0 : Bst := ⟨⟨0, 0, 0, 0, 0⟩, 0, 0, false⟩
def priceO (B : List Blank) (o : Ob) : Int := (blankAt B o.f).pr + (blankAt B o.s).pr
def bstStep (B : List Blank) (T : List Span) (w : Want) (x : Bst) (o : Ob) : Bst :=
  if goodB (spansP B T o) w then
    if x.is = false ∨ worstS (spansP B T o).c < x.n ∨ worstS (spansP B T o).c = x.n ∧ priceO B o < x.p then ⟨o, worstS (spansP B T o).c, priceO B o, true⟩ else x
  else x
def bstTo (B : List Blank) (T : List Span) (w : Want) (k : Nat) : Bst := ((obsA B.length T.length).take k).foldl (bstStep B T w) bst0
def bestP (B : List Blank) (T : List Span) (w : Want) : Ob × Int × Int :=
  if stockOk B T = false then (bst0.o, 0, 40) else if wantOk w = false then (bst0.o, 0, 43) else
  let x := (obsA B.length T.length).foldl (bstStep B T w) bst0
  if x.is then (x.o, x.n, 0) else (bst0.o, 0, 4)
end Go.Oc
namespace Go.Oc
open Go Go.Pm
/-- What a check has come to. -/
def accB (B : List Blank) (T : List Span) (k : Nat) : Bool := (inB B.length 2 8 && inB T.length 1 6) && (B.take k).all blankOk
def accT (B : List Blank) (T : List Span) (k : Nat) : Bool := accB B T B.length && (T.take k).all toolOk
theorem accB_succ {B : List Blank} (T : List Span) {k : Nat} {x : Blank} (h : B[k]? = some x) : accB B T (k + 1) = (accB B T k && blankOk x) := by
  unfold accB; rw [take_all _ h, ← Bool.and_assoc]
theorem accT_succ (B : List Blank) {T : List Span} {k : Nat} {x : Span} (h : T[k]? = some x) : accT B T (k + 1) = (accT B T k && toolOk x) := by
  unfold accT; rw [take_all _ h, ← Bool.and_assoc]
theorem accB_zero (B : List Blank) (T : List Span) : accB B T 0 = (inB B.length 2 8 && inB T.length 1 6) := by simp [accB]
theorem accT_zero (B : List Blank) (T : List Span) : accT B T 0 = accB B T B.length := by simp [accT]
theorem accT_all (B : List Blank) (T : List Span) : accT B T T.length = stockOk B T := by
  unfold accT accB stockOk
  rw [List.take_length, List.take_length]
theorem accB_false {B : List Blank} {T : List Span} {k : Nat} (h : accB B T k = false) : stockOk B T = false := by
  unfold accB at h
  unfold stockOk
  rw [Bool.and_eq_false_iff] at h
  rcases h with h | h
  · rw [h]; rfl
  · rw [all_of_take h, Bool.and_false, Bool.false_and]
theorem accT_false {B : List Blank} {T : List Span} {k : Nat} (h : accT B T k = false) : stockOk B T = false := by
  unfold accT at h
  rw [Bool.and_eq_false_iff] at h
  rcases h with h | h
  · exact accB_false h
  · unfold stockOk; rw [all_of_take h, Bool.and_false]
theorem stockOk_iff {B : List Blank} {T : List Span} : stockOk B T = true ↔ (2 ≤ B.length ∧ B.length ≤ 8) ∧ (1 ≤ T.length ∧ T.length ≤ 6) ∧
    (∀ b ∈ B, (1 ≤ b.i.lo ∧ b.i.lo ≤ b.i.hi ∧ b.i.hi ≤ 100000) ∧ (1 ≤ b.c.lo ∧ b.c.lo ≤ b.c.hi ∧ b.c.hi ≤ 5000) ∧ 0 ≤ b.pr ∧ b.pr ≤ 1000000) ∧ ∀ t ∈ T, -1000 ≤ t.lo ∧ t.lo ≤ t.hi ∧ t.hi ≤ 1000 := by
  simp only [stockOk, inB, blankOk, toolOk, spannedB, Bool.and_eq_true, decide_eq_true_eq, List.all_eq_true]
  constructor
  · rintro ⟨⟨⟨⟨a, b⟩, c, d⟩, e⟩, f⟩
    refine ⟨by omega, by omega, fun x hx => ?_, fun x hx => ?_⟩
    · have := e x hx; omega
    · have := f x hx; omega
  · rintro ⟨a, b, c, d⟩
    refine ⟨⟨⟨by omega, by omega⟩, fun x hx => ?_⟩, fun x hx => ?_⟩
    · have := c x hx; omega
    · have := d x hx; omega
end Go.Oc

/- Part Gu. -/
namespace Go.Proofs.Ytcjcnmpecmbdeaa
open Go.RowKit Go.Pm Go.Oc
set_option maxRecDepth 100000
set_option linter.unusedVariables false
set_option maxHeartbeats 4000000

theorem gWithin_c (n lo hi : Int) : PCalls Try.prog 60 [.int .i64 n, .int .i64 lo, .int .i64 hi] (.bool (inB n lo hi)) := by
  refine pcalls_by Try.mixes noSpec_ok (fn := Try.f60) Try.func60 rfl (by kernel_rfl) (by show 3 ≤ _; decide) ?_
  simp (decide := true) (maxSteps := 4000000) only [go_sem, Nat.reduceAdd, Nat.reduceSub, Nat.reduceMul, Nat.reduceDiv, Nat.reduceMod, Nat.reduceLT, Nat.reduceLeDiff, Nat.reduceEqDiff, Nat.reduceBEq, Nat.reduceBNe, Nat.reduceGT, Int.reduceAdd, Int.reduceSub, Int.reduceMul, Int.reduceNeg, Int.reduceLT, Int.reduceLE, Int.reduceEq, Int.reduceNe, Int.reduceBEq, Int.reduceBNe, Int.reduceToNat, Int.reduceGT, Int.reduceGE, ↓reduceIte, decide_true, decide_false, eq_self, Nat.mul_one, Nat.zero_mul, Nat.one_mul, Int.le_refl, Nat.le_refl, Int.cast_ofNat_Int, Try.f60, inB]
noncomputable def glWithin : List TV → Option TV
  | [.int .i64 n, .int .i64 a, .int .i64 b] => some (.bool (inB n a b))
  | _ => none
theorem glWithin_ok : ∀ xs r, glWithin xs = some r → PCalls Try.prog 60 xs r := by
  intro xs r h
  unfold glWithin at h
  split at h
  · cases h; exact gWithin_c _ _ _
  · cases h
attribute [go_sem] glWithin
noncomputable def spU1 : Pm.Spec := noSpec.one 60 glWithin
@[go_sem] theorem spU1_p (f : FuncId) (xs : List TV) : spU1.p f xs = Pm.Spec.p (noSpec.one 60 glWithin) f xs := rfl
@[go_sem] theorem spU1_h (f : FuncId) (ps : List PV) (hl : List PO) : spU1.h f ps hl = Pm.Spec.h (noSpec.one 60 glWithin) f ps hl := rfl
@[go_sem] theorem spU1_fz (f : FuncId) : spU1.fz f = Pm.Spec.fz (noSpec.one 60 glWithin) f := rfl
@[go_sem] theorem spU1_fr (f : FuncId) : spU1.fr f = Pm.Spec.fr (noSpec.one 60 glWithin) f := rfl
@[go_sem] theorem spU1_mu (t : TypeId) : spU1.mu t = Pm.Spec.mu (noSpec.one 60 glWithin) t := rfl
theorem spU1_ok : SpecOk Try.prog spU1 := Spec.one_ok glWithin_ok noSpec_ok
theorem gValid_c (s : Span) (lo hi : Int) : PCalls Try.prog 61 [s.t, .int .i64 lo, .int .i64 hi] (.bool (spannedB s lo hi)) := by
  refine pcalls_by Try.mixes spU1_ok (fn := Try.f61) Try.func61 rfl (by kernel_rfl) (by show 3 ≤ _; decide) ?_
  simp (decide := true) (maxSteps := 4000000) only [go_sem, Nat.reduceAdd, Nat.reduceSub, Nat.reduceMul, Nat.reduceDiv, Nat.reduceMod, Nat.reduceLT, Nat.reduceLeDiff, Nat.reduceEqDiff, Nat.reduceBEq, Nat.reduceBNe, Nat.reduceGT, Int.reduceAdd, Int.reduceSub, Int.reduceMul, Int.reduceNeg, Int.reduceLT, Int.reduceLE, Int.reduceEq, Int.reduceNe, Int.reduceBEq, Int.reduceBNe, Int.reduceToNat, Int.reduceGT, Int.reduceGE, ↓reduceIte, decide_true, decide_false, eq_self, Nat.mul_one, Nat.zero_mul, Nat.one_mul, Int.le_refl, Nat.le_refl, Int.cast_ofNat_Int, Try.f61, Span.t, Span.cs, spannedB]
theorem gHoldsM_c (s : Span) (n : Int) : PCalls Try.prog 56 [s.t, .int .i64 n] (.bool (inB n s.lo s.hi)) := by
  refine pcalls_by Try.mixes spU1_ok (fn := Try.f56) Try.func56 rfl (by kernel_rfl) (by show 2 ≤ _; decide) ?_
  simp (decide := true) (maxSteps := 4000000) only [go_sem, Nat.reduceAdd, Nat.reduceSub, Nat.reduceMul, Nat.reduceDiv, Nat.reduceMod, Nat.reduceLT, Nat.reduceLeDiff, Nat.reduceEqDiff, Nat.reduceBEq, Nat.reduceBNe, Nat.reduceGT, Int.reduceAdd, Int.reduceSub, Int.reduceMul, Int.reduceNeg, Int.reduceLT, Int.reduceLE, Int.reduceEq, Int.reduceNe, Int.reduceBEq, Int.reduceBNe, Int.reduceToNat, Int.reduceGT, Int.reduceGE, ↓reduceIte, decide_true, decide_false, eq_self, Nat.mul_one, Nat.zero_mul, Nat.one_mul, Int.le_refl, Nat.le_refl, Int.cast_ofNat_Int, Try.f56, Span.t, Span.cs]
theorem gLens_c (n f b : Int) : PCalls Try.prog 57 [.int .i64 n, .int .i64 f, .int .i64 b] (.int .i64 (IntKind.i64.wrap (n * IntKind.i64.wrap (f - b)))) := by
  refine pcalls_by Try.mixes noSpec_ok (fn := Try.f57) Try.func57 rfl (by kernel_rfl) (by show 3 ≤ _; decide) ?_
  simp (decide := true) (maxSteps := 4000000) only [go_sem, Nat.reduceAdd, Nat.reduceSub, Nat.reduceMul, Nat.reduceDiv, Nat.reduceMod, Nat.reduceLT, Nat.reduceLeDiff, Nat.reduceEqDiff, Nat.reduceBEq, Nat.reduceBNe, Nat.reduceGT, Int.reduceAdd, Int.reduceSub, Int.reduceMul, Int.reduceNeg, Int.reduceLT, Int.reduceLE, Int.reduceEq, Int.reduceNe, Int.reduceBEq, Int.reduceBNe, Int.reduceToNat, Int.reduceGT, Int.reduceGE, ↓reduceIte, decide_true, decide_false, eq_self, Nat.mul_one, Nat.zero_mul, Nat.one_mul, Int.le_refl, Nat.le_refl, Int.cast_ofNat_Int, Try.f57]
theorem gEnd_c (s : Span) (b : Bool) : PCalls Try.prog 91 [s.t, .bool b] (.int .i64 (endS s b)) := by
  refine pcalls_by Try.mixes noSpec_ok (fn := Try.f91) Try.func91 rfl (by kernel_rfl) (by show 2 ≤ _; decide) ?_
  cases b <;> simp (decide := true) (maxSteps := 4000000) only [go_sem, Nat.reduceAdd, Nat.reduceSub, Nat.reduceMul, Nat.reduceDiv, Nat.reduceMod, Nat.reduceLT, Nat.reduceLeDiff, Nat.reduceEqDiff, Nat.reduceBEq, Nat.reduceBNe, Nat.reduceGT, Int.reduceAdd, Int.reduceSub, Int.reduceMul, Int.reduceNeg, Int.reduceLT, Int.reduceLE, Int.reduceEq, Int.reduceNe, Int.reduceBEq, Int.reduceBNe, Int.reduceToNat, Int.reduceGT, Int.reduceGE, ↓reduceIte, decide_true, decide_false, eq_self, Nat.mul_one, Nat.zero_mul, Nat.one_mul, Int.le_refl, Nat.le_refl, Int.cast_ofNat_Int, Try.f91, Span.t, Span.cs, endS]
theorem gWorst_c (x : Sn) : PCalls Try.prog 68 [x.t] (.int .i64 (max x.c.hi (IntKind.i64.wrap (0 - x.c.lo)))) := by
  refine pcalls_by Try.mixes noSpec_ok (fn := Try.f68) Try.func68 rfl (by kernel_rfl) (by show 1 ≤ _; decide) ?_
  simp (decide := true) (maxSteps := 4000000) only [go_sem, Nat.reduceAdd, Nat.reduceSub, Nat.reduceMul, Nat.reduceDiv, Nat.reduceMod, Nat.reduceLT, Nat.reduceLeDiff, Nat.reduceEqDiff, Nat.reduceBEq, Nat.reduceBNe, Nat.reduceGT, Int.reduceAdd, Int.reduceSub, Int.reduceMul, Int.reduceNeg, Int.reduceLT, Int.reduceLE, Int.reduceEq, Int.reduceNe, Int.reduceBEq, Int.reduceBNe, Int.reduceToNat, Int.reduceGT, Int.reduceGE, ↓reduceIte, decide_true, decide_false, eq_self, Nat.mul_one, Nat.zero_mul, Nat.one_mul, Int.le_refl, Nat.le_refl, Int.cast_ofNat_Int, Try.f68, Sn.t]
noncomputable def glValid : List TV → Option TV
  | [.agg [.int .i64 x, .int .i64 y], .int .i64 a, .int .i64 b] => some (.bool (spannedB ⟨x, y⟩ a b))
  | _ => none
theorem glValid_ok : ∀ xs r, glValid xs = some r → PCalls Try.prog 61 xs r := by
  intro xs r h
  unfold glValid at h
  split at h
  · cases h; exact gValid_c ⟨_, _⟩ _ _
  · cases h
attribute [go_sem] glValid
noncomputable def glHolds : List TV → Option TV
  | [.agg [.int .i64 x, .int .i64 y], .int .i64 n] => some (.bool (inB n x y))
  | _ => none
theorem glHolds_ok : ∀ xs r, glHolds xs = some r → PCalls Try.prog 56 xs r := by
  intro xs r h
  unfold glHolds at h
  split at h
  · cases h; exact gHoldsM_c ⟨_, _⟩ _
  · cases h
attribute [go_sem] glHolds
noncomputable def glLens : List TV → Option TV
  | [.int .i64 n, .int .i64 a, .int .i64 b] => some (.int .i64 (IntKind.i64.wrap (n * IntKind.i64.wrap (a - b))))
  | _ => none
theorem glLens_ok : ∀ xs r, glLens xs = some r → PCalls Try.prog 57 xs r := by
  intro xs r h
  unfold glLens at h
  split at h
  · cases h; exact gLens_c _ _ _
  · cases h
attribute [go_sem] glLens
noncomputable def glEnd : List TV → Option TV
  | [.agg [.int .i64 x, .int .i64 y], .bool b] => some (.int .i64 (endS ⟨x, y⟩ b))
  | _ => none
theorem glEnd_ok : ∀ xs r, glEnd xs = some r → PCalls Try.prog 91 xs r := by
  intro xs r h
  unfold glEnd at h
  split at h
  · cases h; exact gEnd_c ⟨_, _⟩ _
  · cases h
attribute [go_sem] glEnd
noncomputable def glWorst : List TV → Option TV
  | [.agg [.int .i64 a, .int .i64 b, .int .i64 c, .int .i64 d]] => some (.int .i64 (max d (IntKind.i64.wrap (0 - c))))
  | _ => none
theorem glWorst_ok : ∀ xs r, glWorst xs = some r → PCalls Try.prog 68 xs r := by
  intro xs r h
  unfold glWorst at h
  split at h
  · cases h; exact gWorst_c ⟨⟨_, _⟩, ⟨_, _⟩⟩
  · cases h
attribute [go_sem] glWorst
noncomputable def spU2 : Pm.Spec := ((((spU1.one 61 glValid).one 56 glHolds).one 57 glLens).one 91 glEnd).one 68 glWorst
@[go_sem] theorem spU2_p (f : FuncId) (xs : List TV) : spU2.p f xs = Pm.Spec.p (((((spU1.one 61 glValid).one 56 glHolds).one 57 glLens).one 91 glEnd).one 68 glWorst) f xs := rfl
@[go_sem] theorem spU2_h (f : FuncId) (ps : List PV) (hl : List PO) : spU2.h f ps hl = Pm.Spec.h (((((spU1.one 61 glValid).one 56 glHolds).one 57 glLens).one 91 glEnd).one 68 glWorst) f ps hl := rfl
@[go_sem] theorem spU2_fz (f : FuncId) : spU2.fz f = Pm.Spec.fz (((((spU1.one 61 glValid).one 56 glHolds).one 57 glLens).one 91 glEnd).one 68 glWorst) f := rfl
@[go_sem] theorem spU2_fr (f : FuncId) : spU2.fr f = Pm.Spec.fr (((((spU1.one 61 glValid).one 56 glHolds).one 57 glLens).one 91 glEnd).one 68 glWorst) f := rfl
@[go_sem] theorem spU2_mu (t : TypeId) : spU2.mu t = Pm.Spec.mu (((((spU1.one 61 glValid).one 56 glHolds).one 57 glLens).one 91 glEnd).one 68 glWorst) t := rfl
theorem spU2_ok : SpecOk Try.prog spU2 := Spec.one_ok glWorst_ok (Spec.one_ok glEnd_ok (Spec.one_ok glLens_ok (Spec.one_ok glHolds_ok (Spec.one_ok glValid_ok spU1_ok))))
theorem gIsWish_c (w : Want) : PCalls Try.prog 64 [w.t] (.bool (wantOk w)) := by
  refine pcalls_by Try.mixes spU2_ok (fn := Try.f64) Try.func64 rfl (by kernel_rfl) (by show 1 ≤ _; decide) ?_
  simp (decide := true) (maxSteps := 4000000) only [go_sem, Nat.reduceAdd, Nat.reduceSub, Nat.reduceMul, Nat.reduceDiv, Nat.reduceMod, Nat.reduceLT, Nat.reduceLeDiff, Nat.reduceEqDiff, Nat.reduceBEq, Nat.reduceBNe, Nat.reduceGT, Int.reduceAdd, Int.reduceSub, Int.reduceMul, Int.reduceNeg, Int.reduceLT, Int.reduceLE, Int.reduceEq, Int.reduceNe, Int.reduceBEq, Int.reduceBNe, Int.reduceToNat, Int.reduceGT, Int.reduceGE, ↓reduceIte, decide_true, decide_false, eq_self, Nat.mul_one, Nat.zero_mul, Nat.one_mul, Int.le_refl, Nat.le_refl, Int.cast_ofNat_Int, Try.f64, Want.t, wantOk]
theorem gGood_c (x : Sn) (w : Want) (h1 : -4000000000000000000 ≤ x.c.lo) (h2 : x.c.lo ≤ 4000000000000000000) : PCalls Try.prog 65 [x.t, w.t] (.bool (goodB x w)) := by
  refine pcalls_by Try.mixes spU2_ok (fn := Try.f65) Try.func65 rfl (by kernel_rfl) (by show 2 ≤ _; decide) ?_
  have e : IntKind.i64.wrap (0 - x.c.lo) = -x.c.lo := by rw [wrap_in (by omega) (by omega)]; omega
  simp (decide := true) (maxSteps := 4000000) only [go_sem, Nat.reduceAdd, Nat.reduceSub, Nat.reduceMul, Nat.reduceDiv, Nat.reduceMod, Nat.reduceLT, Nat.reduceLeDiff, Nat.reduceEqDiff, Nat.reduceBEq, Nat.reduceBNe, Nat.reduceGT, Int.reduceAdd, Int.reduceSub, Int.reduceMul, Int.reduceNeg, Int.reduceLT, Int.reduceLE, Int.reduceEq, Int.reduceNe, Int.reduceBEq, Int.reduceBNe, Int.reduceToNat, Int.reduceGT, Int.reduceGE, ↓reduceIte, decide_true, decide_false, eq_self, Nat.mul_one, Nat.zero_mul, Nat.one_mul, Int.le_refl, Nat.le_refl, Int.cast_ofNat_Int, Try.f65, Want.t, Sn.t, goodB, worstS, e]
  rfl
noncomputable def glIsWish : List TV → Option TV
  | [.agg [.int .i64 a, .int .i64 b, .int .i64 c]] => some (.bool (wantOk ⟨⟨a, b⟩, c⟩))
  | _ => none
theorem glIsWish_ok : ∀ xs r, glIsWish xs = some r → PCalls Try.prog 64 xs r := by
  intro xs r h
  unfold glIsWish at h
  split at h
  · cases h; exact gIsWish_c ⟨⟨_, _⟩, _⟩
  · cases h
attribute [go_sem] glIsWish
noncomputable def glGood : List TV → Option TV
  | [.agg [.int .i64 a, .int .i64 b, .int .i64 c, .int .i64 d], .agg [.int .i64 e, .int .i64 f, .int .i64 g]] => if -4000000000000000000 ≤ c ∧ c ≤ 4000000000000000000 then some (.bool (goodB ⟨⟨a, b⟩, ⟨c, d⟩⟩ ⟨⟨e, f⟩, g⟩)) else none
  | _ => none
theorem glGood_ok : ∀ xs r, glGood xs = some r → PCalls Try.prog 65 xs r := by
  intro xs r h
  unfold glGood at h
  split at h
  · split at h
    · rename_i hc; cases h; exact gGood_c ⟨⟨_, _⟩, ⟨_, _⟩⟩ ⟨⟨_, _⟩, _⟩ hc.1 hc.2
    · cases h
  · cases h
attribute [go_sem] glGood
noncomputable def spU3 : Pm.Spec := (spU2.one 64 glIsWish).one 65 glGood
@[go_sem] theorem spU3_p (f : FuncId) (xs : List TV) : spU3.p f xs = Pm.Spec.p ((spU2.one 64 glIsWish).one 65 glGood) f xs := rfl
@[go_sem] theorem spU3_h (f : FuncId) (ps : List PV) (hl : List PO) : spU3.h f ps hl = Pm.Spec.h ((spU2.one 64 glIsWish).one 65 glGood) f ps hl := rfl
@[go_sem] theorem spU3_fz (f : FuncId) : spU3.fz f = Pm.Spec.fz ((spU2.one 64 glIsWish).one 65 glGood) f := rfl
@[go_sem] theorem spU3_fr (f : FuncId) : spU3.fr f = Pm.Spec.fr ((spU2.one 64 glIsWish).one 65 glGood) f := rfl
@[go_sem] theorem spU3_mu (t : TypeId) : spU3.mu t = Pm.Spec.mu ((spU2.one 64 glIsWish).one 65 glGood) t := rfl
theorem spU3_ok : SpecOk Try.prog spU3 := Spec.one_ok glGood_ok (Spec.one_ok glIsWish_ok spU2_ok)

end Go.Proofs.Ytcjcnmpecmbdeaa

/- Part Gc. -/
namespace Go.Proofs.Ytcjcnmpecmbdeaa
open Go.RowKit Go.Pm Go.Oc
set_option maxRecDepth 100000
set_option linter.unusedVariables false
set_option maxHeartbeats 4000000

theorem gCheck_c {B : List Blank} {T : List Span} {sB sT : TV} (hB : IsRow Blank.cs sB B) (hT : IsRow Span.cs sT T) (hlB : B.length ≤ 5864062014806) (hlT : T.length ≤ 9000000000000) : PCalls Try.prog 18 [.agg [sB, sT]] (.int .i64 (if stockOk B T then 0 else 40)) := by
  refine pcalls_by Try.mixes spU3_ok (fn := Try.f18) Try.func18 rfl (by kernel_rfl) (by show 1 ≤ _; decide) ?_
  have hz := accB_zero B T
  have hz2 := accT_zero B T
  rcases hB with ⟨rfl, rfl⟩ | ⟨fB, rfl⟩ <;> rcases hT with ⟨rfl, rfl⟩ | ⟨fT, rfl⟩
  · simp (decide := true) (maxSteps := 4000000) only [go_sem, Nat.reduceAdd, Nat.reduceSub, Nat.reduceMul, Nat.reduceDiv, Nat.reduceMod, Nat.reduceLT, Nat.reduceLeDiff, Nat.reduceEqDiff, Nat.reduceBEq, Nat.reduceBNe, Nat.reduceGT, Int.reduceAdd, Int.reduceSub, Int.reduceMul, Int.reduceNeg, Int.reduceLT, Int.reduceLE, Int.reduceEq, Int.reduceNe, Int.reduceBEq, Int.reduceBNe, Int.reduceToNat, Int.reduceGT, Int.reduceGE, ↓reduceIte, decide_true, decide_false, eq_self, Nat.mul_one, Nat.zero_mul, Nat.one_mul, Int.le_refl, Nat.le_refl, Int.cast_ofNat_Int, Try.f18, List.length_nil]
    refine pwpC_loopU (A := Unit) [1, 19, 20] (fun _ => [(21, .t (.int .i64 0)), (3, .t (.bool (accB [] ([] : List Span) 0)))]) (fun _ => []) (fun _ => 0) () (by decide) (fun _ => by rfl) ?_ fun Q1 hQ1 _ I1 hI1 => ?_
    · simp (decide := true) (maxSteps := 4000000) only [go_sem, Nat.reduceAdd, Nat.reduceSub, Nat.reduceMul, Nat.reduceDiv, Nat.reduceMod, Nat.reduceLT, Nat.reduceLeDiff, Nat.reduceEqDiff, Nat.reduceBEq, Nat.reduceBNe, Nat.reduceGT, Int.reduceAdd, Int.reduceSub, Int.reduceMul, Int.reduceNeg, Int.reduceLT, Int.reduceLE, Int.reduceEq, Int.reduceNe, Int.reduceBEq, Int.reduceBNe, Int.reduceToNat, Int.reduceGT, Int.reduceGE, ↓reduceIte, decide_true, decide_false, eq_self, Nat.mul_one, Nat.zero_mul, Nat.one_mul, Int.le_refl, Nat.le_refl, Int.cast_ofNat_Int, hz, List.length_nil]
      first | done | rfl
    · simp (decide := true) (maxSteps := 4000000) only [go_sem, Nat.reduceAdd, Nat.reduceSub, Nat.reduceMul, Nat.reduceDiv, Nat.reduceMod, Nat.reduceLT, Nat.reduceLeDiff, Nat.reduceEqDiff, Nat.reduceBEq, Nat.reduceBNe, Nat.reduceGT, Int.reduceAdd, Int.reduceSub, Int.reduceMul, Int.reduceNeg, Int.reduceLT, Int.reduceLE, Int.reduceEq, Int.reduceNe, Int.reduceBEq, Int.reduceBNe, Int.reduceToNat, Int.reduceGT, Int.reduceGE, ↓reduceIte, decide_true, decide_false, eq_self, Nat.mul_one, Nat.zero_mul, Nat.one_mul, Int.le_refl, Nat.le_refl, Int.cast_ofNat_Int]
      refine hQ1 _ _ ?_
      simp (decide := true) (maxSteps := 4000000) only [go_sem, Nat.reduceAdd, Nat.reduceSub, Nat.reduceMul, Nat.reduceDiv, Nat.reduceMod, Nat.reduceLT, Nat.reduceLeDiff, Nat.reduceEqDiff, Nat.reduceBEq, Nat.reduceBNe, Nat.reduceGT, Int.reduceAdd, Int.reduceSub, Int.reduceMul, Int.reduceNeg, Int.reduceLT, Int.reduceLE, Int.reduceEq, Int.reduceNe, Int.reduceBEq, Int.reduceBNe, Int.reduceToNat, Int.reduceGT, Int.reduceGE, ↓reduceIte, decide_true, decide_false, eq_self, Nat.mul_one, Nat.zero_mul, Nat.one_mul, Int.le_refl, Nat.le_refl, Int.cast_ofNat_Int]
      refine pwpC_loopU (A := Unit) [1, 45, 46] (fun _ => [(47, .t (.int .i64 0)), (3, .t (.bool (accT [] [] 0)))]) (fun _ => []) (fun _ => 0) () (by decide) (fun _ => by rfl) ?_ fun Q2 hQ2 _ I2 hI2 => ?_
      · simp (decide := true) (maxSteps := 4000000) only [go_sem, Nat.reduceAdd, Nat.reduceSub, Nat.reduceMul, Nat.reduceDiv, Nat.reduceMod, Nat.reduceLT, Nat.reduceLeDiff, Nat.reduceEqDiff, Nat.reduceBEq, Nat.reduceBNe, Nat.reduceGT, Int.reduceAdd, Int.reduceSub, Int.reduceMul, Int.reduceNeg, Int.reduceLT, Int.reduceLE, Int.reduceEq, Int.reduceNe, Int.reduceBEq, Int.reduceBNe, Int.reduceToNat, Int.reduceGT, Int.reduceGE, ↓reduceIte, decide_true, decide_false, eq_self, Nat.mul_one, Nat.zero_mul, Nat.one_mul, Int.le_refl, Nat.le_refl, Int.cast_ofNat_Int, hz2, List.length_nil]
        first | done | rfl
      · simp (decide := true) (maxSteps := 4000000) only [go_sem, Nat.reduceAdd, Nat.reduceSub, Nat.reduceMul, Nat.reduceDiv, Nat.reduceMod, Nat.reduceLT, Nat.reduceLeDiff, Nat.reduceEqDiff, Nat.reduceBEq, Nat.reduceBNe, Nat.reduceGT, Int.reduceAdd, Int.reduceSub, Int.reduceMul, Int.reduceNeg, Int.reduceLT, Int.reduceLE, Int.reduceEq, Int.reduceNe, Int.reduceBEq, Int.reduceBNe, Int.reduceToNat, Int.reduceGT, Int.reduceGE, ↓reduceIte, decide_true, decide_false, eq_self, Nat.mul_one, Nat.zero_mul, Nat.one_mul, Int.le_refl, Nat.le_refl, Int.cast_ofNat_Int]
        refine hQ2 _ _ ?_
        have hno : accT [] [] 0 = false := by rw [hz2, show accB [] [] _ = (_ && _) from rfl]; simp [accB, inB]
        have hso := accT_false hno
        simp (decide := true) (maxSteps := 4000000) only [go_sem, Nat.reduceAdd, Nat.reduceSub, Nat.reduceMul, Nat.reduceDiv, Nat.reduceMod, Nat.reduceLT, Nat.reduceLeDiff, Nat.reduceEqDiff, Nat.reduceBEq, Nat.reduceBNe, Nat.reduceGT, Int.reduceAdd, Int.reduceSub, Int.reduceMul, Int.reduceNeg, Int.reduceLT, Int.reduceLE, Int.reduceEq, Int.reduceNe, Int.reduceBEq, Int.reduceBNe, Int.reduceToNat, Int.reduceGT, Int.reduceGE, ↓reduceIte, decide_true, decide_false, eq_self, Nat.mul_one, Nat.zero_mul, Nat.one_mul, Int.le_refl, Nat.le_refl, Int.cast_ofNat_Int, hno, hso]
  · simp (decide := true) (maxSteps := 4000000) only [go_sem, Nat.reduceAdd, Nat.reduceSub, Nat.reduceMul, Nat.reduceDiv, Nat.reduceMod, Nat.reduceLT, Nat.reduceLeDiff, Nat.reduceEqDiff, Nat.reduceBEq, Nat.reduceBNe, Nat.reduceGT, Int.reduceAdd, Int.reduceSub, Int.reduceMul, Int.reduceNeg, Int.reduceLT, Int.reduceLE, Int.reduceEq, Int.reduceNe, Int.reduceBEq, Int.reduceBNe, Int.reduceToNat, Int.reduceGT, Int.reduceGE, ↓reduceIte, decide_true, decide_false, eq_self, Nat.mul_one, Nat.zero_mul, Nat.one_mul, Int.le_refl, Nat.le_refl, Int.cast_ofNat_Int, Try.f18, List.length_nil]
    refine pwpC_loopU (A := Unit) [1, 19, 20] (fun _ => [(21, .t (.int .i64 0)), (3, .t (.bool (accB [] T 0)))]) (fun _ => []) (fun _ => 0) () (by decide) (fun _ => by rfl) ?_ fun Q1 hQ1 _ I1 hI1 => ?_
    · simp (decide := true) (maxSteps := 4000000) only [go_sem, Nat.reduceAdd, Nat.reduceSub, Nat.reduceMul, Nat.reduceDiv, Nat.reduceMod, Nat.reduceLT, Nat.reduceLeDiff, Nat.reduceEqDiff, Nat.reduceBEq, Nat.reduceBNe, Nat.reduceGT, Int.reduceAdd, Int.reduceSub, Int.reduceMul, Int.reduceNeg, Int.reduceLT, Int.reduceLE, Int.reduceEq, Int.reduceNe, Int.reduceBEq, Int.reduceBNe, Int.reduceToNat, Int.reduceGT, Int.reduceGE, ↓reduceIte, decide_true, decide_false, eq_self, Nat.mul_one, Nat.zero_mul, Nat.one_mul, Int.le_refl, Nat.le_refl, Int.cast_ofNat_Int, hz, List.length_nil]
      first | done | rfl
    · simp (decide := true) (maxSteps := 4000000) only [go_sem, Nat.reduceAdd, Nat.reduceSub, Nat.reduceMul, Nat.reduceDiv, Nat.reduceMod, Nat.reduceLT, Nat.reduceLeDiff, Nat.reduceEqDiff, Nat.reduceBEq, Nat.reduceBNe, Nat.reduceGT, Int.reduceAdd, Int.reduceSub, Int.reduceMul, Int.reduceNeg, Int.reduceLT, Int.reduceLE, Int.reduceEq, Int.reduceNe, Int.reduceBEq, Int.reduceBNe, Int.reduceToNat, Int.reduceGT, Int.reduceGE, ↓reduceIte, decide_true, decide_false, eq_self, Nat.mul_one, Nat.zero_mul, Nat.one_mul, Int.le_refl, Nat.le_refl, Int.cast_ofNat_Int]
      refine hQ1 _ _ ?_
      simp (decide := true) (maxSteps := 4000000) only [go_sem, Nat.reduceAdd, Nat.reduceSub, Nat.reduceMul, Nat.reduceDiv, Nat.reduceMod, Nat.reduceLT, Nat.reduceLeDiff, Nat.reduceEqDiff, Nat.reduceBEq, Nat.reduceBNe, Nat.reduceGT, Int.reduceAdd, Int.reduceSub, Int.reduceMul, Int.reduceNeg, Int.reduceLT, Int.reduceLE, Int.reduceEq, Int.reduceNe, Int.reduceBEq, Int.reduceBNe, Int.reduceToNat, Int.reduceGT, Int.reduceGE, ↓reduceIte, decide_true, decide_false, eq_self, Nat.mul_one, Nat.zero_mul, Nat.one_mul, Int.le_refl, Nat.le_refl, Int.cast_ofNat_Int]
      refine pwpC_loopU (A := { k : Nat // k ≤ T.length }) [1, 45, 46] (fun k => [(47, .t (.int .i64 k.1)), (3, .t (.bool (accT [] T k.1)))]) (fun _ => []) (fun k => T.length - k.1) ⟨0, by omega⟩ (by decide) (fun _ => by rfl) ?_ fun Q2 hQ2 ⟨j, hj⟩ I2 hI2 => ?_
      · simp (decide := true) (maxSteps := 4000000) only [go_sem, Nat.reduceAdd, Nat.reduceSub, Nat.reduceMul, Nat.reduceDiv, Nat.reduceMod, Nat.reduceLT, Nat.reduceLeDiff, Nat.reduceEqDiff, Nat.reduceBEq, Nat.reduceBNe, Nat.reduceGT, Int.reduceAdd, Int.reduceSub, Int.reduceMul, Int.reduceNeg, Int.reduceLT, Int.reduceLE, Int.reduceEq, Int.reduceNe, Int.reduceBEq, Int.reduceBNe, Int.reduceToNat, Int.reduceGT, Int.reduceGE, ↓reduceIte, decide_true, decide_false, eq_self, Nat.mul_one, Nat.zero_mul, Nat.one_mul, Int.le_refl, Nat.le_refl, Int.cast_ofNat_Int, hz2, List.length_nil]
        first | done | rfl
      · by_cases hlt2 : (j : Int) < T.length
        · obtain ⟨y, hy⟩ := get_lt hlt2
          have hd2 := flat_at Span.cs (n := 2) (fun _ => rfl) hy
          have hc2 : IntKind.i64.wrap (j + 1) = ((j + 1 : Nat) : Int) := by rw [wrap_in (by omega) (by omega)]; omega
          have hs2 := accT_succ [] hy
          unfold toolOk at hs2
          cases hok2 : accT [] T j <;> cases h4 : spannedB y (-1000) 1000 <;> rw [hok2, h4] at hs2
          all_goals simp (decide := true) (maxSteps := 4000000) only [go_sem, Nat.reduceAdd, Nat.reduceSub, Nat.reduceMul, Nat.reduceDiv, Nat.reduceMod, Nat.reduceLT, Nat.reduceLeDiff, Nat.reduceEqDiff, Nat.reduceBEq, Nat.reduceBNe, Nat.reduceGT, Int.reduceAdd, Int.reduceSub, Int.reduceMul, Int.reduceNeg, Int.reduceLT, Int.reduceLE, Int.reduceEq, Int.reduceNe, Int.reduceBEq, Int.reduceBNe, Int.reduceToNat, Int.reduceGT, Int.reduceGE, ↓reduceIte, decide_true, decide_false, eq_self, Nat.mul_one, Nat.zero_mul, Nat.one_mul, Int.le_refl, Nat.le_refl, Int.cast_ofNat_Int, hlt2, hd2, Span.cs, hok2, h4]
          all_goals refine hI2 _ ⟨j + 1, by omega⟩ (by simp only; omega) ?_
          all_goals simp (decide := true) (maxSteps := 4000000) only [go_sem, Nat.reduceAdd, Nat.reduceSub, Nat.reduceMul, Nat.reduceDiv, Nat.reduceMod, Nat.reduceLT, Nat.reduceLeDiff, Nat.reduceEqDiff, Nat.reduceBEq, Nat.reduceBNe, Nat.reduceGT, Int.reduceAdd, Int.reduceSub, Int.reduceMul, Int.reduceNeg, Int.reduceLT, Int.reduceLE, Int.reduceEq, Int.reduceNe, Int.reduceBEq, Int.reduceBNe, Int.reduceToNat, Int.reduceGT, Int.reduceGE, ↓reduceIte, decide_true, decide_false, eq_self, Nat.mul_one, Nat.zero_mul, Nat.one_mul, Int.le_refl, Nat.le_refl, Int.cast_ofNat_Int, hc2, hs2, Bool.and_true, Bool.and_false, Bool.and_self, Bool.false_and]
        · have hje : j = T.length := by omega
          subst hje
          simp (decide := true) (maxSteps := 4000000) only [go_sem, Nat.reduceAdd, Nat.reduceSub, Nat.reduceMul, Nat.reduceDiv, Nat.reduceMod, Nat.reduceLT, Nat.reduceLeDiff, Nat.reduceEqDiff, Nat.reduceBEq, Nat.reduceBNe, Nat.reduceGT, Int.reduceAdd, Int.reduceSub, Int.reduceMul, Int.reduceNeg, Int.reduceLT, Int.reduceLE, Int.reduceEq, Int.reduceNe, Int.reduceBEq, Int.reduceBNe, Int.reduceToNat, Int.reduceGT, Int.reduceGE, ↓reduceIte, decide_true, decide_false, eq_self, Nat.mul_one, Nat.zero_mul, Nat.one_mul, Int.le_refl, Nat.le_refl, Int.cast_ofNat_Int, hlt2]
          refine hQ2 _ _ ?_
          cases hso : stockOk [] T <;> simp (decide := true) (maxSteps := 4000000) only [go_sem, Nat.reduceAdd, Nat.reduceSub, Nat.reduceMul, Nat.reduceDiv, Nat.reduceMod, Nat.reduceLT, Nat.reduceLeDiff, Nat.reduceEqDiff, Nat.reduceBEq, Nat.reduceBNe, Nat.reduceGT, Int.reduceAdd, Int.reduceSub, Int.reduceMul, Int.reduceNeg, Int.reduceLT, Int.reduceLE, Int.reduceEq, Int.reduceNe, Int.reduceBEq, Int.reduceBNe, Int.reduceToNat, Int.reduceGT, Int.reduceGE, ↓reduceIte, decide_true, decide_false, eq_self, Nat.mul_one, Nat.zero_mul, Nat.one_mul, Int.le_refl, Nat.le_refl, Int.cast_ofNat_Int, accT_all, hso]
  · simp (decide := true) (maxSteps := 4000000) only [go_sem, Nat.reduceAdd, Nat.reduceSub, Nat.reduceMul, Nat.reduceDiv, Nat.reduceMod, Nat.reduceLT, Nat.reduceLeDiff, Nat.reduceEqDiff, Nat.reduceBEq, Nat.reduceBNe, Nat.reduceGT, Int.reduceAdd, Int.reduceSub, Int.reduceMul, Int.reduceNeg, Int.reduceLT, Int.reduceLE, Int.reduceEq, Int.reduceNe, Int.reduceBEq, Int.reduceBNe, Int.reduceToNat, Int.reduceGT, Int.reduceGE, ↓reduceIte, decide_true, decide_false, eq_self, Nat.mul_one, Nat.zero_mul, Nat.one_mul, Int.le_refl, Nat.le_refl, Int.cast_ofNat_Int, Try.f18, List.length_nil]
    refine pwpC_loopU (A := { k : Nat // k ≤ B.length }) [1, 19, 20] (fun k => [(21, .t (.int .i64 k.1)), (3, .t (.bool (accB B ([] : List Span) k.1)))]) (fun _ => []) (fun k => B.length - k.1) ⟨0, by omega⟩ (by decide) (fun _ => by rfl) ?_ fun Q1 hQ1 ⟨k, hk⟩ I1 hI1 => ?_
    · simp (decide := true) (maxSteps := 4000000) only [go_sem, Nat.reduceAdd, Nat.reduceSub, Nat.reduceMul, Nat.reduceDiv, Nat.reduceMod, Nat.reduceLT, Nat.reduceLeDiff, Nat.reduceEqDiff, Nat.reduceBEq, Nat.reduceBNe, Nat.reduceGT, Int.reduceAdd, Int.reduceSub, Int.reduceMul, Int.reduceNeg, Int.reduceLT, Int.reduceLE, Int.reduceEq, Int.reduceNe, Int.reduceBEq, Int.reduceBNe, Int.reduceToNat, Int.reduceGT, Int.reduceGE, ↓reduceIte, decide_true, decide_false, eq_self, Nat.mul_one, Nat.zero_mul, Nat.one_mul, Int.le_refl, Nat.le_refl, Int.cast_ofNat_Int, hz, List.length_nil]
      first | done | rfl
    · by_cases hlt : (k : Int) < B.length
      · obtain ⟨x, hx⟩ := get_lt hlt
        have hd := flat_at Blank.cs (n := 5) (fun _ => rfl) hx
        have hc1 : IntKind.i64.wrap (k + 1) = ((k + 1 : Nat) : Int) := by rw [wrap_in (by omega) (by omega)]; omega
        have hs := accB_succ ([] : List Span) hx
        unfold blankOk at hs
        cases hok : accB B ([] : List Span) k <;> cases h1 : spannedB x.i 1 100000 <;> cases h2 : spannedB x.c 1 5000 <;> cases h3 : inB x.pr 0 1000000 <;> rw [hok, h1, h2, h3] at hs
        all_goals simp (decide := true) (maxSteps := 4000000) only [go_sem, Nat.reduceAdd, Nat.reduceSub, Nat.reduceMul, Nat.reduceDiv, Nat.reduceMod, Nat.reduceLT, Nat.reduceLeDiff, Nat.reduceEqDiff, Nat.reduceBEq, Nat.reduceBNe, Nat.reduceGT, Int.reduceAdd, Int.reduceSub, Int.reduceMul, Int.reduceNeg, Int.reduceLT, Int.reduceLE, Int.reduceEq, Int.reduceNe, Int.reduceBEq, Int.reduceBNe, Int.reduceToNat, Int.reduceGT, Int.reduceGE, ↓reduceIte, decide_true, decide_false, eq_self, Nat.mul_one, Nat.zero_mul, Nat.one_mul, Int.le_refl, Nat.le_refl, Int.cast_ofNat_Int, hlt, hd, Blank.cs, hok, h1, h2, h3]
        all_goals refine hI1 _ ⟨k + 1, by omega⟩ (by simp only; omega) ?_
        all_goals simp (decide := true) (maxSteps := 4000000) only [go_sem, Nat.reduceAdd, Nat.reduceSub, Nat.reduceMul, Nat.reduceDiv, Nat.reduceMod, Nat.reduceLT, Nat.reduceLeDiff, Nat.reduceEqDiff, Nat.reduceBEq, Nat.reduceBNe, Nat.reduceGT, Int.reduceAdd, Int.reduceSub, Int.reduceMul, Int.reduceNeg, Int.reduceLT, Int.reduceLE, Int.reduceEq, Int.reduceNe, Int.reduceBEq, Int.reduceBNe, Int.reduceToNat, Int.reduceGT, Int.reduceGE, ↓reduceIte, decide_true, decide_false, eq_self, Nat.mul_one, Nat.zero_mul, Nat.one_mul, Int.le_refl, Nat.le_refl, Int.cast_ofNat_Int, hc1, hs, Bool.and_true, Bool.and_false, Bool.and_self, Bool.false_and]
      · have hke : k = B.length := by omega
        subst hke
        simp (decide := true) (maxSteps := 4000000) only [go_sem, Nat.reduceAdd, Nat.reduceSub, Nat.reduceMul, Nat.reduceDiv, Nat.reduceMod, Nat.reduceLT, Nat.reduceLeDiff, Nat.reduceEqDiff, Nat.reduceBEq, Nat.reduceBNe, Nat.reduceGT, Int.reduceAdd, Int.reduceSub, Int.reduceMul, Int.reduceNeg, Int.reduceLT, Int.reduceLE, Int.reduceEq, Int.reduceNe, Int.reduceBEq, Int.reduceBNe, Int.reduceToNat, Int.reduceGT, Int.reduceGE, ↓reduceIte, decide_true, decide_false, eq_self, Nat.mul_one, Nat.zero_mul, Nat.one_mul, Int.le_refl, Nat.le_refl, Int.cast_ofNat_Int, hlt]
        refine hQ1 _ _ ?_
        simp (decide := true) (maxSteps := 4000000) only [go_sem, Nat.reduceAdd, Nat.reduceSub, Nat.reduceMul, Nat.reduceDiv, Nat.reduceMod, Nat.reduceLT, Nat.reduceLeDiff, Nat.reduceEqDiff, Nat.reduceBEq, Nat.reduceBNe, Nat.reduceGT, Int.reduceAdd, Int.reduceSub, Int.reduceMul, Int.reduceNeg, Int.reduceLT, Int.reduceLE, Int.reduceEq, Int.reduceNe, Int.reduceBEq, Int.reduceBNe, Int.reduceToNat, Int.reduceGT, Int.reduceGE, ↓reduceIte, decide_true, decide_false, eq_self, Nat.mul_one, Nat.zero_mul, Nat.one_mul, Int.le_refl, Nat.le_refl, Int.cast_ofNat_Int]
        refine pwpC_loopU (A := Unit) [1, 45, 46] (fun _ => [(47, .t (.int .i64 0)), (3, .t (.bool (accT B [] 0)))]) (fun _ => []) (fun _ => 0) () (by decide) (fun _ => by rfl) ?_ fun Q2 hQ2 _ I2 hI2 => ?_
        · simp (decide := true) (maxSteps := 4000000) only [go_sem, Nat.reduceAdd, Nat.reduceSub, Nat.reduceMul, Nat.reduceDiv, Nat.reduceMod, Nat.reduceLT, Nat.reduceLeDiff, Nat.reduceEqDiff, Nat.reduceBEq, Nat.reduceBNe, Nat.reduceGT, Int.reduceAdd, Int.reduceSub, Int.reduceMul, Int.reduceNeg, Int.reduceLT, Int.reduceLE, Int.reduceEq, Int.reduceNe, Int.reduceBEq, Int.reduceBNe, Int.reduceToNat, Int.reduceGT, Int.reduceGE, ↓reduceIte, decide_true, decide_false, eq_self, Nat.mul_one, Nat.zero_mul, Nat.one_mul, Int.le_refl, Nat.le_refl, Int.cast_ofNat_Int, hz2, List.length_nil]
          first | done | rfl
        · simp (decide := true) (maxSteps := 4000000) only [go_sem, Nat.reduceAdd, Nat.reduceSub, Nat.reduceMul, Nat.reduceDiv, Nat.reduceMod, Nat.reduceLT, Nat.reduceLeDiff, Nat.reduceEqDiff, Nat.reduceBEq, Nat.reduceBNe, Nat.reduceGT, Int.reduceAdd, Int.reduceSub, Int.reduceMul, Int.reduceNeg, Int.reduceLT, Int.reduceLE, Int.reduceEq, Int.reduceNe, Int.reduceBEq, Int.reduceBNe, Int.reduceToNat, Int.reduceGT, Int.reduceGE, ↓reduceIte, decide_true, decide_false, eq_self, Nat.mul_one, Nat.zero_mul, Nat.one_mul, Int.le_refl, Nat.le_refl, Int.cast_ofNat_Int]
          refine hQ2 _ _ ?_
          have hno : accT B [] 0 = false := by rw [hz2, show accB B [] _ = (_ && _) from rfl]; simp [accB, inB]
          have hso := accT_false hno
          simp (decide := true) (maxSteps := 4000000) only [go_sem, Nat.reduceAdd, Nat.reduceSub, Nat.reduceMul, Nat.reduceDiv, Nat.reduceMod, Nat.reduceLT, Nat.reduceLeDiff, Nat.reduceEqDiff, Nat.reduceBEq, Nat.reduceBNe, Nat.reduceGT, Int.reduceAdd, Int.reduceSub, Int.reduceMul, Int.reduceNeg, Int.reduceLT, Int.reduceLE, Int.reduceEq, Int.reduceNe, Int.reduceBEq, Int.reduceBNe, Int.reduceToNat, Int.reduceGT, Int.reduceGE, ↓reduceIte, decide_true, decide_false, eq_self, Nat.mul_one, Nat.zero_mul, Nat.one_mul, Int.le_refl, Nat.le_refl, Int.cast_ofNat_Int, hno, hso]
  · simp (decide := true) (maxSteps := 4000000) only [go_sem, Nat.reduceAdd, Nat.reduceSub, Nat.reduceMul, Nat.reduceDiv, Nat.reduceMod, Nat.reduceLT, Nat.reduceLeDiff, Nat.reduceEqDiff, Nat.reduceBEq, Nat.reduceBNe, Nat.reduceGT, Int.reduceAdd, Int.reduceSub, Int.reduceMul, Int.reduceNeg, Int.reduceLT, Int.reduceLE, Int.reduceEq, Int.reduceNe, Int.reduceBEq, Int.reduceBNe, Int.reduceToNat, Int.reduceGT, Int.reduceGE, ↓reduceIte, decide_true, decide_false, eq_self, Nat.mul_one, Nat.zero_mul, Nat.one_mul, Int.le_refl, Nat.le_refl, Int.cast_ofNat_Int, Try.f18, List.length_nil]
    refine pwpC_loopU (A := { k : Nat // k ≤ B.length }) [1, 19, 20] (fun k => [(21, .t (.int .i64 k.1)), (3, .t (.bool (accB B T k.1)))]) (fun _ => []) (fun k => B.length - k.1) ⟨0, by omega⟩ (by decide) (fun _ => by rfl) ?_ fun Q1 hQ1 ⟨k, hk⟩ I1 hI1 => ?_
    · simp (decide := true) (maxSteps := 4000000) only [go_sem, Nat.reduceAdd, Nat.reduceSub, Nat.reduceMul, Nat.reduceDiv, Nat.reduceMod, Nat.reduceLT, Nat.reduceLeDiff, Nat.reduceEqDiff, Nat.reduceBEq, Nat.reduceBNe, Nat.reduceGT, Int.reduceAdd, Int.reduceSub, Int.reduceMul, Int.reduceNeg, Int.reduceLT, Int.reduceLE, Int.reduceEq, Int.reduceNe, Int.reduceBEq, Int.reduceBNe, Int.reduceToNat, Int.reduceGT, Int.reduceGE, ↓reduceIte, decide_true, decide_false, eq_self, Nat.mul_one, Nat.zero_mul, Nat.one_mul, Int.le_refl, Nat.le_refl, Int.cast_ofNat_Int, hz, List.length_nil]
      first | done | rfl
    · by_cases hlt : (k : Int) < B.length
      · obtain ⟨x, hx⟩ := get_lt hlt
        have hd := flat_at Blank.cs (n := 5) (fun _ => rfl) hx
        have hc1 : IntKind.i64.wrap (k + 1) = ((k + 1 : Nat) : Int) := by rw [wrap_in (by omega) (by omega)]; omega
        have hs := accB_succ T hx
        unfold blankOk at hs
        cases hok : accB B T k <;> cases h1 : spannedB x.i 1 100000 <;> cases h2 : spannedB x.c 1 5000 <;> cases h3 : inB x.pr 0 1000000 <;> rw [hok, h1, h2, h3] at hs
        all_goals simp (decide := true) (maxSteps := 4000000) only [go_sem, Nat.reduceAdd, Nat.reduceSub, Nat.reduceMul, Nat.reduceDiv, Nat.reduceMod, Nat.reduceLT, Nat.reduceLeDiff, Nat.reduceEqDiff, Nat.reduceBEq, Nat.reduceBNe, Nat.reduceGT, Int.reduceAdd, Int.reduceSub, Int.reduceMul, Int.reduceNeg, Int.reduceLT, Int.reduceLE, Int.reduceEq, Int.reduceNe, Int.reduceBEq, Int.reduceBNe, Int.reduceToNat, Int.reduceGT, Int.reduceGE, ↓reduceIte, decide_true, decide_false, eq_self, Nat.mul_one, Nat.zero_mul, Nat.one_mul, Int.le_refl, Nat.le_refl, Int.cast_ofNat_Int, hlt, hd, Blank.cs, hok, h1, h2, h3]
        all_goals refine hI1 _ ⟨k + 1, by omega⟩ (by simp only; omega) ?_
        all_goals simp (decide := true) (maxSteps := 4000000) only [go_sem, Nat.reduceAdd, Nat.reduceSub, Nat.reduceMul, Nat.reduceDiv, Nat.reduceMod, Nat.reduceLT, Nat.reduceLeDiff, Nat.reduceEqDiff, Nat.reduceBEq, Nat.reduceBNe, Nat.reduceGT, Int.reduceAdd, Int.reduceSub, Int.reduceMul, Int.reduceNeg, Int.reduceLT, Int.reduceLE, Int.reduceEq, Int.reduceNe, Int.reduceBEq, Int.reduceBNe, Int.reduceToNat, Int.reduceGT, Int.reduceGE, ↓reduceIte, decide_true, decide_false, eq_self, Nat.mul_one, Nat.zero_mul, Nat.one_mul, Int.le_refl, Nat.le_refl, Int.cast_ofNat_Int, hc1, hs, Bool.and_true, Bool.and_false, Bool.and_self, Bool.false_and]
      · have hke : k = B.length := by omega
        subst hke
        simp (decide := true) (maxSteps := 4000000) only [go_sem, Nat.reduceAdd, Nat.reduceSub, Nat.reduceMul, Nat.reduceDiv, Nat.reduceMod, Nat.reduceLT, Nat.reduceLeDiff, Nat.reduceEqDiff, Nat.reduceBEq, Nat.reduceBNe, Nat.reduceGT, Int.reduceAdd, Int.reduceSub, Int.reduceMul, Int.reduceNeg, Int.reduceLT, Int.reduceLE, Int.reduceEq, Int.reduceNe, Int.reduceBEq, Int.reduceBNe, Int.reduceToNat, Int.reduceGT, Int.reduceGE, ↓reduceIte, decide_true, decide_false, eq_self, Nat.mul_one, Nat.zero_mul, Nat.one_mul, Int.le_refl, Nat.le_refl, Int.cast_ofNat_Int, hlt]
        refine hQ1 _ _ ?_
        simp (decide := true) (maxSteps := 4000000) only [go_sem, Nat.reduceAdd, Nat.reduceSub, Nat.reduceMul, Nat.reduceDiv, Nat.reduceMod, Nat.reduceLT, Nat.reduceLeDiff, Nat.reduceEqDiff, Nat.reduceBEq, Nat.reduceBNe, Nat.reduceGT, Int.reduceAdd, Int.reduceSub, Int.reduceMul, Int.reduceNeg, Int.reduceLT, Int.reduceLE, Int.reduceEq, Int.reduceNe, Int.reduceBEq, Int.reduceBNe, Int.reduceToNat, Int.reduceGT, Int.reduceGE, ↓reduceIte, decide_true, decide_false, eq_self, Nat.mul_one, Nat.zero_mul, Nat.one_mul, Int.le_refl, Nat.le_refl, Int.cast_ofNat_Int]
        refine pwpC_loopU (A := { k : Nat // k ≤ T.length }) [1, 45, 46] (fun k => [(47, .t (.int .i64 k.1)), (3, .t (.bool (accT B T k.1)))]) (fun _ => []) (fun k => T.length - k.1) ⟨0, by omega⟩ (by decide) (fun _ => by rfl) ?_ fun Q2 hQ2 ⟨j, hj⟩ I2 hI2 => ?_
        · simp (decide := true) (maxSteps := 4000000) only [go_sem, Nat.reduceAdd, Nat.reduceSub, Nat.reduceMul, Nat.reduceDiv, Nat.reduceMod, Nat.reduceLT, Nat.reduceLeDiff, Nat.reduceEqDiff, Nat.reduceBEq, Nat.reduceBNe, Nat.reduceGT, Int.reduceAdd, Int.reduceSub, Int.reduceMul, Int.reduceNeg, Int.reduceLT, Int.reduceLE, Int.reduceEq, Int.reduceNe, Int.reduceBEq, Int.reduceBNe, Int.reduceToNat, Int.reduceGT, Int.reduceGE, ↓reduceIte, decide_true, decide_false, eq_self, Nat.mul_one, Nat.zero_mul, Nat.one_mul, Int.le_refl, Nat.le_refl, Int.cast_ofNat_Int, hz2, List.length_nil]
          first | done | rfl
        · by_cases hlt2 : (j : Int) < T.length
          · obtain ⟨y, hy⟩ := get_lt hlt2
            have hd2 := flat_at Span.cs (n := 2) (fun _ => rfl) hy
            have hc2 : IntKind.i64.wrap (j + 1) = ((j + 1 : Nat) : Int) := by rw [wrap_in (by omega) (by omega)]; omega
            have hs2 := accT_succ B hy
            unfold toolOk at hs2
            cases hok2 : accT B T j <;> cases h4 : spannedB y (-1000) 1000 <;> rw [hok2, h4] at hs2
            all_goals simp (decide := true) (maxSteps := 4000000) only [go_sem, Nat.reduceAdd, Nat.reduceSub, Nat.reduceMul, Nat.reduceDiv, Nat.reduceMod, Nat.reduceLT, Nat.reduceLeDiff, Nat.reduceEqDiff, Nat.reduceBEq, Nat.reduceBNe, Nat.reduceGT, Int.reduceAdd, Int.reduceSub, Int.reduceMul, Int.reduceNeg, Int.reduceLT, Int.reduceLE, Int.reduceEq, Int.reduceNe, Int.reduceBEq, Int.reduceBNe, Int.reduceToNat, Int.reduceGT, Int.reduceGE, ↓reduceIte, decide_true, decide_false, eq_self, Nat.mul_one, Nat.zero_mul, Nat.one_mul, Int.le_refl, Nat.le_refl, Int.cast_ofNat_Int, hlt2, hd2, Span.cs, hok2, h4]
            all_goals refine hI2 _ ⟨j + 1, by omega⟩ (by simp only; omega) ?_
            all_goals simp (decide := true) (maxSteps := 4000000) only [go_sem, Nat.reduceAdd, Nat.reduceSub, Nat.reduceMul, Nat.reduceDiv, Nat.reduceMod, Nat.reduceLT, Nat.reduceLeDiff, Nat.reduceEqDiff, Nat.reduceBEq, Nat.reduceBNe, Nat.reduceGT, Int.reduceAdd, Int.reduceSub, Int.reduceMul, Int.reduceNeg, Int.reduceLT, Int.reduceLE, Int.reduceEq, Int.reduceNe, Int.reduceBEq, Int.reduceBNe, Int.reduceToNat, Int.reduceGT, Int.reduceGE, ↓reduceIte, decide_true, decide_false, eq_self, Nat.mul_one, Nat.zero_mul, Nat.one_mul, Int.le_refl, Nat.le_refl, Int.cast_ofNat_Int, hc2, hs2, Bool.and_true, Bool.and_false, Bool.and_self, Bool.false_and]
          · have hje : j = T.length := by omega
            subst hje
            simp (decide := true) (maxSteps := 4000000) only [go_sem, Nat.reduceAdd, Nat.reduceSub, Nat.reduceMul, Nat.reduceDiv, Nat.reduceMod, Nat.reduceLT, Nat.reduceLeDiff, Nat.reduceEqDiff, Nat.reduceBEq, Nat.reduceBNe, Nat.reduceGT, Int.reduceAdd, Int.reduceSub, Int.reduceMul, Int.reduceNeg, Int.reduceLT, Int.reduceLE, Int.reduceEq, Int.reduceNe, Int.reduceBEq, Int.reduceBNe, Int.reduceToNat, Int.reduceGT, Int.reduceGE, ↓reduceIte, decide_true, decide_false, eq_self, Nat.mul_one, Nat.zero_mul, Nat.one_mul, Int.le_refl, Nat.le_refl, Int.cast_ofNat_Int, hlt2]
            refine hQ2 _ _ ?_
            cases hso : stockOk B T <;> simp (decide := true) (maxSteps := 4000000) only [go_sem, Nat.reduceAdd, Nat.reduceSub, Nat.reduceMul, Nat.reduceDiv, Nat.reduceMod, Nat.reduceLT, Nat.reduceLeDiff, Nat.reduceEqDiff, Nat.reduceBEq, Nat.reduceBNe, Nat.reduceGT, Int.reduceAdd, Int.reduceSub, Int.reduceMul, Int.reduceNeg, Int.reduceLT, Int.reduceLE, Int.reduceEq, Int.reduceNe, Int.reduceBEq, Int.reduceBNe, Int.reduceToNat, Int.reduceGT, Int.reduceGE, ↓reduceIte, decide_true, decide_false, eq_self, Nat.mul_one, Nat.zero_mul, Nat.one_mul, Int.le_refl, Nat.le_refl, Int.cast_ofNat_Int, accT_all, hso]
theorem r4Check_c {B : List Blank} {T : List Span} {sB sT : TV} (hB : IsRow Blank.cs sB B) (hT : IsRow Span.cs sT T) (hlB : B.length ≤ 5864062014806) (hlT : T.length ≤ 9000000000000) : PCalls Try.prog 19 [.agg [sB, sT]] (.int .i64 (if stockOk B T then 0 else 40)) := by
  refine pcalls_by Try.mixes spB3_ok (fn := Try.f19) Try.func19 rfl (by kernel_rfl) (by show 1 ≤ _; decide) ?_
  have hz := accB_zero B T
  have hz2 := accT_zero B T
  have i0 : inB 0 2 8 = false := rfl
  rcases hB with ⟨rfl, rfl⟩ | ⟨fB, rfl⟩ <;> rcases hT with ⟨rfl, rfl⟩ | ⟨fT, rfl⟩
  · simp (decide := true) (maxSteps := 4000000) only [go_sem, Nat.reduceAdd, Nat.reduceSub, Nat.reduceMul, Nat.reduceDiv, Nat.reduceMod, Nat.reduceLT, Nat.reduceLeDiff, Nat.reduceEqDiff, Nat.reduceBEq, Nat.reduceBNe, Nat.reduceGT, Int.reduceAdd, Int.reduceSub, Int.reduceMul, Int.reduceNeg, Int.reduceLT, Int.reduceLE, Int.reduceEq, Int.reduceNe, Int.reduceBEq, Int.reduceBNe, Int.reduceToNat, Int.reduceGT, Int.reduceGE, ↓reduceIte, decide_true, decide_false, eq_self, Nat.mul_one, Nat.zero_mul, Nat.one_mul, Int.le_refl, Nat.le_refl, Int.cast_ofNat_Int, Try.f19, List.length_nil]
    refine pwpC_loopU (A := Unit) [1] (fun _ => [(4, .t (.int .i64 0)), (3, .t (.bool false))]) (fun _ => []) (fun _ => 0) () (by decide) (fun _ => by rfl) ?_ fun Q1 hQ1 _ I1 hI1 => ?_
    · simp (decide := true) (maxSteps := 4000000) only [go_sem, Nat.reduceAdd, Nat.reduceSub, Nat.reduceMul, Nat.reduceDiv, Nat.reduceMod, Nat.reduceLT, Nat.reduceLeDiff, Nat.reduceEqDiff, Nat.reduceBEq, Nat.reduceBNe, Nat.reduceGT, Int.reduceAdd, Int.reduceSub, Int.reduceMul, Int.reduceNeg, Int.reduceLT, Int.reduceLE, Int.reduceEq, Int.reduceNe, Int.reduceBEq, Int.reduceBNe, Int.reduceToNat, Int.reduceGT, Int.reduceGE, ↓reduceIte, decide_true, decide_false, eq_self, Nat.mul_one, Nat.zero_mul, Nat.one_mul, Int.le_refl, Nat.le_refl, Int.cast_ofNat_Int, i0]
      first | done | rfl
    · simp (decide := true) (maxSteps := 4000000) only [go_sem, Nat.reduceAdd, Nat.reduceSub, Nat.reduceMul, Nat.reduceDiv, Nat.reduceMod, Nat.reduceLT, Nat.reduceLeDiff, Nat.reduceEqDiff, Nat.reduceBEq, Nat.reduceBNe, Nat.reduceGT, Int.reduceAdd, Int.reduceSub, Int.reduceMul, Int.reduceNeg, Int.reduceLT, Int.reduceLE, Int.reduceEq, Int.reduceNe, Int.reduceBEq, Int.reduceBNe, Int.reduceToNat, Int.reduceGT, Int.reduceGE, ↓reduceIte, decide_true, decide_false, eq_self, Nat.mul_one, Nat.zero_mul, Nat.one_mul, Int.le_refl, Nat.le_refl, Int.cast_ofNat_Int]
      refine hQ1 _ _ ?_
      have hso : stockOk [] [] = false := accB_false (k := 0) (by rw [hz]; rfl)
      simp (decide := true) (maxSteps := 4000000) only [go_sem, Nat.reduceAdd, Nat.reduceSub, Nat.reduceMul, Nat.reduceDiv, Nat.reduceMod, Nat.reduceLT, Nat.reduceLeDiff, Nat.reduceEqDiff, Nat.reduceBEq, Nat.reduceBNe, Nat.reduceGT, Int.reduceAdd, Int.reduceSub, Int.reduceMul, Int.reduceNeg, Int.reduceLT, Int.reduceLE, Int.reduceEq, Int.reduceNe, Int.reduceBEq, Int.reduceBNe, Int.reduceToNat, Int.reduceGT, Int.reduceGE, ↓reduceIte, decide_true, decide_false, eq_self, Nat.mul_one, Nat.zero_mul, Nat.one_mul, Int.le_refl, Nat.le_refl, Int.cast_ofNat_Int]
      refine pwpC_loopU (A := Unit) [1] (fun _ => [(6, .t (.int .i64 0)), (3, .t (.bool false))]) (fun _ => []) (fun _ => 0) () (by decide) (fun _ => by rfl) ?_ fun Q2 hQ2 _ I2 hI2 => ?_
      · simp (decide := true) (maxSteps := 4000000) only [go_sem, Nat.reduceAdd, Nat.reduceSub, Nat.reduceMul, Nat.reduceDiv, Nat.reduceMod, Nat.reduceLT, Nat.reduceLeDiff, Nat.reduceEqDiff, Nat.reduceBEq, Nat.reduceBNe, Nat.reduceGT, Int.reduceAdd, Int.reduceSub, Int.reduceMul, Int.reduceNeg, Int.reduceLT, Int.reduceLE, Int.reduceEq, Int.reduceNe, Int.reduceBEq, Int.reduceBNe, Int.reduceToNat, Int.reduceGT, Int.reduceGE, ↓reduceIte, decide_true, decide_false, eq_self, Nat.mul_one, Nat.zero_mul, Nat.one_mul, Int.le_refl, Nat.le_refl, Int.cast_ofNat_Int]
        first | done | rfl
      · simp (decide := true) (maxSteps := 4000000) only [go_sem, Nat.reduceAdd, Nat.reduceSub, Nat.reduceMul, Nat.reduceDiv, Nat.reduceMod, Nat.reduceLT, Nat.reduceLeDiff, Nat.reduceEqDiff, Nat.reduceBEq, Nat.reduceBNe, Nat.reduceGT, Int.reduceAdd, Int.reduceSub, Int.reduceMul, Int.reduceNeg, Int.reduceLT, Int.reduceLE, Int.reduceEq, Int.reduceNe, Int.reduceBEq, Int.reduceBNe, Int.reduceToNat, Int.reduceGT, Int.reduceGE, ↓reduceIte, decide_true, decide_false, eq_self, Nat.mul_one, Nat.zero_mul, Nat.one_mul, Int.le_refl, Nat.le_refl, Int.cast_ofNat_Int]
        refine hQ2 _ _ ?_
        simp (decide := true) (maxSteps := 4000000) only [go_sem, Nat.reduceAdd, Nat.reduceSub, Nat.reduceMul, Nat.reduceDiv, Nat.reduceMod, Nat.reduceLT, Nat.reduceLeDiff, Nat.reduceEqDiff, Nat.reduceBEq, Nat.reduceBNe, Nat.reduceGT, Int.reduceAdd, Int.reduceSub, Int.reduceMul, Int.reduceNeg, Int.reduceLT, Int.reduceLE, Int.reduceEq, Int.reduceNe, Int.reduceBEq, Int.reduceBNe, Int.reduceToNat, Int.reduceGT, Int.reduceGE, ↓reduceIte, decide_true, decide_false, eq_self, Nat.mul_one, Nat.zero_mul, Nat.one_mul, Int.le_refl, Nat.le_refl, Int.cast_ofNat_Int, hso]
  · simp (decide := true) (maxSteps := 4000000) only [go_sem, Nat.reduceAdd, Nat.reduceSub, Nat.reduceMul, Nat.reduceDiv, Nat.reduceMod, Nat.reduceLT, Nat.reduceLeDiff, Nat.reduceEqDiff, Nat.reduceBEq, Nat.reduceBNe, Nat.reduceGT, Int.reduceAdd, Int.reduceSub, Int.reduceMul, Int.reduceNeg, Int.reduceLT, Int.reduceLE, Int.reduceEq, Int.reduceNe, Int.reduceBEq, Int.reduceBNe, Int.reduceToNat, Int.reduceGT, Int.reduceGE, ↓reduceIte, decide_true, decide_false, eq_self, Nat.mul_one, Nat.zero_mul, Nat.one_mul, Int.le_refl, Nat.le_refl, Int.cast_ofNat_Int, Try.f19, List.length_nil]
    refine pwpC_loopU (A := Unit) [1] (fun _ => [(4, .t (.int .i64 0)), (3, .t (.bool false))]) (fun _ => []) (fun _ => 0) () (by decide) (fun _ => by rfl) ?_ fun Q1 hQ1 _ I1 hI1 => ?_
    · simp (decide := true) (maxSteps := 4000000) only [go_sem, Nat.reduceAdd, Nat.reduceSub, Nat.reduceMul, Nat.reduceDiv, Nat.reduceMod, Nat.reduceLT, Nat.reduceLeDiff, Nat.reduceEqDiff, Nat.reduceBEq, Nat.reduceBNe, Nat.reduceGT, Int.reduceAdd, Int.reduceSub, Int.reduceMul, Int.reduceNeg, Int.reduceLT, Int.reduceLE, Int.reduceEq, Int.reduceNe, Int.reduceBEq, Int.reduceBNe, Int.reduceToNat, Int.reduceGT, Int.reduceGE, ↓reduceIte, decide_true, decide_false, eq_self, Nat.mul_one, Nat.zero_mul, Nat.one_mul, Int.le_refl, Nat.le_refl, Int.cast_ofNat_Int, i0]
      first | done | rfl
    · simp (decide := true) (maxSteps := 4000000) only [go_sem, Nat.reduceAdd, Nat.reduceSub, Nat.reduceMul, Nat.reduceDiv, Nat.reduceMod, Nat.reduceLT, Nat.reduceLeDiff, Nat.reduceEqDiff, Nat.reduceBEq, Nat.reduceBNe, Nat.reduceGT, Int.reduceAdd, Int.reduceSub, Int.reduceMul, Int.reduceNeg, Int.reduceLT, Int.reduceLE, Int.reduceEq, Int.reduceNe, Int.reduceBEq, Int.reduceBNe, Int.reduceToNat, Int.reduceGT, Int.reduceGE, ↓reduceIte, decide_true, decide_false, eq_self, Nat.mul_one, Nat.zero_mul, Nat.one_mul, Int.le_refl, Nat.le_refl, Int.cast_ofNat_Int]
      refine hQ1 _ _ ?_
      have hso : stockOk [] T = false := accB_false (k := 0) (by rw [hz]; rfl)
      simp (decide := true) (maxSteps := 4000000) only [go_sem, Nat.reduceAdd, Nat.reduceSub, Nat.reduceMul, Nat.reduceDiv, Nat.reduceMod, Nat.reduceLT, Nat.reduceLeDiff, Nat.reduceEqDiff, Nat.reduceBEq, Nat.reduceBNe, Nat.reduceGT, Int.reduceAdd, Int.reduceSub, Int.reduceMul, Int.reduceNeg, Int.reduceLT, Int.reduceLE, Int.reduceEq, Int.reduceNe, Int.reduceBEq, Int.reduceBNe, Int.reduceToNat, Int.reduceGT, Int.reduceGE, ↓reduceIte, decide_true, decide_false, eq_self, Nat.mul_one, Nat.zero_mul, Nat.one_mul, Int.le_refl, Nat.le_refl, Int.cast_ofNat_Int]
      refine pwpC_loopU (A := Unit) [1] (fun _ => [(6, .t (.int .i64 0)), (3, .t (.bool false))]) (fun _ => []) (fun _ => 0) () (by decide) (fun _ => by rfl) ?_ fun Q2 hQ2 _ I2 hI2 => ?_
      · simp (decide := true) (maxSteps := 4000000) only [go_sem, Nat.reduceAdd, Nat.reduceSub, Nat.reduceMul, Nat.reduceDiv, Nat.reduceMod, Nat.reduceLT, Nat.reduceLeDiff, Nat.reduceEqDiff, Nat.reduceBEq, Nat.reduceBNe, Nat.reduceGT, Int.reduceAdd, Int.reduceSub, Int.reduceMul, Int.reduceNeg, Int.reduceLT, Int.reduceLE, Int.reduceEq, Int.reduceNe, Int.reduceBEq, Int.reduceBNe, Int.reduceToNat, Int.reduceGT, Int.reduceGE, ↓reduceIte, decide_true, decide_false, eq_self, Nat.mul_one, Nat.zero_mul, Nat.one_mul, Int.le_refl, Nat.le_refl, Int.cast_ofNat_Int]
        first | done | rfl
      · simp (decide := true) (maxSteps := 4000000) only [go_sem, Nat.reduceAdd, Nat.reduceSub, Nat.reduceMul, Nat.reduceDiv, Nat.reduceMod, Nat.reduceLT, Nat.reduceLeDiff, Nat.reduceEqDiff, Nat.reduceBEq, Nat.reduceBNe, Nat.reduceGT, Int.reduceAdd, Int.reduceSub, Int.reduceMul, Int.reduceNeg, Int.reduceLT, Int.reduceLE, Int.reduceEq, Int.reduceNe, Int.reduceBEq, Int.reduceBNe, Int.reduceToNat, Int.reduceGT, Int.reduceGE, ↓reduceIte, decide_true, decide_false, eq_self, Nat.mul_one, Nat.zero_mul, Nat.one_mul, Int.le_refl, Nat.le_refl, Int.cast_ofNat_Int]
        refine hQ2 _ _ ?_
        simp (decide := true) (maxSteps := 4000000) only [go_sem, Nat.reduceAdd, Nat.reduceSub, Nat.reduceMul, Nat.reduceDiv, Nat.reduceMod, Nat.reduceLT, Nat.reduceLeDiff, Nat.reduceEqDiff, Nat.reduceBEq, Nat.reduceBNe, Nat.reduceGT, Int.reduceAdd, Int.reduceSub, Int.reduceMul, Int.reduceNeg, Int.reduceLT, Int.reduceLE, Int.reduceEq, Int.reduceNe, Int.reduceBEq, Int.reduceBNe, Int.reduceToNat, Int.reduceGT, Int.reduceGE, ↓reduceIte, decide_true, decide_false, eq_self, Nat.mul_one, Nat.zero_mul, Nat.one_mul, Int.le_refl, Nat.le_refl, Int.cast_ofNat_Int, hso]
  · simp (decide := true) (maxSteps := 4000000) only [go_sem, Nat.reduceAdd, Nat.reduceSub, Nat.reduceMul, Nat.reduceDiv, Nat.reduceMod, Nat.reduceLT, Nat.reduceLeDiff, Nat.reduceEqDiff, Nat.reduceBEq, Nat.reduceBNe, Nat.reduceGT, Int.reduceAdd, Int.reduceSub, Int.reduceMul, Int.reduceNeg, Int.reduceLT, Int.reduceLE, Int.reduceEq, Int.reduceNe, Int.reduceBEq, Int.reduceBNe, Int.reduceToNat, Int.reduceGT, Int.reduceGE, ↓reduceIte, decide_true, decide_false, eq_self, Nat.mul_one, Nat.zero_mul, Nat.one_mul, Int.le_refl, Nat.le_refl, Int.cast_ofNat_Int, Try.f19, List.length_nil]
    refine pwpC_loopU (A := { k : Nat // k ≤ B.length }) [1] (fun k => [(4, .t (.int .i64 k.1)), (3, .t (.bool (accB B [] k.1)))]) (fun _ => []) (fun k => B.length - k.1) ⟨0, by omega⟩ (by decide) (fun _ => by rfl) ?_ fun Q1 hQ1 ⟨k, hk⟩ I1 hI1 => ?_
    · simp (decide := true) (maxSteps := 4000000) only [go_sem, Nat.reduceAdd, Nat.reduceSub, Nat.reduceMul, Nat.reduceDiv, Nat.reduceMod, Nat.reduceLT, Nat.reduceLeDiff, Nat.reduceEqDiff, Nat.reduceBEq, Nat.reduceBNe, Nat.reduceGT, Int.reduceAdd, Int.reduceSub, Int.reduceMul, Int.reduceNeg, Int.reduceLT, Int.reduceLE, Int.reduceEq, Int.reduceNe, Int.reduceBEq, Int.reduceBNe, Int.reduceToNat, Int.reduceGT, Int.reduceGE, ↓reduceIte, decide_true, decide_false, eq_self, Nat.mul_one, Nat.zero_mul, Nat.one_mul, Int.le_refl, Nat.le_refl, Int.cast_ofNat_Int, hz, List.length_nil]
      first | done | rfl
    · cases hok : accB B [] k with
      | false =>
        simp (decide := true) (maxSteps := 4000000) only [go_sem, Nat.reduceAdd, Nat.reduceSub, Nat.reduceMul, Nat.reduceDiv, Nat.reduceMod, Nat.reduceLT, Nat.reduceLeDiff, Nat.reduceEqDiff, Nat.reduceBEq, Nat.reduceBNe, Nat.reduceGT, Int.reduceAdd, Int.reduceSub, Int.reduceMul, Int.reduceNeg, Int.reduceLT, Int.reduceLE, Int.reduceEq, Int.reduceNe, Int.reduceBEq, Int.reduceBNe, Int.reduceToNat, Int.reduceGT, Int.reduceGE, ↓reduceIte, decide_true, decide_false, eq_self, Nat.mul_one, Nat.zero_mul, Nat.one_mul, Int.le_refl, Nat.le_refl, Int.cast_ofNat_Int, hok]
        refine hQ1 _ _ ?_
        have hso := accB_false hok
        simp (decide := true) (maxSteps := 4000000) only [go_sem, Nat.reduceAdd, Nat.reduceSub, Nat.reduceMul, Nat.reduceDiv, Nat.reduceMod, Nat.reduceLT, Nat.reduceLeDiff, Nat.reduceEqDiff, Nat.reduceBEq, Nat.reduceBNe, Nat.reduceGT, Int.reduceAdd, Int.reduceSub, Int.reduceMul, Int.reduceNeg, Int.reduceLT, Int.reduceLE, Int.reduceEq, Int.reduceNe, Int.reduceBEq, Int.reduceBNe, Int.reduceToNat, Int.reduceGT, Int.reduceGE, ↓reduceIte, decide_true, decide_false, eq_self, Nat.mul_one, Nat.zero_mul, Nat.one_mul, Int.le_refl, Nat.le_refl, Int.cast_ofNat_Int]
        refine pwpC_loopU (A := Unit) [1] (fun _ => [(6, .t (.int .i64 0)), (3, .t (.bool false))]) (fun _ => []) (fun _ => 0) () (by decide) (fun _ => by rfl) ?_ fun Q2 hQ2 _ I2 hI2 => ?_
        · simp (decide := true) (maxSteps := 4000000) only [go_sem, Nat.reduceAdd, Nat.reduceSub, Nat.reduceMul, Nat.reduceDiv, Nat.reduceMod, Nat.reduceLT, Nat.reduceLeDiff, Nat.reduceEqDiff, Nat.reduceBEq, Nat.reduceBNe, Nat.reduceGT, Int.reduceAdd, Int.reduceSub, Int.reduceMul, Int.reduceNeg, Int.reduceLT, Int.reduceLE, Int.reduceEq, Int.reduceNe, Int.reduceBEq, Int.reduceBNe, Int.reduceToNat, Int.reduceGT, Int.reduceGE, ↓reduceIte, decide_true, decide_false, eq_self, Nat.mul_one, Nat.zero_mul, Nat.one_mul, Int.le_refl, Nat.le_refl, Int.cast_ofNat_Int]
          first | done | rfl
        · simp (decide := true) (maxSteps := 4000000) only [go_sem, Nat.reduceAdd, Nat.reduceSub, Nat.reduceMul, Nat.reduceDiv, Nat.reduceMod, Nat.reduceLT, Nat.reduceLeDiff, Nat.reduceEqDiff, Nat.reduceBEq, Nat.reduceBNe, Nat.reduceGT, Int.reduceAdd, Int.reduceSub, Int.reduceMul, Int.reduceNeg, Int.reduceLT, Int.reduceLE, Int.reduceEq, Int.reduceNe, Int.reduceBEq, Int.reduceBNe, Int.reduceToNat, Int.reduceGT, Int.reduceGE, ↓reduceIte, decide_true, decide_false, eq_self, Nat.mul_one, Nat.zero_mul, Nat.one_mul, Int.le_refl, Nat.le_refl, Int.cast_ofNat_Int]
          refine hQ2 _ _ ?_
          simp (decide := true) (maxSteps := 4000000) only [go_sem, Nat.reduceAdd, Nat.reduceSub, Nat.reduceMul, Nat.reduceDiv, Nat.reduceMod, Nat.reduceLT, Nat.reduceLeDiff, Nat.reduceEqDiff, Nat.reduceBEq, Nat.reduceBNe, Nat.reduceGT, Int.reduceAdd, Int.reduceSub, Int.reduceMul, Int.reduceNeg, Int.reduceLT, Int.reduceLE, Int.reduceEq, Int.reduceNe, Int.reduceBEq, Int.reduceBNe, Int.reduceToNat, Int.reduceGT, Int.reduceGE, ↓reduceIte, decide_true, decide_false, eq_self, Nat.mul_one, Nat.zero_mul, Nat.one_mul, Int.le_refl, Nat.le_refl, Int.cast_ofNat_Int, hso]
      | true =>
        by_cases hlt : (k : Int) < B.length
        · obtain ⟨x, hx⟩ := get_lt hlt
          have hd := flat_at Blank.cs (n := 5) (fun _ => rfl) hx
          have hc1 : IntKind.i64.wrap (k + 1) = ((k + 1 : Nat) : Int) := by rw [wrap_in (by omega) (by omega)]; omega
          have hs := accB_succ [] hx
          unfold blankOk at hs
          cases h1 : spannedB x.i 1 100000 <;> cases h2 : spannedB x.c 1 5000 <;> cases h3 : inB x.pr 0 1000000 <;> rw [hok, h1, h2, h3] at hs
          all_goals simp (decide := true) (maxSteps := 4000000) only [go_sem, Nat.reduceAdd, Nat.reduceSub, Nat.reduceMul, Nat.reduceDiv, Nat.reduceMod, Nat.reduceLT, Nat.reduceLeDiff, Nat.reduceEqDiff, Nat.reduceBEq, Nat.reduceBNe, Nat.reduceGT, Int.reduceAdd, Int.reduceSub, Int.reduceMul, Int.reduceNeg, Int.reduceLT, Int.reduceLE, Int.reduceEq, Int.reduceNe, Int.reduceBEq, Int.reduceBNe, Int.reduceToNat, Int.reduceGT, Int.reduceGE, ↓reduceIte, decide_true, decide_false, eq_self, Nat.mul_one, Nat.zero_mul, Nat.one_mul, Int.le_refl, Nat.le_refl, Int.cast_ofNat_Int, hlt, hd, Blank.cs, hok, h1, h2, h3]
          all_goals refine hI1 _ ⟨k + 1, by omega⟩ (by simp only; omega) ?_
          all_goals simp (decide := true) (maxSteps := 4000000) only [go_sem, Nat.reduceAdd, Nat.reduceSub, Nat.reduceMul, Nat.reduceDiv, Nat.reduceMod, Nat.reduceLT, Nat.reduceLeDiff, Nat.reduceEqDiff, Nat.reduceBEq, Nat.reduceBNe, Nat.reduceGT, Int.reduceAdd, Int.reduceSub, Int.reduceMul, Int.reduceNeg, Int.reduceLT, Int.reduceLE, Int.reduceEq, Int.reduceNe, Int.reduceBEq, Int.reduceBNe, Int.reduceToNat, Int.reduceGT, Int.reduceGE, ↓reduceIte, decide_true, decide_false, eq_self, Nat.mul_one, Nat.zero_mul, Nat.one_mul, Int.le_refl, Nat.le_refl, Int.cast_ofNat_Int, hc1, hs, Bool.and_true, Bool.and_false, Bool.and_self, Bool.false_and]
        · have hke : k = B.length := by omega
          subst hke
          simp (decide := true) (maxSteps := 4000000) only [go_sem, Nat.reduceAdd, Nat.reduceSub, Nat.reduceMul, Nat.reduceDiv, Nat.reduceMod, Nat.reduceLT, Nat.reduceLeDiff, Nat.reduceEqDiff, Nat.reduceBEq, Nat.reduceBNe, Nat.reduceGT, Int.reduceAdd, Int.reduceSub, Int.reduceMul, Int.reduceNeg, Int.reduceLT, Int.reduceLE, Int.reduceEq, Int.reduceNe, Int.reduceBEq, Int.reduceBNe, Int.reduceToNat, Int.reduceGT, Int.reduceGE, ↓reduceIte, decide_true, decide_false, eq_self, Nat.mul_one, Nat.zero_mul, Nat.one_mul, Int.le_refl, Nat.le_refl, Int.cast_ofNat_Int, hlt, hok]
          refine hQ1 _ _ ?_
          simp (decide := true) (maxSteps := 4000000) only [go_sem, Nat.reduceAdd, Nat.reduceSub, Nat.reduceMul, Nat.reduceDiv, Nat.reduceMod, Nat.reduceLT, Nat.reduceLeDiff, Nat.reduceEqDiff, Nat.reduceBEq, Nat.reduceBNe, Nat.reduceGT, Int.reduceAdd, Int.reduceSub, Int.reduceMul, Int.reduceNeg, Int.reduceLT, Int.reduceLE, Int.reduceEq, Int.reduceNe, Int.reduceBEq, Int.reduceBNe, Int.reduceToNat, Int.reduceGT, Int.reduceGE, ↓reduceIte, decide_true, decide_false, eq_self, Nat.mul_one, Nat.zero_mul, Nat.one_mul, Int.le_refl, Nat.le_refl, Int.cast_ofNat_Int]
          refine pwpC_loopU (A := Unit) [1] (fun _ => [(6, .t (.int .i64 0)), (3, .t (.bool false))]) (fun _ => []) (fun _ => 0) () (by decide) (fun _ => by rfl) ?_ fun Q2 hQ2 _ I2 hI2 => ?_
          · exfalso
            simp [accB, inB] at hok
          · exfalso
            simp [accB, inB] at hok
  · simp (decide := true) (maxSteps := 4000000) only [go_sem, Nat.reduceAdd, Nat.reduceSub, Nat.reduceMul, Nat.reduceDiv, Nat.reduceMod, Nat.reduceLT, Nat.reduceLeDiff, Nat.reduceEqDiff, Nat.reduceBEq, Nat.reduceBNe, Nat.reduceGT, Int.reduceAdd, Int.reduceSub, Int.reduceMul, Int.reduceNeg, Int.reduceLT, Int.reduceLE, Int.reduceEq, Int.reduceNe, Int.reduceBEq, Int.reduceBNe, Int.reduceToNat, Int.reduceGT, Int.reduceGE, ↓reduceIte, decide_true, decide_false, eq_self, Nat.mul_one, Nat.zero_mul, Nat.one_mul, Int.le_refl, Nat.le_refl, Int.cast_ofNat_Int, Try.f19, List.length_nil]
    refine pwpC_loopU (A := { k : Nat // k ≤ B.length }) [1] (fun k => [(4, .t (.int .i64 k.1)), (3, .t (.bool (accB B T k.1)))]) (fun _ => []) (fun k => B.length - k.1) ⟨0, by omega⟩ (by decide) (fun _ => by rfl) ?_ fun Q1 hQ1 ⟨k, hk⟩ I1 hI1 => ?_
    · simp (decide := true) (maxSteps := 4000000) only [go_sem, Nat.reduceAdd, Nat.reduceSub, Nat.reduceMul, Nat.reduceDiv, Nat.reduceMod, Nat.reduceLT, Nat.reduceLeDiff, Nat.reduceEqDiff, Nat.reduceBEq, Nat.reduceBNe, Nat.reduceGT, Int.reduceAdd, Int.reduceSub, Int.reduceMul, Int.reduceNeg, Int.reduceLT, Int.reduceLE, Int.reduceEq, Int.reduceNe, Int.reduceBEq, Int.reduceBNe, Int.reduceToNat, Int.reduceGT, Int.reduceGE, ↓reduceIte, decide_true, decide_false, eq_self, Nat.mul_one, Nat.zero_mul, Nat.one_mul, Int.le_refl, Nat.le_refl, Int.cast_ofNat_Int, hz, List.length_nil]
      first | done | rfl
    · cases hok : accB B T k with
      | false =>
        simp (decide := true) (maxSteps := 4000000) only [go_sem, Nat.reduceAdd, Nat.reduceSub, Nat.reduceMul, Nat.reduceDiv, Nat.reduceMod, Nat.reduceLT, Nat.reduceLeDiff, Nat.reduceEqDiff, Nat.reduceBEq, Nat.reduceBNe, Nat.reduceGT, Int.reduceAdd, Int.reduceSub, Int.reduceMul, Int.reduceNeg, Int.reduceLT, Int.reduceLE, Int.reduceEq, Int.reduceNe, Int.reduceBEq, Int.reduceBNe, Int.reduceToNat, Int.reduceGT, Int.reduceGE, ↓reduceIte, decide_true, decide_false, eq_self, Nat.mul_one, Nat.zero_mul, Nat.one_mul, Int.le_refl, Nat.le_refl, Int.cast_ofNat_Int, hok]
        refine hQ1 _ _ ?_
        have hso := accB_false hok
        simp (decide := true) (maxSteps := 4000000) only [go_sem, Nat.reduceAdd, Nat.reduceSub, Nat.reduceMul, Nat.reduceDiv, Nat.reduceMod, Nat.reduceLT, Nat.reduceLeDiff, Nat.reduceEqDiff, Nat.reduceBEq, Nat.reduceBNe, Nat.reduceGT, Int.reduceAdd, Int.reduceSub, Int.reduceMul, Int.reduceNeg, Int.reduceLT, Int.reduceLE, Int.reduceEq, Int.reduceNe, Int.reduceBEq, Int.reduceBNe, Int.reduceToNat, Int.reduceGT, Int.reduceGE, ↓reduceIte, decide_true, decide_false, eq_self, Nat.mul_one, Nat.zero_mul, Nat.one_mul, Int.le_refl, Nat.le_refl, Int.cast_ofNat_Int]
        refine pwpC_loopU (A := Unit) [1] (fun _ => [(6, .t (.int .i64 0)), (3, .t (.bool false))]) (fun _ => []) (fun _ => 0) () (by decide) (fun _ => by rfl) ?_ fun Q2 hQ2 _ I2 hI2 => ?_
        · simp (decide := true) (maxSteps := 4000000) only [go_sem, Nat.reduceAdd, Nat.reduceSub, Nat.reduceMul, Nat.reduceDiv, Nat.reduceMod, Nat.reduceLT, Nat.reduceLeDiff, Nat.reduceEqDiff, Nat.reduceBEq, Nat.reduceBNe, Nat.reduceGT, Int.reduceAdd, Int.reduceSub, Int.reduceMul, Int.reduceNeg, Int.reduceLT, Int.reduceLE, Int.reduceEq, Int.reduceNe, Int.reduceBEq, Int.reduceBNe, Int.reduceToNat, Int.reduceGT, Int.reduceGE, ↓reduceIte, decide_true, decide_false, eq_self, Nat.mul_one, Nat.zero_mul, Nat.one_mul, Int.le_refl, Nat.le_refl, Int.cast_ofNat_Int]
          first | done | rfl
        · simp (decide := true) (maxSteps := 4000000) only [go_sem, Nat.reduceAdd, Nat.reduceSub, Nat.reduceMul, Nat.reduceDiv, Nat.reduceMod, Nat.reduceLT, Nat.reduceLeDiff, Nat.reduceEqDiff, Nat.reduceBEq, Nat.reduceBNe, Nat.reduceGT, Int.reduceAdd, Int.reduceSub, Int.reduceMul, Int.reduceNeg, Int.reduceLT, Int.reduceLE, Int.reduceEq, Int.reduceNe, Int.reduceBEq, Int.reduceBNe, Int.reduceToNat, Int.reduceGT, Int.reduceGE, ↓reduceIte, decide_true, decide_false, eq_self, Nat.mul_one, Nat.zero_mul, Nat.one_mul, Int.le_refl, Nat.le_refl, Int.cast_ofNat_Int]
          refine hQ2 _ _ ?_
          simp (decide := true) (maxSteps := 4000000) only [go_sem, Nat.reduceAdd, Nat.reduceSub, Nat.reduceMul, Nat.reduceDiv, Nat.reduceMod, Nat.reduceLT, Nat.reduceLeDiff, Nat.reduceEqDiff, Nat.reduceBEq, Nat.reduceBNe, Nat.reduceGT, Int.reduceAdd, Int.reduceSub, Int.reduceMul, Int.reduceNeg, Int.reduceLT, Int.reduceLE, Int.reduceEq, Int.reduceNe, Int.reduceBEq, Int.reduceBNe, Int.reduceToNat, Int.reduceGT, Int.reduceGE, ↓reduceIte, decide_true, decide_false, eq_self, Nat.mul_one, Nat.zero_mul, Nat.one_mul, Int.le_refl, Nat.le_refl, Int.cast_ofNat_Int, hso]
      | true =>
        by_cases hlt : (k : Int) < B.length
        · obtain ⟨x, hx⟩ := get_lt hlt
          have hd := flat_at Blank.cs (n := 5) (fun _ => rfl) hx
          have hc1 : IntKind.i64.wrap (k + 1) = ((k + 1 : Nat) : Int) := by rw [wrap_in (by omega) (by omega)]; omega
          have hs := accB_succ T hx
          unfold blankOk at hs
          cases h1 : spannedB x.i 1 100000 <;> cases h2 : spannedB x.c 1 5000 <;> cases h3 : inB x.pr 0 1000000 <;> rw [hok, h1, h2, h3] at hs
          all_goals simp (decide := true) (maxSteps := 4000000) only [go_sem, Nat.reduceAdd, Nat.reduceSub, Nat.reduceMul, Nat.reduceDiv, Nat.reduceMod, Nat.reduceLT, Nat.reduceLeDiff, Nat.reduceEqDiff, Nat.reduceBEq, Nat.reduceBNe, Nat.reduceGT, Int.reduceAdd, Int.reduceSub, Int.reduceMul, Int.reduceNeg, Int.reduceLT, Int.reduceLE, Int.reduceEq, Int.reduceNe, Int.reduceBEq, Int.reduceBNe, Int.reduceToNat, Int.reduceGT, Int.reduceGE, ↓reduceIte, decide_true, decide_false, eq_self, Nat.mul_one, Nat.zero_mul, Nat.one_mul, Int.le_refl, Nat.le_refl, Int.cast_ofNat_Int, hlt, hd, Blank.cs, hok, h1, h2, h3]
          all_goals refine hI1 _ ⟨k + 1, by omega⟩ (by simp only; omega) ?_
          all_goals simp (decide := true) (maxSteps := 4000000) only [go_sem, Nat.reduceAdd, Nat.reduceSub, Nat.reduceMul, Nat.reduceDiv, Nat.reduceMod, Nat.reduceLT, Nat.reduceLeDiff, Nat.reduceEqDiff, Nat.reduceBEq, Nat.reduceBNe, Nat.reduceGT, Int.reduceAdd, Int.reduceSub, Int.reduceMul, Int.reduceNeg, Int.reduceLT, Int.reduceLE, Int.reduceEq, Int.reduceNe, Int.reduceBEq, Int.reduceBNe, Int.reduceToNat, Int.reduceGT, Int.reduceGE, ↓reduceIte, decide_true, decide_false, eq_self, Nat.mul_one, Nat.zero_mul, Nat.one_mul, Int.le_refl, Nat.le_refl, Int.cast_ofNat_Int, hc1, hs, Bool.and_true, Bool.and_false, Bool.and_self, Bool.false_and]
        · have hke : k = B.length := by omega
          subst hke
          simp (decide := true) (maxSteps := 4000000) only [go_sem, Nat.reduceAdd, Nat.reduceSub, Nat.reduceMul, Nat.reduceDiv, Nat.reduceMod, Nat.reduceLT, Nat.reduceLeDiff, Nat.reduceEqDiff, Nat.reduceBEq, Nat.reduceBNe, Nat.reduceGT, Int.reduceAdd, Int.reduceSub, Int.reduceMul, Int.reduceNeg, Int.reduceLT, Int.reduceLE, Int.reduceEq, Int.reduceNe, Int.reduceBEq, Int.reduceBNe, Int.reduceToNat, Int.reduceGT, Int.reduceGE, ↓reduceIte, decide_true, decide_false, eq_self, Nat.mul_one, Nat.zero_mul, Nat.one_mul, Int.le_refl, Nat.le_refl, Int.cast_ofNat_Int, hlt, hok]
          refine hQ1 _ _ ?_
          simp (decide := true) (maxSteps := 4000000) only [go_sem, Nat.reduceAdd, Nat.reduceSub, Nat.reduceMul, Nat.reduceDiv, Nat.reduceMod, Nat.reduceLT, Nat.reduceLeDiff, Nat.reduceEqDiff, Nat.reduceBEq, Nat.reduceBNe, Nat.reduceGT, Int.reduceAdd, Int.reduceSub, Int.reduceMul, Int.reduceNeg, Int.reduceLT, Int.reduceLE, Int.reduceEq, Int.reduceNe, Int.reduceBEq, Int.reduceBNe, Int.reduceToNat, Int.reduceGT, Int.reduceGE, ↓reduceIte, decide_true, decide_false, eq_self, Nat.mul_one, Nat.zero_mul, Nat.one_mul, Int.le_refl, Nat.le_refl, Int.cast_ofNat_Int]
          refine pwpC_loopU (A := { k : Nat // k ≤ T.length }) [1] (fun k => [(6, .t (.int .i64 k.1)), (3, .t (.bool (accT B T k.1)))]) (fun _ => []) (fun k => T.length - k.1) ⟨0, by omega⟩ (by decide) (fun _ => by rfl) ?_ fun Q2 hQ2 ⟨j, hj⟩ I2 hI2 => ?_
          · simp (decide := true) (maxSteps := 4000000) only [go_sem, Nat.reduceAdd, Nat.reduceSub, Nat.reduceMul, Nat.reduceDiv, Nat.reduceMod, Nat.reduceLT, Nat.reduceLeDiff, Nat.reduceEqDiff, Nat.reduceBEq, Nat.reduceBNe, Nat.reduceGT, Int.reduceAdd, Int.reduceSub, Int.reduceMul, Int.reduceNeg, Int.reduceLT, Int.reduceLE, Int.reduceEq, Int.reduceNe, Int.reduceBEq, Int.reduceBNe, Int.reduceToNat, Int.reduceGT, Int.reduceGE, ↓reduceIte, decide_true, decide_false, eq_self, Nat.mul_one, Nat.zero_mul, Nat.one_mul, Int.le_refl, Nat.le_refl, Int.cast_ofNat_Int, hz2, hok]
            first | done | rfl
          · cases hok2 : accT B T j with
            | false =>
              simp (decide := true) (maxSteps := 4000000) only [go_sem, Nat.reduceAdd, Nat.reduceSub, Nat.reduceMul, Nat.reduceDiv, Nat.reduceMod, Nat.reduceLT, Nat.reduceLeDiff, Nat.reduceEqDiff, Nat.reduceBEq, Nat.reduceBNe, Nat.reduceGT, Int.reduceAdd, Int.reduceSub, Int.reduceMul, Int.reduceNeg, Int.reduceLT, Int.reduceLE, Int.reduceEq, Int.reduceNe, Int.reduceBEq, Int.reduceBNe, Int.reduceToNat, Int.reduceGT, Int.reduceGE, ↓reduceIte, decide_true, decide_false, eq_self, Nat.mul_one, Nat.zero_mul, Nat.one_mul, Int.le_refl, Nat.le_refl, Int.cast_ofNat_Int, hok2]
              refine hQ2 _ _ ?_
              have hso := accT_false hok2
              simp (decide := true) (maxSteps := 4000000) only [go_sem, Nat.reduceAdd, Nat.reduceSub, Nat.reduceMul, Nat.reduceDiv, Nat.reduceMod, Nat.reduceLT, Nat.reduceLeDiff, Nat.reduceEqDiff, Nat.reduceBEq, Nat.reduceBNe, Nat.reduceGT, Int.reduceAdd, Int.reduceSub, Int.reduceMul, Int.reduceNeg, Int.reduceLT, Int.reduceLE, Int.reduceEq, Int.reduceNe, Int.reduceBEq, Int.reduceBNe, Int.reduceToNat, Int.reduceGT, Int.reduceGE, ↓reduceIte, decide_true, decide_false, eq_self, Nat.mul_one, Nat.zero_mul, Nat.one_mul, Int.le_refl, Nat.le_refl, Int.cast_ofNat_Int, hso, hok2]
            | true =>
              by_cases hlt2 : (j : Int) < T.length
              · obtain ⟨y, hy⟩ := get_lt hlt2
                have hd2 := flat_at Span.cs (n := 2) (fun _ => rfl) hy
                have hc2 : IntKind.i64.wrap (j + 1) = ((j + 1 : Nat) : Int) := by rw [wrap_in (by omega) (by omega)]; omega
                have hs2 := accT_succ B hy
                unfold toolOk at hs2
                cases h4 : spannedB y (-1000) 1000 <;> rw [hok2, h4] at hs2
                all_goals simp (decide := true) (maxSteps := 4000000) only [go_sem, Nat.reduceAdd, Nat.reduceSub, Nat.reduceMul, Nat.reduceDiv, Nat.reduceMod, Nat.reduceLT, Nat.reduceLeDiff, Nat.reduceEqDiff, Nat.reduceBEq, Nat.reduceBNe, Nat.reduceGT, Int.reduceAdd, Int.reduceSub, Int.reduceMul, Int.reduceNeg, Int.reduceLT, Int.reduceLE, Int.reduceEq, Int.reduceNe, Int.reduceBEq, Int.reduceBNe, Int.reduceToNat, Int.reduceGT, Int.reduceGE, ↓reduceIte, decide_true, decide_false, eq_self, Nat.mul_one, Nat.zero_mul, Nat.one_mul, Int.le_refl, Nat.le_refl, Int.cast_ofNat_Int, hlt2, hd2, Span.cs, hok2, h4]
                all_goals refine hI2 _ ⟨j + 1, by omega⟩ (by simp only; omega) ?_
                all_goals simp (decide := true) (maxSteps := 4000000) only [go_sem, Nat.reduceAdd, Nat.reduceSub, Nat.reduceMul, Nat.reduceDiv, Nat.reduceMod, Nat.reduceLT, Nat.reduceLeDiff, Nat.reduceEqDiff, Nat.reduceBEq, Nat.reduceBNe, Nat.reduceGT, Int.reduceAdd, Int.reduceSub, Int.reduceMul, Int.reduceNeg, Int.reduceLT, Int.reduceLE, Int.reduceEq, Int.reduceNe, Int.reduceBEq, Int.reduceBNe, Int.reduceToNat, Int.reduceGT, Int.reduceGE, ↓reduceIte, decide_true, decide_false, eq_self, Nat.mul_one, Nat.zero_mul, Nat.one_mul, Int.le_refl, Nat.le_refl, Int.cast_ofNat_Int, hc2, hs2, Bool.and_true, Bool.and_false, Bool.and_self, Bool.false_and]
              · have hje : j = T.length := by omega
                subst hje
                simp (decide := true) (maxSteps := 4000000) only [go_sem, Nat.reduceAdd, Nat.reduceSub, Nat.reduceMul, Nat.reduceDiv, Nat.reduceMod, Nat.reduceLT, Nat.reduceLeDiff, Nat.reduceEqDiff, Nat.reduceBEq, Nat.reduceBNe, Nat.reduceGT, Int.reduceAdd, Int.reduceSub, Int.reduceMul, Int.reduceNeg, Int.reduceLT, Int.reduceLE, Int.reduceEq, Int.reduceNe, Int.reduceBEq, Int.reduceBNe, Int.reduceToNat, Int.reduceGT, Int.reduceGE, ↓reduceIte, decide_true, decide_false, eq_self, Nat.mul_one, Nat.zero_mul, Nat.one_mul, Int.le_refl, Nat.le_refl, Int.cast_ofNat_Int, hlt2, hok2]
                refine hQ2 _ _ ?_
                rw [accT_all] at hok2
                simp (decide := true) (maxSteps := 4000000) only [go_sem, Nat.reduceAdd, Nat.reduceSub, Nat.reduceMul, Nat.reduceDiv, Nat.reduceMod, Nat.reduceLT, Nat.reduceLeDiff, Nat.reduceEqDiff, Nat.reduceBEq, Nat.reduceBNe, Nat.reduceGT, Int.reduceAdd, Int.reduceSub, Int.reduceMul, Int.reduceNeg, Int.reduceLT, Int.reduceLE, Int.reduceEq, Int.reduceNe, Int.reduceBEq, Int.reduceBNe, Int.reduceToNat, Int.reduceGT, Int.reduceGE, ↓reduceIte, decide_true, decide_false, eq_self, Nat.mul_one, Nat.zero_mul, Nat.one_mul, Int.le_refl, Nat.le_refl, Int.cast_ofNat_Int, accT_all, hok2]
noncomputable def glCheck : List TV → Option TV
  | [.agg [sB, sT]] => match rowL unBlanks sB, rowL unSpans sT with
    | some B, some T => if B.length ≤ 5864062014806 ∧ T.length ≤ 9000000000000 then some (.int .i64 (if stockOk B T then 0 else 40)) else none
    | _, _ => none
  | _ => none
theorem glCheck_ok : ∀ xs r, glCheck xs = some r → PCalls Try.prog 18 xs r := by
  intro xs r h
  unfold glCheck at h
  split at h
  · split at h
    · rename_i B T hB hT
      split at h
      · rename_i hc; cases h
        exact gCheck_c (rowL_some (un := unBlanks) rfl (@unBlanks_some) hB) (rowL_some (un := unSpans) rfl (@unSpans_some) hT) hc.1 hc.2
      · cases h
    · cases h
  · cases h
theorem r4Check_ok : ∀ xs r, glCheck xs = some r → PCalls Try.prog 19 xs r := by
  intro xs r h
  unfold glCheck at h
  split at h
  · split at h
    · rename_i B T hB hT
      split at h
      · rename_i hc; cases h
        exact r4Check_c (rowL_some (un := unBlanks) rfl (@unBlanks_some) hB) (rowL_some (un := unSpans) rfl (@unSpans_some) hT) hc.1 hc.2
      · cases h
    · cases h
  · cases h
attribute [go_sem] glCheck
end Go.Proofs.Ytcjcnmpecmbdeaa
