/- What the claim leans on, text 4. -/
import Derived.Test.YtadkjjnnnkfalaaRows
import Derived.Test.YtadkjjnnnkfalaaC3
set_option linter.unusedSimpArgs false
set_option linter.unusedVariables false

/- Part Ty. -/
namespace Go.Proofs.Ytadkjjnnnkfalaa
open Go.Pm
@[go_sem] theorem Try.agg1 : aggO Try.prog 1 = some false := by kernel_rfl
@[go_sem] theorem Try.pln1 : plainO Try.prog 1 = some true := by kernel_rfl
@[go_sem] theorem Try.sz1 : szO Try.prog 1 = some 1 := by kernel_rfl
@[go_sem] theorem Try.zero1 : zeroL Try.prog 1 = some [.nilFn] := by kernel_rfl
@[go_sem] theorem Try.small1 : smallO Try.prog 1 = some (1, 8) := by kernel_rfl
@[go_sem] theorem Try.zt1 : zeroT Try.prog 1 = some (.nilFn) := by kernel_rfl
@[go_sem] theorem Try.agg2 : aggO Try.prog 2 = some false := by kernel_rfl
@[go_sem] theorem Try.pln2 : plainO Try.prog 2 = some true := by kernel_rfl
@[go_sem] theorem Try.sz2 : szO Try.prog 2 = some 1 := by kernel_rfl
@[go_sem] theorem Try.zero2 : zeroL Try.prog 2 = some [.int .i64 0] := by kernel_rfl
@[go_sem] theorem Try.small2 : smallO Try.prog 2 = some (1, 8) := by kernel_rfl
@[go_sem] theorem Try.zt2 : zeroT Try.prog 2 = some (.int .i64 0) := by kernel_rfl
@[go_sem] theorem Try.knd2 : kindO Try.prog 2 = some .i64 := by kernel_rfl
@[go_sem] theorem Try.und2 : Program.underlying Try.prog 2 = some (.int .i64) := by kernel_rfl
@[go_sem] theorem Try.agg3 : aggO Try.prog 3 = some false := by kernel_rfl
@[go_sem] theorem Try.pln3 : plainO Try.prog 3 = some true := by kernel_rfl
@[go_sem] theorem Try.sz3 : szO Try.prog 3 = some 1 := by kernel_rfl
@[go_sem] theorem Try.zero3 : zeroL Try.prog 3 = some [.int .i64 0] := by kernel_rfl
@[go_sem] theorem Try.small3 : smallO Try.prog 3 = some (1, 8) := by kernel_rfl
@[go_sem] theorem Try.zt3 : zeroT Try.prog 3 = some (.int .i64 0) := by kernel_rfl
@[go_sem] theorem Try.knd3 : kindO Try.prog 3 = some .i64 := by kernel_rfl
@[go_sem] theorem Try.und3 : Program.underlying Try.prog 3 = some (.int .i64) := by kernel_rfl
@[go_sem] theorem Try.agg4 : aggO Try.prog 4 = some false := by kernel_rfl
@[go_sem] theorem Try.pln4 : plainO Try.prog 4 = some true := by kernel_rfl
@[go_sem] theorem Try.sz4 : szO Try.prog 4 = some 1 := by kernel_rfl
@[go_sem] theorem Try.zero4 : zeroL Try.prog 4 = some [.bool false] := by kernel_rfl
@[go_sem] theorem Try.small4 : smallO Try.prog 4 = some (1, 1) := by kernel_rfl
@[go_sem] theorem Try.zt4 : zeroT Try.prog 4 = some (.bool false) := by kernel_rfl
@[go_sem] theorem Try.eq4 (a b : Bool) : eqT Try.prog 20 4 (.bool a) (.bool b) = some (a == b) := by kernel_rfl
@[go_sem] theorem Try.und4 : Program.underlying Try.prog 4 = some .bool := by kernel_rfl
@[go_sem] theorem Try.agg5 : aggO Try.prog 5 = some false := by kernel_rfl
@[go_sem] theorem Try.pln5 : plainO Try.prog 5 = some true := by kernel_rfl
@[go_sem] theorem Try.sz5 : szO Try.prog 5 = some 1 := by kernel_rfl
@[go_sem] theorem Try.zero5 : zeroL Try.prog 5 = some [.int .u8 0] := by kernel_rfl
@[go_sem] theorem Try.small5 : smallO Try.prog 5 = some (1, 1) := by kernel_rfl
@[go_sem] theorem Try.zt5 : zeroT Try.prog 5 = some (.int .u8 0) := by kernel_rfl
@[go_sem] theorem Try.knd5 : kindO Try.prog 5 = some .u8 := by kernel_rfl
@[go_sem] theorem Try.und5 : Program.underlying Try.prog 5 = some (.int .u8) := by kernel_rfl
@[go_sem] theorem Try.agg7 : aggO Try.prog 7 = some true := by kernel_rfl
@[go_sem] theorem Try.pln7 : plainO Try.prog 7 = some true := by kernel_rfl
@[go_sem] theorem Try.sz7 : szO Try.prog 7 = some 4 := by kernel_rfl
@[go_sem] theorem Try.zero7 : zeroL Try.prog 7 = some [.int .i64 0, .int .i64 0, .bool false, .int .u8 0] := by kernel_rfl
@[go_sem] theorem Try.small7 : smallO Try.prog 7 = some (4, 24) := by kernel_rfl
@[go_sem] theorem Try.zt7 : zeroT Try.prog 7 = some (.agg [.int .i64 0, .int .i64 0, .bool false, .int .u8 0]) := by kernel_rfl
@[go_sem] theorem Try.fld7_0 : fieldO Try.prog 7 0 = some (0, 2) := by kernel_rfl
@[go_sem] theorem Try.fld7_1 : fieldO Try.prog 7 1 = some (1, 3) := by kernel_rfl
@[go_sem] theorem Try.fld7_2 : fieldO Try.prog 7 2 = some (2, 4) := by kernel_rfl
@[go_sem] theorem Try.fld7_3 : fieldO Try.prog 7 3 = some (3, 6) := by kernel_rfl
@[go_sem] theorem Try.bld7 (parts : List (Nat × TV)) : buildO Try.prog 7 parts = (fillT (fun i => ([(0, 1), (1, 1), (2, 1), (3, 1)] : List (Nat × Nat))[i]?) [.int .i64 0, .int .i64 0, .bool false, .int .u8 0] parts).map .agg := by kernel_rfl
@[go_sem] theorem Try.eqg7 : Program.eqGuardType Try.prog (Program.depth Try.prog) 7 = false := by kernel_rfl
@[go_sem] theorem Try.agg9 : aggO Try.prog 9 = some false := by kernel_rfl
@[go_sem] theorem Try.pln9 : plainO Try.prog 9 = some true := by kernel_rfl
@[go_sem] theorem Try.sz9 : szO Try.prog 9 = some 1 := by kernel_rfl
@[go_sem] theorem Try.zero9 : zeroL Try.prog 9 = some [.str ⟨#[]⟩] := by kernel_rfl
@[go_sem] theorem Try.small9 : smallO Try.prog 9 = some (1, 16) := by kernel_rfl
@[go_sem] theorem Try.zt9 : zeroT Try.prog 9 = some (.str ⟨#[]⟩) := by kernel_rfl
@[go_sem] theorem Try.eq9 (a b : ByteArray) : eqT Try.prog 20 9 (.str a) (.str b) = some (a.toList == b.toList) := by kernel_rfl
@[go_sem] theorem Try.und9 : Program.underlying Try.prog 9 = some .string := by kernel_rfl
@[go_sem] theorem Try.agg12 : aggO Try.prog 12 = some false := by kernel_rfl
@[go_sem] theorem Try.pln12 : plainO Try.prog 12 = some true := by kernel_rfl
@[go_sem] theorem Try.sz12 : szO Try.prog 12 = some 1 := by kernel_rfl
@[go_sem] theorem Try.zero12 : zeroL Try.prog 12 = some [.int .u64 0] := by kernel_rfl
@[go_sem] theorem Try.small12 : smallO Try.prog 12 = some (1, 8) := by kernel_rfl
@[go_sem] theorem Try.zt12 : zeroT Try.prog 12 = some (.int .u64 0) := by kernel_rfl
@[go_sem] theorem Try.knd12 : kindO Try.prog 12 = some .u64 := by kernel_rfl
@[go_sem] theorem Try.und12 : Program.underlying Try.prog 12 = some (.int .u64) := by kernel_rfl
@[go_sem] theorem Try.agg13 : aggO Try.prog 13 = some true := by kernel_rfl
@[go_sem] theorem Try.pln13 : plainO Try.prog 13 = some true := by kernel_rfl
@[go_sem] theorem Try.sz13 : szO Try.prog 13 = some 2 := by kernel_rfl
@[go_sem] theorem Try.zero13 : zeroL Try.prog 13 = some [.str ⟨#[]⟩, .int .u64 0] := by kernel_rfl
@[go_sem] theorem Try.small13 : smallO Try.prog 13 = some (2, 24) := by kernel_rfl
@[go_sem] theorem Try.zt13 : zeroT Try.prog 13 = some (.agg [.str ⟨#[]⟩, .int .u64 0]) := by kernel_rfl
@[go_sem] theorem Try.fld13_0 : fieldO Try.prog 13 0 = some (0, 9) := by kernel_rfl
@[go_sem] theorem Try.fld13_1 : fieldO Try.prog 13 1 = some (1, 12) := by kernel_rfl
@[go_sem] theorem Try.bld13 (parts : List (Nat × TV)) : buildO Try.prog 13 parts = (fillT (fun i => ([(0, 1), (1, 1)] : List (Nat × Nat))[i]?) [.str ⟨#[]⟩, .int .u64 0] parts).map .agg := by kernel_rfl
@[go_sem] theorem Try.eqg13 : Program.eqGuardType Try.prog (Program.depth Try.prog) 13 = false := by kernel_rfl
@[go_sem] theorem Try.agg15 : aggO Try.prog 15 = some false := by kernel_rfl
@[go_sem] theorem Try.pln15 : plainO Try.prog 15 = some true := by kernel_rfl
@[go_sem] theorem Try.sz15 : szO Try.prog 15 = some 1 := by kernel_rfl
@[go_sem] theorem Try.zero15 : zeroL Try.prog 15 = some [.nilPtr] := by kernel_rfl
@[go_sem] theorem Try.small15 : smallO Try.prog 15 = some (1, 8) := by kernel_rfl
@[go_sem] theorem Try.zt15 : zeroT Try.prog 15 = some (.nilPtr) := by kernel_rfl
@[go_sem] theorem Try.agg16 : aggO Try.prog 16 = some false := by kernel_rfl
@[go_sem] theorem Try.pln16 : plainO Try.prog 16 = some true := by kernel_rfl
@[go_sem] theorem Try.sz16 : szO Try.prog 16 = some 1 := by kernel_rfl
@[go_sem] theorem Try.zero16 : zeroL Try.prog 16 = some [.nilPtr] := by kernel_rfl
@[go_sem] theorem Try.small16 : smallO Try.prog 16 = some (1, 8) := by kernel_rfl
@[go_sem] theorem Try.zt16 : zeroT Try.prog 16 = some (.nilPtr) := by kernel_rfl
@[go_sem] theorem Try.agg17 : aggO Try.prog 17 = some false := by kernel_rfl
@[go_sem] theorem Try.pln17 : plainO Try.prog 17 = some true := by kernel_rfl
@[go_sem] theorem Try.sz17 : szO Try.prog 17 = some 1 := by kernel_rfl
@[go_sem] theorem Try.zero17 : zeroL Try.prog 17 = some [.nilPtr] := by kernel_rfl
@[go_sem] theorem Try.small17 : smallO Try.prog 17 = some (1, 8) := by kernel_rfl
@[go_sem] theorem Try.zt17 : zeroT Try.prog 17 = some (.nilPtr) := by kernel_rfl
@[go_sem] theorem Try.agg18 : aggO Try.prog 18 = some true := by kernel_rfl
@[go_sem] theorem Try.pln18 : plainO Try.prog 18 = some true := by kernel_rfl
@[go_sem] theorem Try.sz18 : szO Try.prog 18 = some 1 := by kernel_rfl
@[go_sem] theorem Try.zero18 : zeroL Try.prog 18 = some [.nilPtr] := by kernel_rfl
@[go_sem] theorem Try.small18 : smallO Try.prog 18 = some (1, 8) := by kernel_rfl
@[go_sem] theorem Try.zt18 : zeroT Try.prog 18 = some (.agg [.nilPtr]) := by kernel_rfl
@[go_sem] theorem Try.fld18_0 : fieldO Try.prog 18 0 = some (0, 17) := by kernel_rfl
@[go_sem] theorem Try.bld18 (parts : List (Nat × TV)) : buildO Try.prog 18 parts = (fillT (fun i => ([(0, 1)] : List (Nat × Nat))[i]?) [.nilPtr] parts).map .agg := by kernel_rfl
@[go_sem] theorem Try.bldp18 (parts : List (Nat × PV)) : buildP Try.prog 18 parts = fillP (fun i => ([(0, 1)] : List (Nat × Nat))[i]?) [.t (.nilPtr)] parts := by kernel_rfl
@[go_sem] theorem Try.eqg18 : Program.eqGuardType Try.prog (Program.depth Try.prog) 18 = false := by kernel_rfl
@[go_sem] theorem Try.agg20 : aggO Try.prog 20 = some false := by kernel_rfl
@[go_sem] theorem Try.pln20 : plainO Try.prog 20 = some false := by kernel_rfl
@[go_sem] theorem Try.sz20 : szO Try.prog 20 = some 1 := by kernel_rfl
@[go_sem] theorem Try.zero20 : zeroL Try.prog 20 = some [.nilIf] := by kernel_rfl
@[go_sem] theorem Try.small20 : smallO Try.prog 20 = some (1, 16) := by kernel_rfl
@[go_sem] theorem Try.zt20 : zeroT Try.prog 20 = some (.nilIf) := by kernel_rfl
@[go_sem] theorem Try.agg21 : aggO Try.prog 21 = some false := by kernel_rfl
@[go_sem] theorem Try.pln21 : plainO Try.prog 21 = some true := by kernel_rfl
@[go_sem] theorem Try.sz21 : szO Try.prog 21 = some 1 := by kernel_rfl
@[go_sem] theorem Try.zero21 : zeroL Try.prog 21 = some [.int .i32 0] := by kernel_rfl
@[go_sem] theorem Try.small21 : smallO Try.prog 21 = some (1, 4) := by kernel_rfl
@[go_sem] theorem Try.zt21 : zeroT Try.prog 21 = some (.int .i32 0) := by kernel_rfl
@[go_sem] theorem Try.knd21 : kindO Try.prog 21 = some .i32 := by kernel_rfl
@[go_sem] theorem Try.und21 : Program.underlying Try.prog 21 = some (.int .i32) := by kernel_rfl
@[go_sem] theorem Try.agg22 : aggO Try.prog 22 = some false := by kernel_rfl
@[go_sem] theorem Try.pln22 : plainO Try.prog 22 = some true := by kernel_rfl
@[go_sem] theorem Try.sz22 : szO Try.prog 22 = some 1 := by kernel_rfl
@[go_sem] theorem Try.zero22 : zeroL Try.prog 22 = some [.nilSl] := by kernel_rfl
@[go_sem] theorem Try.small22 : smallO Try.prog 22 = some (1, 24) := by kernel_rfl
@[go_sem] theorem Try.zt22 : zeroT Try.prog 22 = some (.nilSl) := by kernel_rfl
@[go_sem] theorem Try.eqn22 : eqT Try.prog 20 22 .nilSl .nilSl = some true := by kernel_rfl
@[go_sem] theorem Try.eqs22 (cs : List TV) (n : Nat) (f : Bool) : eqT Try.prog 20 22 (.sl cs n f) .nilSl = some false := by kernel_rfl
@[go_sem] theorem Try.eqt22 (cs : List TV) (n : Nat) (f : Bool) : eqT Try.prog 20 22 .nilSl (.sl cs n f) = some false := by kernel_rfl
@[go_sem] theorem Try.sl22 : sliceO Try.prog 22 = some 32 := by kernel_rfl
@[go_sem] theorem Try.und22 : Program.underlying Try.prog 22 = some (.slice 32) := by kernel_rfl
@[go_sem] theorem Try.agg23 : aggO Try.prog 23 = some false := by kernel_rfl
@[go_sem] theorem Try.pln23 : plainO Try.prog 23 = some true := by kernel_rfl
@[go_sem] theorem Try.sz23 : szO Try.prog 23 = some 1 := by kernel_rfl
@[go_sem] theorem Try.zero23 : zeroL Try.prog 23 = some [.nilSl] := by kernel_rfl
@[go_sem] theorem Try.small23 : smallO Try.prog 23 = some (1, 24) := by kernel_rfl
@[go_sem] theorem Try.zt23 : zeroT Try.prog 23 = some (.nilSl) := by kernel_rfl
@[go_sem] theorem Try.eqn23 : eqT Try.prog 20 23 .nilSl .nilSl = some true := by kernel_rfl
@[go_sem] theorem Try.eqs23 (cs : List TV) (n : Nat) (f : Bool) : eqT Try.prog 20 23 (.sl cs n f) .nilSl = some false := by kernel_rfl
@[go_sem] theorem Try.eqt23 (cs : List TV) (n : Nat) (f : Bool) : eqT Try.prog 20 23 .nilSl (.sl cs n f) = some false := by kernel_rfl
@[go_sem] theorem Try.sl23 : sliceO Try.prog 23 = some 29 := by kernel_rfl
@[go_sem] theorem Try.und23 : Program.underlying Try.prog 23 = some (.slice 29) := by kernel_rfl
@[go_sem] theorem Try.agg24 : aggO Try.prog 24 = some true := by kernel_rfl
@[go_sem] theorem Try.pln24 : plainO Try.prog 24 = some true := by kernel_rfl
@[go_sem] theorem Try.sz24 : szO Try.prog 24 = some 2 := by kernel_rfl
@[go_sem] theorem Try.zero24 : zeroL Try.prog 24 = some [.nilSl, .nilSl] := by kernel_rfl
@[go_sem] theorem Try.small24 : smallO Try.prog 24 = some (2, 48) := by kernel_rfl
@[go_sem] theorem Try.zt24 : zeroT Try.prog 24 = some (.agg [.nilSl, .nilSl]) := by kernel_rfl
@[go_sem] theorem Try.fld24_0 : fieldO Try.prog 24 0 = some (0, 22) := by kernel_rfl
@[go_sem] theorem Try.fld24_1 : fieldO Try.prog 24 1 = some (1, 23) := by kernel_rfl
@[go_sem] theorem Try.bld24 (parts : List (Nat × TV)) : buildO Try.prog 24 parts = (fillT (fun i => ([(0, 1), (1, 1)] : List (Nat × Nat))[i]?) [.nilSl, .nilSl] parts).map .agg := by kernel_rfl
@[go_sem] theorem Try.bldp24 (parts : List (Nat × PV)) : buildP Try.prog 24 parts = fillP (fun i => ([(0, 1), (1, 1)] : List (Nat × Nat))[i]?) [.t (.nilSl), .t (.nilSl)] parts := by kernel_rfl
@[go_sem] theorem Try.eqg24 : Program.eqGuardType Try.prog (Program.depth Try.prog) 24 = false := by kernel_rfl
@[go_sem] theorem Try.agg25 : aggO Try.prog 25 = some true := by kernel_rfl
@[go_sem] theorem Try.pln25 : plainO Try.prog 25 = some true := by kernel_rfl
@[go_sem] theorem Try.sz25 : szO Try.prog 25 = some 2 := by kernel_rfl
@[go_sem] theorem Try.zero25 : zeroL Try.prog 25 = some [.nilSl, .nilSl] := by kernel_rfl
@[go_sem] theorem Try.small25 : smallO Try.prog 25 = some (2, 48) := by kernel_rfl
@[go_sem] theorem Try.zt25 : zeroT Try.prog 25 = some (.agg [.nilSl, .nilSl]) := by kernel_rfl
@[go_sem] theorem Try.fld25_0 : fieldO Try.prog 25 0 = some (0, 22) := by kernel_rfl
@[go_sem] theorem Try.fld25_1 : fieldO Try.prog 25 1 = some (1, 23) := by kernel_rfl
@[go_sem] theorem Try.bld25 (parts : List (Nat × TV)) : buildO Try.prog 25 parts = (fillT (fun i => ([(0, 1), (1, 1)] : List (Nat × Nat))[i]?) [.nilSl, .nilSl] parts).map .agg := by kernel_rfl
@[go_sem] theorem Try.bldp25 (parts : List (Nat × PV)) : buildP Try.prog 25 parts = fillP (fun i => ([(0, 1), (1, 1)] : List (Nat × Nat))[i]?) [.t (.nilSl), .t (.nilSl)] parts := by kernel_rfl
@[go_sem] theorem Try.eqg25 : Program.eqGuardType Try.prog (Program.depth Try.prog) 25 = false := by kernel_rfl
@[go_sem] theorem Try.agg26 : aggO Try.prog 26 = some false := by kernel_rfl
@[go_sem] theorem Try.pln26 : plainO Try.prog 26 = some true := by kernel_rfl
@[go_sem] theorem Try.sz26 : szO Try.prog 26 = some 1 := by kernel_rfl
@[go_sem] theorem Try.zero26 : zeroL Try.prog 26 = some [.nilFn] := by kernel_rfl
@[go_sem] theorem Try.small26 : smallO Try.prog 26 = some (1, 8) := by kernel_rfl
@[go_sem] theorem Try.zt26 : zeroT Try.prog 26 = some (.nilFn) := by kernel_rfl
@[go_sem] theorem Try.agg27 : aggO Try.prog 27 = some false := by kernel_rfl
@[go_sem] theorem Try.pln27 : plainO Try.prog 27 = some true := by kernel_rfl
@[go_sem] theorem Try.sz27 : szO Try.prog 27 = some 1 := by kernel_rfl
@[go_sem] theorem Try.zero27 : zeroL Try.prog 27 = some [.nilSl] := by kernel_rfl
@[go_sem] theorem Try.small27 : smallO Try.prog 27 = some (1, 24) := by kernel_rfl
@[go_sem] theorem Try.zt27 : zeroT Try.prog 27 = some (.nilSl) := by kernel_rfl
@[go_sem] theorem Try.eqn27 : eqT Try.prog 20 27 .nilSl .nilSl = some true := by kernel_rfl
@[go_sem] theorem Try.eqs27 (cs : List TV) (n : Nat) (f : Bool) : eqT Try.prog 20 27 (.sl cs n f) .nilSl = some false := by kernel_rfl
@[go_sem] theorem Try.eqt27 (cs : List TV) (n : Nat) (f : Bool) : eqT Try.prog 20 27 .nilSl (.sl cs n f) = some false := by kernel_rfl
@[go_sem] theorem Try.sl27 : sliceO Try.prog 27 = some 25 := by kernel_rfl
@[go_sem] theorem Try.und27 : Program.underlying Try.prog 27 = some (.slice 25) := by kernel_rfl
@[go_sem] theorem Try.agg28 : aggO Try.prog 28 = some true := by kernel_rfl
@[go_sem] theorem Try.pln28 : plainO Try.prog 28 = some true := by kernel_rfl
@[go_sem] theorem Try.sz28 : szO Try.prog 28 = some 2 := by kernel_rfl
@[go_sem] theorem Try.zero28 : zeroL Try.prog 28 = some [.int .i64 0, .int .i64 0] := by kernel_rfl
@[go_sem] theorem Try.small28 : smallO Try.prog 28 = some (2, 16) := by kernel_rfl
@[go_sem] theorem Try.zt28 : zeroT Try.prog 28 = some (.agg [.int .i64 0, .int .i64 0]) := by kernel_rfl
@[go_sem] theorem Try.fld28_0 : fieldO Try.prog 28 0 = some (0, 3) := by kernel_rfl
@[go_sem] theorem Try.fld28_1 : fieldO Try.prog 28 1 = some (1, 3) := by kernel_rfl
@[go_sem] theorem Try.bld28 (parts : List (Nat × TV)) : buildO Try.prog 28 parts = (fillT (fun i => ([(0, 1), (1, 1)] : List (Nat × Nat))[i]?) [.int .i64 0, .int .i64 0] parts).map .agg := by kernel_rfl
@[go_sem] theorem Try.eqg28 : Program.eqGuardType Try.prog (Program.depth Try.prog) 28 = false := by kernel_rfl
@[go_sem] theorem Try.agg29 : aggO Try.prog 29 = some true := by kernel_rfl
@[go_sem] theorem Try.pln29 : plainO Try.prog 29 = some true := by kernel_rfl
@[go_sem] theorem Try.sz29 : szO Try.prog 29 = some 2 := by kernel_rfl
@[go_sem] theorem Try.zero29 : zeroL Try.prog 29 = some [.int .i64 0, .int .i64 0] := by kernel_rfl
@[go_sem] theorem Try.small29 : smallO Try.prog 29 = some (2, 16) := by kernel_rfl
@[go_sem] theorem Try.zt29 : zeroT Try.prog 29 = some (.agg [.int .i64 0, .int .i64 0]) := by kernel_rfl
@[go_sem] theorem Try.fld29_0 : fieldO Try.prog 29 0 = some (0, 3) := by kernel_rfl
@[go_sem] theorem Try.fld29_1 : fieldO Try.prog 29 1 = some (1, 3) := by kernel_rfl
@[go_sem] theorem Try.bld29 (parts : List (Nat × TV)) : buildO Try.prog 29 parts = (fillT (fun i => ([(0, 1), (1, 1)] : List (Nat × Nat))[i]?) [.int .i64 0, .int .i64 0] parts).map .agg := by kernel_rfl
@[go_sem] theorem Try.eq29 (a0 b0 : Int) (a1 b1 : Int) : eqT Try.prog 20 29 (.agg [.int .i64 a0, .int .i64 a1]) (.agg [.int .i64 b0, .int .i64 b1]) = some ((a0 == b0) && ((a1 == b1) && true)) := by kernel_rfl
@[go_sem] theorem Try.eqg29 : Program.eqGuardType Try.prog (Program.depth Try.prog) 29 = false := by kernel_rfl
@[go_sem] theorem Try.agg30 : aggO Try.prog 30 = some false := by kernel_rfl
@[go_sem] theorem Try.pln30 : plainO Try.prog 30 = some true := by kernel_rfl
@[go_sem] theorem Try.sz30 : szO Try.prog 30 = some 1 := by kernel_rfl
@[go_sem] theorem Try.zero30 : zeroL Try.prog 30 = some [.nilFn] := by kernel_rfl
@[go_sem] theorem Try.small30 : smallO Try.prog 30 = some (1, 8) := by kernel_rfl
@[go_sem] theorem Try.zt30 : zeroT Try.prog 30 = some (.nilFn) := by kernel_rfl
@[go_sem] theorem Try.agg31 : aggO Try.prog 31 = some true := by kernel_rfl
@[go_sem] theorem Try.pln31 : plainO Try.prog 31 = some true := by kernel_rfl
@[go_sem] theorem Try.sz31 : szO Try.prog 31 = some 5 := by kernel_rfl
@[go_sem] theorem Try.zero31 : zeroL Try.prog 31 = some [.int .i64 0, .int .i64 0, .int .i64 0, .int .i64 0, .int .i64 0] := by kernel_rfl
@[go_sem] theorem Try.small31 : smallO Try.prog 31 = some (5, 40) := by kernel_rfl
@[go_sem] theorem Try.zt31 : zeroT Try.prog 31 = some (.agg [.int .i64 0, .int .i64 0, .int .i64 0, .int .i64 0, .int .i64 0]) := by kernel_rfl
@[go_sem] theorem Try.fld31_0 : fieldO Try.prog 31 0 = some (0, 29) := by kernel_rfl
@[go_sem] theorem Try.fld31_1 : fieldO Try.prog 31 1 = some (2, 29) := by kernel_rfl
@[go_sem] theorem Try.fld31_2 : fieldO Try.prog 31 2 = some (4, 3) := by kernel_rfl
@[go_sem] theorem Try.bld31 (parts : List (Nat × TV)) : buildO Try.prog 31 parts = (fillT (fun i => ([(0, 2), (2, 2), (4, 1)] : List (Nat × Nat))[i]?) [.int .i64 0, .int .i64 0, .int .i64 0, .int .i64 0, .int .i64 0] parts).map .agg := by kernel_rfl
@[go_sem] theorem Try.eqg31 : Program.eqGuardType Try.prog (Program.depth Try.prog) 31 = false := by kernel_rfl
@[go_sem] theorem Try.agg32 : aggO Try.prog 32 = some true := by kernel_rfl
@[go_sem] theorem Try.pln32 : plainO Try.prog 32 = some true := by kernel_rfl
@[go_sem] theorem Try.sz32 : szO Try.prog 32 = some 5 := by kernel_rfl
@[go_sem] theorem Try.zero32 : zeroL Try.prog 32 = some [.int .i64 0, .int .i64 0, .int .i64 0, .int .i64 0, .int .i64 0] := by kernel_rfl
@[go_sem] theorem Try.small32 : smallO Try.prog 32 = some (5, 40) := by kernel_rfl
@[go_sem] theorem Try.zt32 : zeroT Try.prog 32 = some (.agg [.int .i64 0, .int .i64 0, .int .i64 0, .int .i64 0, .int .i64 0]) := by kernel_rfl
@[go_sem] theorem Try.fld32_0 : fieldO Try.prog 32 0 = some (0, 29) := by kernel_rfl
@[go_sem] theorem Try.fld32_1 : fieldO Try.prog 32 1 = some (2, 29) := by kernel_rfl
@[go_sem] theorem Try.fld32_2 : fieldO Try.prog 32 2 = some (4, 3) := by kernel_rfl
@[go_sem] theorem Try.bld32 (parts : List (Nat × TV)) : buildO Try.prog 32 parts = (fillT (fun i => ([(0, 2), (2, 2), (4, 1)] : List (Nat × Nat))[i]?) [.int .i64 0, .int .i64 0, .int .i64 0, .int .i64 0, .int .i64 0] parts).map .agg := by kernel_rfl
@[go_sem] theorem Try.eq32 (a0 b0 : Int) (a1 b1 : Int) (a2 b2 : Int) (a3 b3 : Int) (a4 b4 : Int) : eqT Try.prog 20 32 (.agg [.int .i64 a0, .int .i64 a1, .int .i64 a2, .int .i64 a3, .int .i64 a4]) (.agg [.int .i64 b0, .int .i64 b1, .int .i64 b2, .int .i64 b3, .int .i64 b4]) = some (((a0 == b0) && ((a1 == b1) && true)) && (((a2 == b2) && ((a3 == b3) && true)) && ((a4 == b4) && true))) := by kernel_rfl
@[go_sem] theorem Try.eqg32 : Program.eqGuardType Try.prog (Program.depth Try.prog) 32 = false := by kernel_rfl
@[go_sem] theorem Try.agg33 : aggO Try.prog 33 = some false := by kernel_rfl
@[go_sem] theorem Try.pln33 : plainO Try.prog 33 = some true := by kernel_rfl
@[go_sem] theorem Try.sz33 : szO Try.prog 33 = some 1 := by kernel_rfl
@[go_sem] theorem Try.zero33 : zeroL Try.prog 33 = some [.int .i64 0] := by kernel_rfl
@[go_sem] theorem Try.small33 : smallO Try.prog 33 = some (1, 8) := by kernel_rfl
@[go_sem] theorem Try.zt33 : zeroT Try.prog 33 = some (.int .i64 0) := by kernel_rfl
@[go_sem] theorem Try.knd33 : kindO Try.prog 33 = some .i64 := by kernel_rfl
@[go_sem] theorem Try.und33 : Program.underlying Try.prog 33 = some (.int .i64) := by kernel_rfl
@[go_sem] theorem Try.agg35 : aggO Try.prog 35 = some false := by kernel_rfl
@[go_sem] theorem Try.pln35 : plainO Try.prog 35 = some true := by kernel_rfl
@[go_sem] theorem Try.sz35 : szO Try.prog 35 = some 1 := by kernel_rfl
@[go_sem] theorem Try.zero35 : zeroL Try.prog 35 = some [.nilFn] := by kernel_rfl
@[go_sem] theorem Try.small35 : smallO Try.prog 35 = some (1, 8) := by kernel_rfl
@[go_sem] theorem Try.zt35 : zeroT Try.prog 35 = some (.nilFn) := by kernel_rfl
@[go_sem] theorem Try.agg36 : aggO Try.prog 36 = some true := by kernel_rfl
@[go_sem] theorem Try.pln36 : plainO Try.prog 36 = some true := by kernel_rfl
@[go_sem] theorem Try.sz36 : szO Try.prog 36 = some 3 := by kernel_rfl
@[go_sem] theorem Try.zero36 : zeroL Try.prog 36 = some [.int .i64 0, .int .i64 0, .int .i64 0] := by kernel_rfl
@[go_sem] theorem Try.small36 : smallO Try.prog 36 = some (3, 24) := by kernel_rfl
@[go_sem] theorem Try.zt36 : zeroT Try.prog 36 = some (.agg [.int .i64 0, .int .i64 0, .int .i64 0]) := by kernel_rfl
@[go_sem] theorem Try.bld36 (parts : List (Nat × TV)) : buildO Try.prog 36 parts = (fillT (fun i => some (i * 1, 1)) [.int .i64 0, .int .i64 0, .int .i64 0] parts).map .agg := by kernel_rfl
@[go_sem] theorem Try.eq36 (a0 b0 : Int) (a1 b1 : Int) (a2 b2 : Int) : eqT Try.prog 20 36 (.agg [.int .i64 a0, .int .i64 a1, .int .i64 a2]) (.agg [.int .i64 b0, .int .i64 b1, .int .i64 b2]) = some ((a0 == b0) && ((a1 == b1) && ((a2 == b2) && true))) := by kernel_rfl
@[go_sem] theorem Try.eqg36 : Program.eqGuardType Try.prog (Program.depth Try.prog) 36 = false := by kernel_rfl
@[go_sem] theorem Try.arr36 : arrayO Try.prog 36 = some (3, 3) := by kernel_rfl
@[go_sem] theorem Try.und36 : Program.underlying Try.prog 36 = some (.array 3 3) := by kernel_rfl
@[go_sem] theorem Try.agg37 : aggO Try.prog 37 = some true := by kernel_rfl
@[go_sem] theorem Try.pln37 : plainO Try.prog 37 = some true := by kernel_rfl
@[go_sem] theorem Try.sz37 : szO Try.prog 37 = some 5 := by kernel_rfl
@[go_sem] theorem Try.zero37 : zeroL Try.prog 37 = some [.int .i64 0, .int .i64 0, .int .i64 0, .int .i64 0, .int .i64 0] := by kernel_rfl
@[go_sem] theorem Try.small37 : smallO Try.prog 37 = some (5, 40) := by kernel_rfl
@[go_sem] theorem Try.zt37 : zeroT Try.prog 37 = some (.agg [.int .i64 0, .int .i64 0, .int .i64 0, .int .i64 0, .int .i64 0]) := by kernel_rfl
@[go_sem] theorem Try.fld37_0 : fieldO Try.prog 37 0 = some (0, 3) := by kernel_rfl
@[go_sem] theorem Try.fld37_1 : fieldO Try.prog 37 1 = some (1, 3) := by kernel_rfl
@[go_sem] theorem Try.fld37_2 : fieldO Try.prog 37 2 = some (2, 36) := by kernel_rfl
@[go_sem] theorem Try.bld37 (parts : List (Nat × TV)) : buildO Try.prog 37 parts = (fillT (fun i => ([(0, 1), (1, 1), (2, 3)] : List (Nat × Nat))[i]?) [.int .i64 0, .int .i64 0, .int .i64 0, .int .i64 0, .int .i64 0] parts).map .agg := by kernel_rfl
@[go_sem] theorem Try.eqg37 : Program.eqGuardType Try.prog (Program.depth Try.prog) 37 = false := by kernel_rfl
@[go_sem] theorem Try.agg38 : aggO Try.prog 38 = some true := by kernel_rfl
@[go_sem] theorem Try.pln38 : plainO Try.prog 38 = some true := by kernel_rfl
@[go_sem] theorem Try.sz38 : szO Try.prog 38 = some 5 := by kernel_rfl
@[go_sem] theorem Try.zero38 : zeroL Try.prog 38 = some [.int .i64 0, .int .i64 0, .int .i64 0, .int .i64 0, .int .i64 0] := by kernel_rfl
@[go_sem] theorem Try.small38 : smallO Try.prog 38 = some (5, 40) := by kernel_rfl
@[go_sem] theorem Try.zt38 : zeroT Try.prog 38 = some (.agg [.int .i64 0, .int .i64 0, .int .i64 0, .int .i64 0, .int .i64 0]) := by kernel_rfl
@[go_sem] theorem Try.fld38_0 : fieldO Try.prog 38 0 = some (0, 3) := by kernel_rfl
@[go_sem] theorem Try.fld38_1 : fieldO Try.prog 38 1 = some (1, 3) := by kernel_rfl
@[go_sem] theorem Try.fld38_2 : fieldO Try.prog 38 2 = some (2, 36) := by kernel_rfl
@[go_sem] theorem Try.bld38 (parts : List (Nat × TV)) : buildO Try.prog 38 parts = (fillT (fun i => ([(0, 1), (1, 1), (2, 3)] : List (Nat × Nat))[i]?) [.int .i64 0, .int .i64 0, .int .i64 0, .int .i64 0, .int .i64 0] parts).map .agg := by kernel_rfl
@[go_sem] theorem Try.eq38 (a0 b0 : Int) (a1 b1 : Int) (a2 b2 : Int) (a3 b3 : Int) (a4 b4 : Int) : eqT Try.prog 20 38 (.agg [.int .i64 a0, .int .i64 a1, .int .i64 a2, .int .i64 a3, .int .i64 a4]) (.agg [.int .i64 b0, .int .i64 b1, .int .i64 b2, .int .i64 b3, .int .i64 b4]) = some ((a0 == b0) && ((a1 == b1) && (((a2 == b2) && ((a3 == b3) && ((a4 == b4) && true))) && true))) := by kernel_rfl
@[go_sem] theorem Try.eqg38 : Program.eqGuardType Try.prog (Program.depth Try.prog) 38 = false := by kernel_rfl
@[go_sem] theorem Try.agg39 : aggO Try.prog 39 = some false := by kernel_rfl
@[go_sem] theorem Try.pln39 : plainO Try.prog 39 = some true := by kernel_rfl
@[go_sem] theorem Try.sz39 : szO Try.prog 39 = some 1 := by kernel_rfl
@[go_sem] theorem Try.zero39 : zeroL Try.prog 39 = some [.nilSl] := by kernel_rfl
@[go_sem] theorem Try.small39 : smallO Try.prog 39 = some (1, 24) := by kernel_rfl
@[go_sem] theorem Try.zt39 : zeroT Try.prog 39 = some (.nilSl) := by kernel_rfl
@[go_sem] theorem Try.eqn39 : eqT Try.prog 20 39 .nilSl .nilSl = some true := by kernel_rfl
@[go_sem] theorem Try.eqs39 (cs : List TV) (n : Nat) (f : Bool) : eqT Try.prog 20 39 (.sl cs n f) .nilSl = some false := by kernel_rfl
@[go_sem] theorem Try.eqt39 (cs : List TV) (n : Nat) (f : Bool) : eqT Try.prog 20 39 .nilSl (.sl cs n f) = some false := by kernel_rfl
@[go_sem] theorem Try.sl39 : sliceO Try.prog 39 = some 3 := by kernel_rfl
@[go_sem] theorem Try.und39 : Program.underlying Try.prog 39 = some (.slice 3) := by kernel_rfl
@[go_sem] theorem Try.agg40 : aggO Try.prog 40 = some true := by kernel_rfl
@[go_sem] theorem Try.pln40 : plainO Try.prog 40 = some true := by kernel_rfl
@[go_sem] theorem Try.sz40 : szO Try.prog 40 = some 3 := by kernel_rfl
@[go_sem] theorem Try.zero40 : zeroL Try.prog 40 = some [.nilSl, .nilSl, .nilSl] := by kernel_rfl
@[go_sem] theorem Try.small40 : smallO Try.prog 40 = some (3, 72) := by kernel_rfl
@[go_sem] theorem Try.zt40 : zeroT Try.prog 40 = some (.agg [.nilSl, .nilSl, .nilSl]) := by kernel_rfl
@[go_sem] theorem Try.fld40_0 : fieldO Try.prog 40 0 = some (0, 39) := by kernel_rfl
@[go_sem] theorem Try.fld40_1 : fieldO Try.prog 40 1 = some (1, 39) := by kernel_rfl
@[go_sem] theorem Try.fld40_2 : fieldO Try.prog 40 2 = some (2, 39) := by kernel_rfl
@[go_sem] theorem Try.bld40 (parts : List (Nat × TV)) : buildO Try.prog 40 parts = (fillT (fun i => ([(0, 1), (1, 1), (2, 1)] : List (Nat × Nat))[i]?) [.nilSl, .nilSl, .nilSl] parts).map .agg := by kernel_rfl
@[go_sem] theorem Try.bldp40 (parts : List (Nat × PV)) : buildP Try.prog 40 parts = fillP (fun i => ([(0, 1), (1, 1), (2, 1)] : List (Nat × Nat))[i]?) [.t (.nilSl), .t (.nilSl), .t (.nilSl)] parts := by kernel_rfl
@[go_sem] theorem Try.eqg40 : Program.eqGuardType Try.prog (Program.depth Try.prog) 40 = false := by kernel_rfl
@[go_sem] theorem Try.agg41 : aggO Try.prog 41 = some true := by kernel_rfl
@[go_sem] theorem Try.pln41 : plainO Try.prog 41 = some true := by kernel_rfl
@[go_sem] theorem Try.sz41 : szO Try.prog 41 = some 3 := by kernel_rfl
@[go_sem] theorem Try.zero41 : zeroL Try.prog 41 = some [.nilSl, .nilSl, .nilSl] := by kernel_rfl
@[go_sem] theorem Try.small41 : smallO Try.prog 41 = some (3, 72) := by kernel_rfl
@[go_sem] theorem Try.zt41 : zeroT Try.prog 41 = some (.agg [.nilSl, .nilSl, .nilSl]) := by kernel_rfl
@[go_sem] theorem Try.fld41_0 : fieldO Try.prog 41 0 = some (0, 39) := by kernel_rfl
@[go_sem] theorem Try.fld41_1 : fieldO Try.prog 41 1 = some (1, 39) := by kernel_rfl
@[go_sem] theorem Try.fld41_2 : fieldO Try.prog 41 2 = some (2, 39) := by kernel_rfl
@[go_sem] theorem Try.bld41 (parts : List (Nat × TV)) : buildO Try.prog 41 parts = (fillT (fun i => ([(0, 1), (1, 1), (2, 1)] : List (Nat × Nat))[i]?) [.nilSl, .nilSl, .nilSl] parts).map .agg := by kernel_rfl
@[go_sem] theorem Try.bldp41 (parts : List (Nat × PV)) : buildP Try.prog 41 parts = fillP (fun i => ([(0, 1), (1, 1), (2, 1)] : List (Nat × Nat))[i]?) [.t (.nilSl), .t (.nilSl), .t (.nilSl)] parts := by kernel_rfl
@[go_sem] theorem Try.eqg41 : Program.eqGuardType Try.prog (Program.depth Try.prog) 41 = false := by kernel_rfl
@[go_sem] theorem Try.agg43 : aggO Try.prog 43 = some false := by kernel_rfl
@[go_sem] theorem Try.pln43 : plainO Try.prog 43 = some true := by kernel_rfl
@[go_sem] theorem Try.sz43 : szO Try.prog 43 = some 1 := by kernel_rfl
@[go_sem] theorem Try.zero43 : zeroL Try.prog 43 = some [.nilFn] := by kernel_rfl
@[go_sem] theorem Try.small43 : smallO Try.prog 43 = some (1, 8) := by kernel_rfl
@[go_sem] theorem Try.zt43 : zeroT Try.prog 43 = some (.nilFn) := by kernel_rfl
@[go_sem] theorem Try.agg45 : aggO Try.prog 45 = some false := by kernel_rfl
@[go_sem] theorem Try.pln45 : plainO Try.prog 45 = some true := by kernel_rfl
@[go_sem] theorem Try.sz45 : szO Try.prog 45 = some 1 := by kernel_rfl
@[go_sem] theorem Try.zero45 : zeroL Try.prog 45 = some [.nilFn] := by kernel_rfl
@[go_sem] theorem Try.small45 : smallO Try.prog 45 = some (1, 8) := by kernel_rfl
@[go_sem] theorem Try.zt45 : zeroT Try.prog 45 = some (.nilFn) := by kernel_rfl
@[go_sem] theorem Try.agg46 : aggO Try.prog 46 = some true := by kernel_rfl
@[go_sem] theorem Try.pln46 : plainO Try.prog 46 = some true := by kernel_rfl
@[go_sem] theorem Try.sz46 : szO Try.prog 46 = some 3 := by kernel_rfl
@[go_sem] theorem Try.zero46 : zeroL Try.prog 46 = some [.int .i64 0, .int .i64 0, .int .i64 0] := by kernel_rfl
@[go_sem] theorem Try.small46 : smallO Try.prog 46 = some (3, 24) := by kernel_rfl
@[go_sem] theorem Try.zt46 : zeroT Try.prog 46 = some (.agg [.int .i64 0, .int .i64 0, .int .i64 0]) := by kernel_rfl
@[go_sem] theorem Try.fld46_0 : fieldO Try.prog 46 0 = some (0, 29) := by kernel_rfl
@[go_sem] theorem Try.fld46_1 : fieldO Try.prog 46 1 = some (2, 3) := by kernel_rfl
@[go_sem] theorem Try.bld46 (parts : List (Nat × TV)) : buildO Try.prog 46 parts = (fillT (fun i => ([(0, 2), (2, 1)] : List (Nat × Nat))[i]?) [.int .i64 0, .int .i64 0, .int .i64 0] parts).map .agg := by kernel_rfl
@[go_sem] theorem Try.eqg46 : Program.eqGuardType Try.prog (Program.depth Try.prog) 46 = false := by kernel_rfl
@[go_sem] theorem Try.agg47 : aggO Try.prog 47 = some true := by kernel_rfl
@[go_sem] theorem Try.pln47 : plainO Try.prog 47 = some true := by kernel_rfl
@[go_sem] theorem Try.sz47 : szO Try.prog 47 = some 3 := by kernel_rfl
@[go_sem] theorem Try.zero47 : zeroL Try.prog 47 = some [.int .i64 0, .int .i64 0, .int .i64 0] := by kernel_rfl
@[go_sem] theorem Try.small47 : smallO Try.prog 47 = some (3, 24) := by kernel_rfl
@[go_sem] theorem Try.zt47 : zeroT Try.prog 47 = some (.agg [.int .i64 0, .int .i64 0, .int .i64 0]) := by kernel_rfl
@[go_sem] theorem Try.fld47_0 : fieldO Try.prog 47 0 = some (0, 29) := by kernel_rfl
@[go_sem] theorem Try.fld47_1 : fieldO Try.prog 47 1 = some (2, 3) := by kernel_rfl
@[go_sem] theorem Try.bld47 (parts : List (Nat × TV)) : buildO Try.prog 47 parts = (fillT (fun i => ([(0, 2), (2, 1)] : List (Nat × Nat))[i]?) [.int .i64 0, .int .i64 0, .int .i64 0] parts).map .agg := by kernel_rfl
@[go_sem] theorem Try.eq47 (a0 b0 : Int) (a1 b1 : Int) (a2 b2 : Int) : eqT Try.prog 20 47 (.agg [.int .i64 a0, .int .i64 a1, .int .i64 a2]) (.agg [.int .i64 b0, .int .i64 b1, .int .i64 b2]) = some (((a0 == b0) && ((a1 == b1) && true)) && ((a2 == b2) && true)) := by kernel_rfl
@[go_sem] theorem Try.eqg47 : Program.eqGuardType Try.prog (Program.depth Try.prog) 47 = false := by kernel_rfl
@[go_sem] theorem Try.agg49 : aggO Try.prog 49 = some false := by kernel_rfl
@[go_sem] theorem Try.pln49 : plainO Try.prog 49 = some true := by kernel_rfl
@[go_sem] theorem Try.sz49 : szO Try.prog 49 = some 1 := by kernel_rfl
@[go_sem] theorem Try.zero49 : zeroL Try.prog 49 = some [.nilFn] := by kernel_rfl
@[go_sem] theorem Try.small49 : smallO Try.prog 49 = some (1, 8) := by kernel_rfl
@[go_sem] theorem Try.zt49 : zeroT Try.prog 49 = some (.nilFn) := by kernel_rfl
@[go_sem] theorem Try.agg50 : aggO Try.prog 50 = some false := by kernel_rfl
@[go_sem] theorem Try.pln50 : plainO Try.prog 50 = some true := by kernel_rfl
@[go_sem] theorem Try.sz50 : szO Try.prog 50 = some 1 := by kernel_rfl
@[go_sem] theorem Try.zero50 : zeroL Try.prog 50 = some [.nilSl] := by kernel_rfl
@[go_sem] theorem Try.small50 : smallO Try.prog 50 = some (1, 24) := by kernel_rfl
@[go_sem] theorem Try.zt50 : zeroT Try.prog 50 = some (.nilSl) := by kernel_rfl
@[go_sem] theorem Try.eqn50 : eqT Try.prog 20 50 .nilSl .nilSl = some true := by kernel_rfl
@[go_sem] theorem Try.eqs50 (cs : List TV) (n : Nat) (f : Bool) : eqT Try.prog 20 50 (.sl cs n f) .nilSl = some false := by kernel_rfl
@[go_sem] theorem Try.eqt50 (cs : List TV) (n : Nat) (f : Bool) : eqT Try.prog 20 50 .nilSl (.sl cs n f) = some false := by kernel_rfl
@[go_sem] theorem Try.sl50 : sliceO Try.prog 50 = some 38 := by kernel_rfl
@[go_sem] theorem Try.und50 : Program.underlying Try.prog 50 = some (.slice 38) := by kernel_rfl
@[go_sem] theorem Try.agg52 : aggO Try.prog 52 = some false := by kernel_rfl
@[go_sem] theorem Try.pln52 : plainO Try.prog 52 = some true := by kernel_rfl
@[go_sem] theorem Try.sz52 : szO Try.prog 52 = some 1 := by kernel_rfl
@[go_sem] theorem Try.zero52 : zeroL Try.prog 52 = some [.nilFn] := by kernel_rfl
@[go_sem] theorem Try.small52 : smallO Try.prog 52 = some (1, 8) := by kernel_rfl
@[go_sem] theorem Try.zt52 : zeroT Try.prog 52 = some (.nilFn) := by kernel_rfl
@[go_sem] theorem Try.agg53 : aggO Try.prog 53 = some false := by kernel_rfl
@[go_sem] theorem Try.pln53 : plainO Try.prog 53 = some true := by kernel_rfl
@[go_sem] theorem Try.sz53 : szO Try.prog 53 = some 1 := by kernel_rfl
@[go_sem] theorem Try.zero53 : zeroL Try.prog 53 = some [.nilFn] := by kernel_rfl
@[go_sem] theorem Try.small53 : smallO Try.prog 53 = some (1, 8) := by kernel_rfl
@[go_sem] theorem Try.zt53 : zeroT Try.prog 53 = some (.nilFn) := by kernel_rfl
@[go_sem] theorem Try.agg54 : aggO Try.prog 54 = some false := by kernel_rfl
@[go_sem] theorem Try.pln54 : plainO Try.prog 54 = some true := by kernel_rfl
@[go_sem] theorem Try.sz54 : szO Try.prog 54 = some 1 := by kernel_rfl
@[go_sem] theorem Try.zero54 : zeroL Try.prog 54 = some [.nilFn] := by kernel_rfl
@[go_sem] theorem Try.small54 : smallO Try.prog 54 = some (1, 8) := by kernel_rfl
@[go_sem] theorem Try.zt54 : zeroT Try.prog 54 = some (.nilFn) := by kernel_rfl
@[go_sem] theorem Try.agg55 : aggO Try.prog 55 = some false := by kernel_rfl
@[go_sem] theorem Try.pln55 : plainO Try.prog 55 = some true := by kernel_rfl
@[go_sem] theorem Try.sz55 : szO Try.prog 55 = some 1 := by kernel_rfl
@[go_sem] theorem Try.zero55 : zeroL Try.prog 55 = some [.nilFn] := by kernel_rfl
@[go_sem] theorem Try.small55 : smallO Try.prog 55 = some (1, 8) := by kernel_rfl
@[go_sem] theorem Try.zt55 : zeroT Try.prog 55 = some (.nilFn) := by kernel_rfl
@[go_sem] theorem Try.agg57 : aggO Try.prog 57 = some false := by kernel_rfl
@[go_sem] theorem Try.pln57 : plainO Try.prog 57 = some true := by kernel_rfl
@[go_sem] theorem Try.sz57 : szO Try.prog 57 = some 1 := by kernel_rfl
@[go_sem] theorem Try.zero57 : zeroL Try.prog 57 = some [.nilFn] := by kernel_rfl
@[go_sem] theorem Try.small57 : smallO Try.prog 57 = some (1, 8) := by kernel_rfl
@[go_sem] theorem Try.zt57 : zeroT Try.prog 57 = some (.nilFn) := by kernel_rfl
@[go_sem] theorem Try.agg58 : aggO Try.prog 58 = some false := by kernel_rfl
@[go_sem] theorem Try.pln58 : plainO Try.prog 58 = some true := by kernel_rfl
@[go_sem] theorem Try.sz58 : szO Try.prog 58 = some 1 := by kernel_rfl
@[go_sem] theorem Try.zero58 : zeroL Try.prog 58 = some [.nilSl] := by kernel_rfl
@[go_sem] theorem Try.small58 : smallO Try.prog 58 = some (1, 24) := by kernel_rfl
@[go_sem] theorem Try.zt58 : zeroT Try.prog 58 = some (.nilSl) := by kernel_rfl
@[go_sem] theorem Try.eqn58 : eqT Try.prog 20 58 .nilSl .nilSl = some true := by kernel_rfl
@[go_sem] theorem Try.eqs58 (cs : List TV) (n : Nat) (f : Bool) : eqT Try.prog 20 58 (.sl cs n f) .nilSl = some false := by kernel_rfl
@[go_sem] theorem Try.eqt58 (cs : List TV) (n : Nat) (f : Bool) : eqT Try.prog 20 58 .nilSl (.sl cs n f) = some false := by kernel_rfl
@[go_sem] theorem Try.sl58 : sliceO Try.prog 58 = some 60 := by kernel_rfl
@[go_sem] theorem Try.und58 : Program.underlying Try.prog 58 = some (.slice 60) := by kernel_rfl
@[go_sem] theorem Try.agg59 : aggO Try.prog 59 = some true := by kernel_rfl
@[go_sem] theorem Try.pln59 : plainO Try.prog 59 = some true := by kernel_rfl
@[go_sem] theorem Try.sz59 : szO Try.prog 59 = some 5 := by kernel_rfl
@[go_sem] theorem Try.zero59 : zeroL Try.prog 59 = some [.int .i64 0, .int .i64 0, .int .i64 0, .int .i64 0, .int .i64 0] := by kernel_rfl
@[go_sem] theorem Try.small59 : smallO Try.prog 59 = some (5, 40) := by kernel_rfl
@[go_sem] theorem Try.zt59 : zeroT Try.prog 59 = some (.agg [.int .i64 0, .int .i64 0, .int .i64 0, .int .i64 0, .int .i64 0]) := by kernel_rfl
@[go_sem] theorem Try.fld59_0 : fieldO Try.prog 59 0 = some (0, 29) := by kernel_rfl
@[go_sem] theorem Try.fld59_1 : fieldO Try.prog 59 1 = some (2, 29) := by kernel_rfl
@[go_sem] theorem Try.fld59_2 : fieldO Try.prog 59 2 = some (4, 3) := by kernel_rfl
@[go_sem] theorem Try.bld59 (parts : List (Nat × TV)) : buildO Try.prog 59 parts = (fillT (fun i => ([(0, 2), (2, 2), (4, 1)] : List (Nat × Nat))[i]?) [.int .i64 0, .int .i64 0, .int .i64 0, .int .i64 0, .int .i64 0] parts).map .agg := by kernel_rfl
@[go_sem] theorem Try.eqg59 : Program.eqGuardType Try.prog (Program.depth Try.prog) 59 = false := by kernel_rfl
@[go_sem] theorem Try.agg60 : aggO Try.prog 60 = some true := by kernel_rfl
@[go_sem] theorem Try.pln60 : plainO Try.prog 60 = some true := by kernel_rfl
@[go_sem] theorem Try.sz60 : szO Try.prog 60 = some 5 := by kernel_rfl
@[go_sem] theorem Try.zero60 : zeroL Try.prog 60 = some [.int .i64 0, .int .i64 0, .int .i64 0, .int .i64 0, .int .i64 0] := by kernel_rfl
@[go_sem] theorem Try.small60 : smallO Try.prog 60 = some (5, 40) := by kernel_rfl
@[go_sem] theorem Try.zt60 : zeroT Try.prog 60 = some (.agg [.int .i64 0, .int .i64 0, .int .i64 0, .int .i64 0, .int .i64 0]) := by kernel_rfl
@[go_sem] theorem Try.fld60_0 : fieldO Try.prog 60 0 = some (0, 29) := by kernel_rfl
@[go_sem] theorem Try.fld60_1 : fieldO Try.prog 60 1 = some (2, 29) := by kernel_rfl
@[go_sem] theorem Try.fld60_2 : fieldO Try.prog 60 2 = some (4, 3) := by kernel_rfl
@[go_sem] theorem Try.bld60 (parts : List (Nat × TV)) : buildO Try.prog 60 parts = (fillT (fun i => ([(0, 2), (2, 2), (4, 1)] : List (Nat × Nat))[i]?) [.int .i64 0, .int .i64 0, .int .i64 0, .int .i64 0, .int .i64 0] parts).map .agg := by kernel_rfl
@[go_sem] theorem Try.eq60 (a0 b0 : Int) (a1 b1 : Int) (a2 b2 : Int) (a3 b3 : Int) (a4 b4 : Int) : eqT Try.prog 20 60 (.agg [.int .i64 a0, .int .i64 a1, .int .i64 a2, .int .i64 a3, .int .i64 a4]) (.agg [.int .i64 b0, .int .i64 b1, .int .i64 b2, .int .i64 b3, .int .i64 b4]) = some (((a0 == b0) && ((a1 == b1) && true)) && (((a2 == b2) && ((a3 == b3) && true)) && ((a4 == b4) && true))) := by kernel_rfl
@[go_sem] theorem Try.eqg60 : Program.eqGuardType Try.prog (Program.depth Try.prog) 60 = false := by kernel_rfl
@[go_sem] theorem Try.agg61 : aggO Try.prog 61 = some false := by kernel_rfl
@[go_sem] theorem Try.pln61 : plainO Try.prog 61 = some true := by kernel_rfl
@[go_sem] theorem Try.sz61 : szO Try.prog 61 = some 1 := by kernel_rfl
@[go_sem] theorem Try.zero61 : zeroL Try.prog 61 = some [.nilFn] := by kernel_rfl
@[go_sem] theorem Try.small61 : smallO Try.prog 61 = some (1, 8) := by kernel_rfl
@[go_sem] theorem Try.zt61 : zeroT Try.prog 61 = some (.nilFn) := by kernel_rfl
@[go_sem] theorem Try.agg62 : aggO Try.prog 62 = some false := by kernel_rfl
@[go_sem] theorem Try.pln62 : plainO Try.prog 62 = some true := by kernel_rfl
@[go_sem] theorem Try.sz62 : szO Try.prog 62 = some 1 := by kernel_rfl
@[go_sem] theorem Try.zero62 : zeroL Try.prog 62 = some [.nilFn] := by kernel_rfl
@[go_sem] theorem Try.small62 : smallO Try.prog 62 = some (1, 8) := by kernel_rfl
@[go_sem] theorem Try.zt62 : zeroT Try.prog 62 = some (.nilFn) := by kernel_rfl
@[go_sem] theorem Try.agg63 : aggO Try.prog 63 = some true := by kernel_rfl
@[go_sem] theorem Try.pln63 : plainO Try.prog 63 = some true := by kernel_rfl
@[go_sem] theorem Try.sz63 : szO Try.prog 63 = some 6 := by kernel_rfl
@[go_sem] theorem Try.zero63 : zeroL Try.prog 63 = some [.nilSl, .nilSl, .int .i64 0, .int .i64 0, .int .i64 0, .int .i64 0] := by kernel_rfl
@[go_sem] theorem Try.small63 : smallO Try.prog 63 = some (6, 80) := by kernel_rfl
@[go_sem] theorem Try.zt63 : zeroT Try.prog 63 = some (.agg [.nilSl, .nilSl, .int .i64 0, .int .i64 0, .int .i64 0, .int .i64 0]) := by kernel_rfl
@[go_sem] theorem Try.fld63_0 : fieldO Try.prog 63 0 = some (0, 39) := by kernel_rfl
@[go_sem] theorem Try.fld63_1 : fieldO Try.prog 63 1 = some (1, 23) := by kernel_rfl
@[go_sem] theorem Try.fld63_2 : fieldO Try.prog 63 2 = some (2, 29) := by kernel_rfl
@[go_sem] theorem Try.fld63_3 : fieldO Try.prog 63 3 = some (4, 29) := by kernel_rfl
@[go_sem] theorem Try.bld63 (parts : List (Nat × TV)) : buildO Try.prog 63 parts = (fillT (fun i => ([(0, 1), (1, 1), (2, 2), (4, 2)] : List (Nat × Nat))[i]?) [.nilSl, .nilSl, .int .i64 0, .int .i64 0, .int .i64 0, .int .i64 0] parts).map .agg := by kernel_rfl
@[go_sem] theorem Try.bldp63 (parts : List (Nat × PV)) : buildP Try.prog 63 parts = fillP (fun i => ([(0, 1), (1, 1), (2, 2), (4, 2)] : List (Nat × Nat))[i]?) [.t (.nilSl), .t (.nilSl), .t (.int .i64 0), .t (.int .i64 0), .t (.int .i64 0), .t (.int .i64 0)] parts := by kernel_rfl
@[go_sem] theorem Try.eqg63 : Program.eqGuardType Try.prog (Program.depth Try.prog) 63 = false := by kernel_rfl
@[go_sem] theorem Try.agg64 : aggO Try.prog 64 = some true := by kernel_rfl
@[go_sem] theorem Try.pln64 : plainO Try.prog 64 = some true := by kernel_rfl
@[go_sem] theorem Try.sz64 : szO Try.prog 64 = some 6 := by kernel_rfl
@[go_sem] theorem Try.zero64 : zeroL Try.prog 64 = some [.nilSl, .nilSl, .int .i64 0, .int .i64 0, .int .i64 0, .int .i64 0] := by kernel_rfl
@[go_sem] theorem Try.small64 : smallO Try.prog 64 = some (6, 80) := by kernel_rfl
@[go_sem] theorem Try.zt64 : zeroT Try.prog 64 = some (.agg [.nilSl, .nilSl, .int .i64 0, .int .i64 0, .int .i64 0, .int .i64 0]) := by kernel_rfl
@[go_sem] theorem Try.fld64_0 : fieldO Try.prog 64 0 = some (0, 39) := by kernel_rfl
@[go_sem] theorem Try.fld64_1 : fieldO Try.prog 64 1 = some (1, 23) := by kernel_rfl
@[go_sem] theorem Try.fld64_2 : fieldO Try.prog 64 2 = some (2, 29) := by kernel_rfl
@[go_sem] theorem Try.fld64_3 : fieldO Try.prog 64 3 = some (4, 29) := by kernel_rfl
@[go_sem] theorem Try.bld64 (parts : List (Nat × TV)) : buildO Try.prog 64 parts = (fillT (fun i => ([(0, 1), (1, 1), (2, 2), (4, 2)] : List (Nat × Nat))[i]?) [.nilSl, .nilSl, .int .i64 0, .int .i64 0, .int .i64 0, .int .i64 0] parts).map .agg := by kernel_rfl
@[go_sem] theorem Try.bldp64 (parts : List (Nat × PV)) : buildP Try.prog 64 parts = fillP (fun i => ([(0, 1), (1, 1), (2, 2), (4, 2)] : List (Nat × Nat))[i]?) [.t (.nilSl), .t (.nilSl), .t (.int .i64 0), .t (.int .i64 0), .t (.int .i64 0), .t (.int .i64 0)] parts := by kernel_rfl
@[go_sem] theorem Try.eqg64 : Program.eqGuardType Try.prog (Program.depth Try.prog) 64 = false := by kernel_rfl
@[go_sem] theorem Try.agg65 : aggO Try.prog 65 = some false := by kernel_rfl
@[go_sem] theorem Try.pln65 : plainO Try.prog 65 = some true := by kernel_rfl
@[go_sem] theorem Try.sz65 : szO Try.prog 65 = some 1 := by kernel_rfl
@[go_sem] theorem Try.zero65 : zeroL Try.prog 65 = some [.nilFn] := by kernel_rfl
@[go_sem] theorem Try.small65 : smallO Try.prog 65 = some (1, 8) := by kernel_rfl
@[go_sem] theorem Try.zt65 : zeroT Try.prog 65 = some (.nilFn) := by kernel_rfl
@[go_sem] theorem Try.agg66 : aggO Try.prog 66 = some false := by kernel_rfl
@[go_sem] theorem Try.pln66 : plainO Try.prog 66 = some true := by kernel_rfl
@[go_sem] theorem Try.sz66 : szO Try.prog 66 = some 1 := by kernel_rfl
@[go_sem] theorem Try.zero66 : zeroL Try.prog 66 = some [.nilFn] := by kernel_rfl
@[go_sem] theorem Try.small66 : smallO Try.prog 66 = some (1, 8) := by kernel_rfl
@[go_sem] theorem Try.zt66 : zeroT Try.prog 66 = some (.nilFn) := by kernel_rfl
@[go_sem] theorem Try.agg67 : aggO Try.prog 67 = some false := by kernel_rfl
@[go_sem] theorem Try.pln67 : plainO Try.prog 67 = some true := by kernel_rfl
@[go_sem] theorem Try.sz67 : szO Try.prog 67 = some 1 := by kernel_rfl
@[go_sem] theorem Try.zero67 : zeroL Try.prog 67 = some [.nilFn] := by kernel_rfl
@[go_sem] theorem Try.small67 : smallO Try.prog 67 = some (1, 8) := by kernel_rfl
@[go_sem] theorem Try.zt67 : zeroT Try.prog 67 = some (.nilFn) := by kernel_rfl
@[go_sem] theorem Try.agg68 : aggO Try.prog 68 = some false := by kernel_rfl
@[go_sem] theorem Try.pln68 : plainO Try.prog 68 = some true := by kernel_rfl
@[go_sem] theorem Try.sz68 : szO Try.prog 68 = some 1 := by kernel_rfl
@[go_sem] theorem Try.zero68 : zeroL Try.prog 68 = some [.nilSl] := by kernel_rfl
@[go_sem] theorem Try.small68 : smallO Try.prog 68 = some (1, 24) := by kernel_rfl
@[go_sem] theorem Try.zt68 : zeroT Try.prog 68 = some (.nilSl) := by kernel_rfl
@[go_sem] theorem Try.eqn68 : eqT Try.prog 20 68 .nilSl .nilSl = some true := by kernel_rfl
@[go_sem] theorem Try.eqs68 (cs : List TV) (n : Nat) (f : Bool) : eqT Try.prog 20 68 (.sl cs n f) .nilSl = some false := by kernel_rfl
@[go_sem] theorem Try.eqt68 (cs : List TV) (n : Nat) (f : Bool) : eqT Try.prog 20 68 .nilSl (.sl cs n f) = some false := by kernel_rfl
@[go_sem] theorem Try.sl68 : sliceO Try.prog 68 = some 39 := by kernel_rfl
@[go_sem] theorem Try.und68 : Program.underlying Try.prog 68 = some (.slice 39) := by kernel_rfl
@[go_sem] theorem Try.agg70 : aggO Try.prog 70 = some false := by kernel_rfl
@[go_sem] theorem Try.pln70 : plainO Try.prog 70 = some true := by kernel_rfl
@[go_sem] theorem Try.sz70 : szO Try.prog 70 = some 1 := by kernel_rfl
@[go_sem] theorem Try.zero70 : zeroL Try.prog 70 = some [.nilFn] := by kernel_rfl
@[go_sem] theorem Try.small70 : smallO Try.prog 70 = some (1, 8) := by kernel_rfl
@[go_sem] theorem Try.zt70 : zeroT Try.prog 70 = some (.nilFn) := by kernel_rfl
@[go_sem] theorem Try.agg71 : aggO Try.prog 71 = some true := by kernel_rfl
@[go_sem] theorem Try.pln71 : plainO Try.prog 71 = some true := by kernel_rfl
@[go_sem] theorem Try.sz71 : szO Try.prog 71 = some 6 := by kernel_rfl
@[go_sem] theorem Try.zero71 : zeroL Try.prog 71 = some [.int .i64 0, .int .i64 0, .int .i64 0, .int .i64 0, .int .i64 0, .int .i64 0] := by kernel_rfl
@[go_sem] theorem Try.small71 : smallO Try.prog 71 = some (6, 48) := by kernel_rfl
@[go_sem] theorem Try.zt71 : zeroT Try.prog 71 = some (.agg [.int .i64 0, .int .i64 0, .int .i64 0, .int .i64 0, .int .i64 0, .int .i64 0]) := by kernel_rfl
@[go_sem] theorem Try.bld71 (parts : List (Nat × TV)) : buildO Try.prog 71 parts = (fillT (fun i => some (i * 2, 2)) [.int .i64 0, .int .i64 0, .int .i64 0, .int .i64 0, .int .i64 0, .int .i64 0] parts).map .agg := by kernel_rfl
@[go_sem] theorem Try.eq71 (a0 b0 : Int) (a1 b1 : Int) (a2 b2 : Int) (a3 b3 : Int) (a4 b4 : Int) (a5 b5 : Int) : eqT Try.prog 20 71 (.agg [.int .i64 a0, .int .i64 a1, .int .i64 a2, .int .i64 a3, .int .i64 a4, .int .i64 a5]) (.agg [.int .i64 b0, .int .i64 b1, .int .i64 b2, .int .i64 b3, .int .i64 b4, .int .i64 b5]) = some (((a0 == b0) && ((a1 == b1) && true)) && (((a2 == b2) && ((a3 == b3) && true)) && (((a4 == b4) && ((a5 == b5) && true)) && true))) := by kernel_rfl
@[go_sem] theorem Try.eqg71 : Program.eqGuardType Try.prog (Program.depth Try.prog) 71 = false := by kernel_rfl
@[go_sem] theorem Try.arr71 : arrayO Try.prog 71 = some (3, 29) := by kernel_rfl
@[go_sem] theorem Try.und71 : Program.underlying Try.prog 71 = some (.array 3 29) := by kernel_rfl
@[go_sem] theorem Try.agg72 : aggO Try.prog 72 = some true := by kernel_rfl
@[go_sem] theorem Try.pln72 : plainO Try.prog 72 = some true := by kernel_rfl
@[go_sem] theorem Try.sz72 : szO Try.prog 72 = some 9 := by kernel_rfl
@[go_sem] theorem Try.zero72 : zeroL Try.prog 72 = some [.nilSl, .nilSl, .int .i64 0, .int .i64 0, .int .i64 0, .int .i64 0, .int .i64 0, .int .i64 0, .int .i64 0] := by kernel_rfl
@[go_sem] theorem Try.small72 : smallO Try.prog 72 = some (9, 104) := by kernel_rfl
@[go_sem] theorem Try.zt72 : zeroT Try.prog 72 = some (.agg [.nilSl, .nilSl, .int .i64 0, .int .i64 0, .int .i64 0, .int .i64 0, .int .i64 0, .int .i64 0, .int .i64 0]) := by kernel_rfl
@[go_sem] theorem Try.fld72_0 : fieldO Try.prog 72 0 = some (0, 39) := by kernel_rfl
@[go_sem] theorem Try.fld72_1 : fieldO Try.prog 72 1 = some (1, 39) := by kernel_rfl
@[go_sem] theorem Try.fld72_2 : fieldO Try.prog 72 2 = some (2, 3) := by kernel_rfl
@[go_sem] theorem Try.fld72_3 : fieldO Try.prog 72 3 = some (3, 71) := by kernel_rfl
@[go_sem] theorem Try.bld72 (parts : List (Nat × TV)) : buildO Try.prog 72 parts = (fillT (fun i => ([(0, 1), (1, 1), (2, 1), (3, 6)] : List (Nat × Nat))[i]?) [.nilSl, .nilSl, .int .i64 0, .int .i64 0, .int .i64 0, .int .i64 0, .int .i64 0, .int .i64 0, .int .i64 0] parts).map .agg := by kernel_rfl
@[go_sem] theorem Try.bldp72 (parts : List (Nat × PV)) : buildP Try.prog 72 parts = fillP (fun i => ([(0, 1), (1, 1), (2, 1), (3, 6)] : List (Nat × Nat))[i]?) [.t (.nilSl), .t (.nilSl), .t (.int .i64 0), .t (.int .i64 0), .t (.int .i64 0), .t (.int .i64 0), .t (.int .i64 0), .t (.int .i64 0), .t (.int .i64 0)] parts := by kernel_rfl
@[go_sem] theorem Try.eqg72 : Program.eqGuardType Try.prog (Program.depth Try.prog) 72 = false := by kernel_rfl
@[go_sem] theorem Try.agg73 : aggO Try.prog 73 = some true := by kernel_rfl
@[go_sem] theorem Try.pln73 : plainO Try.prog 73 = some true := by kernel_rfl
@[go_sem] theorem Try.sz73 : szO Try.prog 73 = some 9 := by kernel_rfl
@[go_sem] theorem Try.zero73 : zeroL Try.prog 73 = some [.nilSl, .nilSl, .int .i64 0, .int .i64 0, .int .i64 0, .int .i64 0, .int .i64 0, .int .i64 0, .int .i64 0] := by kernel_rfl
@[go_sem] theorem Try.small73 : smallO Try.prog 73 = some (9, 104) := by kernel_rfl
@[go_sem] theorem Try.zt73 : zeroT Try.prog 73 = some (.agg [.nilSl, .nilSl, .int .i64 0, .int .i64 0, .int .i64 0, .int .i64 0, .int .i64 0, .int .i64 0, .int .i64 0]) := by kernel_rfl
@[go_sem] theorem Try.fld73_0 : fieldO Try.prog 73 0 = some (0, 39) := by kernel_rfl
@[go_sem] theorem Try.fld73_1 : fieldO Try.prog 73 1 = some (1, 39) := by kernel_rfl
@[go_sem] theorem Try.fld73_2 : fieldO Try.prog 73 2 = some (2, 3) := by kernel_rfl
@[go_sem] theorem Try.fld73_3 : fieldO Try.prog 73 3 = some (3, 71) := by kernel_rfl
@[go_sem] theorem Try.bld73 (parts : List (Nat × TV)) : buildO Try.prog 73 parts = (fillT (fun i => ([(0, 1), (1, 1), (2, 1), (3, 6)] : List (Nat × Nat))[i]?) [.nilSl, .nilSl, .int .i64 0, .int .i64 0, .int .i64 0, .int .i64 0, .int .i64 0, .int .i64 0, .int .i64 0] parts).map .agg := by kernel_rfl
@[go_sem] theorem Try.bldp73 (parts : List (Nat × PV)) : buildP Try.prog 73 parts = fillP (fun i => ([(0, 1), (1, 1), (2, 1), (3, 6)] : List (Nat × Nat))[i]?) [.t (.nilSl), .t (.nilSl), .t (.int .i64 0), .t (.int .i64 0), .t (.int .i64 0), .t (.int .i64 0), .t (.int .i64 0), .t (.int .i64 0), .t (.int .i64 0)] parts := by kernel_rfl
@[go_sem] theorem Try.eqg73 : Program.eqGuardType Try.prog (Program.depth Try.prog) 73 = false := by kernel_rfl
@[go_sem] theorem Try.agg74 : aggO Try.prog 74 = some false := by kernel_rfl
@[go_sem] theorem Try.pln74 : plainO Try.prog 74 = some true := by kernel_rfl
@[go_sem] theorem Try.sz74 : szO Try.prog 74 = some 1 := by kernel_rfl
@[go_sem] theorem Try.zero74 : zeroL Try.prog 74 = some [.nilFn] := by kernel_rfl
@[go_sem] theorem Try.small74 : smallO Try.prog 74 = some (1, 8) := by kernel_rfl
@[go_sem] theorem Try.zt74 : zeroT Try.prog 74 = some (.nilFn) := by kernel_rfl
@[go_sem] theorem Try.agg75 : aggO Try.prog 75 = some false := by kernel_rfl
@[go_sem] theorem Try.pln75 : plainO Try.prog 75 = some true := by kernel_rfl
@[go_sem] theorem Try.sz75 : szO Try.prog 75 = some 1 := by kernel_rfl
@[go_sem] theorem Try.zero75 : zeroL Try.prog 75 = some [.nilFn] := by kernel_rfl
@[go_sem] theorem Try.small75 : smallO Try.prog 75 = some (1, 8) := by kernel_rfl
@[go_sem] theorem Try.zt75 : zeroT Try.prog 75 = some (.nilFn) := by kernel_rfl
@[go_sem] theorem Try.agg77 : aggO Try.prog 77 = some false := by kernel_rfl
@[go_sem] theorem Try.pln77 : plainO Try.prog 77 = some true := by kernel_rfl
@[go_sem] theorem Try.sz77 : szO Try.prog 77 = some 1 := by kernel_rfl
@[go_sem] theorem Try.zero77 : zeroL Try.prog 77 = some [.nilFn] := by kernel_rfl
@[go_sem] theorem Try.small77 : smallO Try.prog 77 = some (1, 8) := by kernel_rfl
@[go_sem] theorem Try.zt77 : zeroT Try.prog 77 = some (.nilFn) := by kernel_rfl
@[go_sem] theorem Try.agg79 : aggO Try.prog 79 = some false := by kernel_rfl
@[go_sem] theorem Try.pln79 : plainO Try.prog 79 = some true := by kernel_rfl
@[go_sem] theorem Try.sz79 : szO Try.prog 79 = some 1 := by kernel_rfl
@[go_sem] theorem Try.zero79 : zeroL Try.prog 79 = some [.nilFn] := by kernel_rfl
@[go_sem] theorem Try.small79 : smallO Try.prog 79 = some (1, 8) := by kernel_rfl
@[go_sem] theorem Try.zt79 : zeroT Try.prog 79 = some (.nilFn) := by kernel_rfl
@[go_sem] theorem Try.agg80 : aggO Try.prog 80 = some false := by kernel_rfl
@[go_sem] theorem Try.pln80 : plainO Try.prog 80 = some true := by kernel_rfl
@[go_sem] theorem Try.sz80 : szO Try.prog 80 = some 1 := by kernel_rfl
@[go_sem] theorem Try.zero80 : zeroL Try.prog 80 = some [.nilFn] := by kernel_rfl
@[go_sem] theorem Try.small80 : smallO Try.prog 80 = some (1, 8) := by kernel_rfl
@[go_sem] theorem Try.zt80 : zeroT Try.prog 80 = some (.nilFn) := by kernel_rfl
@[go_sem] theorem Try.agg81 : aggO Try.prog 81 = some false := by kernel_rfl
@[go_sem] theorem Try.pln81 : plainO Try.prog 81 = some true := by kernel_rfl
@[go_sem] theorem Try.sz81 : szO Try.prog 81 = some 1 := by kernel_rfl
@[go_sem] theorem Try.zero81 : zeroL Try.prog 81 = some [.nilFn] := by kernel_rfl
@[go_sem] theorem Try.small81 : smallO Try.prog 81 = some (1, 8) := by kernel_rfl
@[go_sem] theorem Try.zt81 : zeroT Try.prog 81 = some (.nilFn) := by kernel_rfl
@[go_sem] theorem Try.agg82 : aggO Try.prog 82 = some false := by kernel_rfl
@[go_sem] theorem Try.pln82 : plainO Try.prog 82 = some true := by kernel_rfl
@[go_sem] theorem Try.sz82 : szO Try.prog 82 = some 1 := by kernel_rfl
@[go_sem] theorem Try.zero82 : zeroL Try.prog 82 = some [.nilFn] := by kernel_rfl
@[go_sem] theorem Try.small82 : smallO Try.prog 82 = some (1, 8) := by kernel_rfl
@[go_sem] theorem Try.zt82 : zeroT Try.prog 82 = some (.nilFn) := by kernel_rfl
@[go_sem] theorem Try.agg83 : aggO Try.prog 83 = some true := by kernel_rfl
@[go_sem] theorem Try.pln83 : plainO Try.prog 83 = some true := by kernel_rfl
@[go_sem] theorem Try.sz83 : szO Try.prog 83 = some 8 := by kernel_rfl
@[go_sem] theorem Try.zero83 : zeroL Try.prog 83 = some [.int .i64 0, .int .i64 0, .int .i64 0, .int .i64 0, .int .i64 0, .int .i64 0, .int .i64 0, .int .i64 0] := by kernel_rfl
@[go_sem] theorem Try.small83 : smallO Try.prog 83 = some (8, 64) := by kernel_rfl
@[go_sem] theorem Try.zt83 : zeroT Try.prog 83 = some (.agg [.int .i64 0, .int .i64 0, .int .i64 0, .int .i64 0, .int .i64 0, .int .i64 0, .int .i64 0, .int .i64 0]) := by kernel_rfl
@[go_sem] theorem Try.fld83_0 : fieldO Try.prog 83 0 = some (0, 3) := by kernel_rfl
@[go_sem] theorem Try.fld83_1 : fieldO Try.prog 83 1 = some (1, 29) := by kernel_rfl
@[go_sem] theorem Try.fld83_2 : fieldO Try.prog 83 2 = some (3, 29) := by kernel_rfl
@[go_sem] theorem Try.fld83_3 : fieldO Try.prog 83 3 = some (5, 29) := by kernel_rfl
@[go_sem] theorem Try.fld83_4 : fieldO Try.prog 83 4 = some (7, 3) := by kernel_rfl
@[go_sem] theorem Try.bld83 (parts : List (Nat × TV)) : buildO Try.prog 83 parts = (fillT (fun i => ([(0, 1), (1, 2), (3, 2), (5, 2), (7, 1)] : List (Nat × Nat))[i]?) [.int .i64 0, .int .i64 0, .int .i64 0, .int .i64 0, .int .i64 0, .int .i64 0, .int .i64 0, .int .i64 0] parts).map .agg := by kernel_rfl
@[go_sem] theorem Try.eqg83 : Program.eqGuardType Try.prog (Program.depth Try.prog) 83 = false := by kernel_rfl
@[go_sem] theorem Try.agg84 : aggO Try.prog 84 = some true := by kernel_rfl
@[go_sem] theorem Try.pln84 : plainO Try.prog 84 = some true := by kernel_rfl
@[go_sem] theorem Try.sz84 : szO Try.prog 84 = some 8 := by kernel_rfl
@[go_sem] theorem Try.zero84 : zeroL Try.prog 84 = some [.int .i64 0, .int .i64 0, .int .i64 0, .int .i64 0, .int .i64 0, .int .i64 0, .int .i64 0, .int .i64 0] := by kernel_rfl
@[go_sem] theorem Try.small84 : smallO Try.prog 84 = some (8, 64) := by kernel_rfl
@[go_sem] theorem Try.zt84 : zeroT Try.prog 84 = some (.agg [.int .i64 0, .int .i64 0, .int .i64 0, .int .i64 0, .int .i64 0, .int .i64 0, .int .i64 0, .int .i64 0]) := by kernel_rfl
@[go_sem] theorem Try.fld84_0 : fieldO Try.prog 84 0 = some (0, 3) := by kernel_rfl
@[go_sem] theorem Try.fld84_1 : fieldO Try.prog 84 1 = some (1, 29) := by kernel_rfl
@[go_sem] theorem Try.fld84_2 : fieldO Try.prog 84 2 = some (3, 29) := by kernel_rfl
@[go_sem] theorem Try.fld84_3 : fieldO Try.prog 84 3 = some (5, 29) := by kernel_rfl
@[go_sem] theorem Try.fld84_4 : fieldO Try.prog 84 4 = some (7, 3) := by kernel_rfl
@[go_sem] theorem Try.bld84 (parts : List (Nat × TV)) : buildO Try.prog 84 parts = (fillT (fun i => ([(0, 1), (1, 2), (3, 2), (5, 2), (7, 1)] : List (Nat × Nat))[i]?) [.int .i64 0, .int .i64 0, .int .i64 0, .int .i64 0, .int .i64 0, .int .i64 0, .int .i64 0, .int .i64 0] parts).map .agg := by kernel_rfl
@[go_sem] theorem Try.eq84 (a0 b0 : Int) (a1 b1 : Int) (a2 b2 : Int) (a3 b3 : Int) (a4 b4 : Int) (a5 b5 : Int) (a6 b6 : Int) (a7 b7 : Int) : eqT Try.prog 20 84 (.agg [.int .i64 a0, .int .i64 a1, .int .i64 a2, .int .i64 a3, .int .i64 a4, .int .i64 a5, .int .i64 a6, .int .i64 a7]) (.agg [.int .i64 b0, .int .i64 b1, .int .i64 b2, .int .i64 b3, .int .i64 b4, .int .i64 b5, .int .i64 b6, .int .i64 b7]) = some ((a0 == b0) && (((a1 == b1) && ((a2 == b2) && true)) && (((a3 == b3) && ((a4 == b4) && true)) && (((a5 == b5) && ((a6 == b6) && true)) && ((a7 == b7) && true))))) := by kernel_rfl
@[go_sem] theorem Try.eqg84 : Program.eqGuardType Try.prog (Program.depth Try.prog) 84 = false := by kernel_rfl
@[go_sem] theorem Try.agg85 : aggO Try.prog 85 = some false := by kernel_rfl
@[go_sem] theorem Try.pln85 : plainO Try.prog 85 = some true := by kernel_rfl
@[go_sem] theorem Try.sz85 : szO Try.prog 85 = some 1 := by kernel_rfl
@[go_sem] theorem Try.zero85 : zeroL Try.prog 85 = some [.nilSl] := by kernel_rfl
@[go_sem] theorem Try.small85 : smallO Try.prog 85 = some (1, 24) := by kernel_rfl
@[go_sem] theorem Try.zt85 : zeroT Try.prog 85 = some (.nilSl) := by kernel_rfl
@[go_sem] theorem Try.eqn85 : eqT Try.prog 20 85 .nilSl .nilSl = some true := by kernel_rfl
@[go_sem] theorem Try.eqs85 (cs : List TV) (n : Nat) (f : Bool) : eqT Try.prog 20 85 (.sl cs n f) .nilSl = some false := by kernel_rfl
@[go_sem] theorem Try.eqt85 (cs : List TV) (n : Nat) (f : Bool) : eqT Try.prog 20 85 .nilSl (.sl cs n f) = some false := by kernel_rfl
@[go_sem] theorem Try.sl85 : sliceO Try.prog 85 = some 218 := by kernel_rfl
@[go_sem] theorem Try.und85 : Program.underlying Try.prog 85 = some (.slice 218) := by kernel_rfl
@[go_sem] theorem Try.agg86 : aggO Try.prog 86 = some true := by kernel_rfl
@[go_sem] theorem Try.pln86 : plainO Try.prog 86 = some true := by kernel_rfl
@[go_sem] theorem Try.sz86 : szO Try.prog 86 = some 3 := by kernel_rfl
@[go_sem] theorem Try.zero86 : zeroL Try.prog 86 = some [.int .i64 0, .int .i64 0, .int .i64 0] := by kernel_rfl
@[go_sem] theorem Try.small86 : smallO Try.prog 86 = some (3, 24) := by kernel_rfl
@[go_sem] theorem Try.zt86 : zeroT Try.prog 86 = some (.agg [.int .i64 0, .int .i64 0, .int .i64 0]) := by kernel_rfl
@[go_sem] theorem Try.fld86_0 : fieldO Try.prog 86 0 = some (0, 3) := by kernel_rfl
@[go_sem] theorem Try.fld86_1 : fieldO Try.prog 86 1 = some (1, 3) := by kernel_rfl
@[go_sem] theorem Try.fld86_2 : fieldO Try.prog 86 2 = some (2, 3) := by kernel_rfl
@[go_sem] theorem Try.bld86 (parts : List (Nat × TV)) : buildO Try.prog 86 parts = (fillT (fun i => ([(0, 1), (1, 1), (2, 1)] : List (Nat × Nat))[i]?) [.int .i64 0, .int .i64 0, .int .i64 0] parts).map .agg := by kernel_rfl
@[go_sem] theorem Try.eqg86 : Program.eqGuardType Try.prog (Program.depth Try.prog) 86 = false := by kernel_rfl
@[go_sem] theorem Try.agg87 : aggO Try.prog 87 = some true := by kernel_rfl
@[go_sem] theorem Try.pln87 : plainO Try.prog 87 = some true := by kernel_rfl
@[go_sem] theorem Try.sz87 : szO Try.prog 87 = some 3 := by kernel_rfl
@[go_sem] theorem Try.zero87 : zeroL Try.prog 87 = some [.int .i64 0, .int .i64 0, .int .i64 0] := by kernel_rfl
@[go_sem] theorem Try.small87 : smallO Try.prog 87 = some (3, 24) := by kernel_rfl
@[go_sem] theorem Try.zt87 : zeroT Try.prog 87 = some (.agg [.int .i64 0, .int .i64 0, .int .i64 0]) := by kernel_rfl
@[go_sem] theorem Try.fld87_0 : fieldO Try.prog 87 0 = some (0, 3) := by kernel_rfl
@[go_sem] theorem Try.fld87_1 : fieldO Try.prog 87 1 = some (1, 3) := by kernel_rfl
@[go_sem] theorem Try.fld87_2 : fieldO Try.prog 87 2 = some (2, 3) := by kernel_rfl
@[go_sem] theorem Try.bld87 (parts : List (Nat × TV)) : buildO Try.prog 87 parts = (fillT (fun i => ([(0, 1), (1, 1), (2, 1)] : List (Nat × Nat))[i]?) [.int .i64 0, .int .i64 0, .int .i64 0] parts).map .agg := by kernel_rfl
@[go_sem] theorem Try.eq87 (a0 b0 : Int) (a1 b1 : Int) (a2 b2 : Int) : eqT Try.prog 20 87 (.agg [.int .i64 a0, .int .i64 a1, .int .i64 a2]) (.agg [.int .i64 b0, .int .i64 b1, .int .i64 b2]) = some ((a0 == b0) && ((a1 == b1) && ((a2 == b2) && true))) := by kernel_rfl
@[go_sem] theorem Try.eqg87 : Program.eqGuardType Try.prog (Program.depth Try.prog) 87 = false := by kernel_rfl
@[go_sem] theorem Try.agg88 : aggO Try.prog 88 = some true := by kernel_rfl
@[go_sem] theorem Try.pln88 : plainO Try.prog 88 = some true := by kernel_rfl
@[go_sem] theorem Try.sz88 : szO Try.prog 88 = some 14 := by kernel_rfl
@[go_sem] theorem Try.zero88 : zeroL Try.prog 88 = some [.int .i64 0, .int .i64 0, .int .i64 0, .int .i64 0, .int .i64 0, .int .i64 0, .int .i64 0, .int .i64 0, .nilSl, .int .i64 0, .int .i64 0, .int .i64 0, .int .i64 0, .int .i64 0] := by kernel_rfl
@[go_sem] theorem Try.small88 : smallO Try.prog 88 = some (14, 128) := by kernel_rfl
@[go_sem] theorem Try.zt88 : zeroT Try.prog 88 = some (.agg [.int .i64 0, .int .i64 0, .int .i64 0, .int .i64 0, .int .i64 0, .int .i64 0, .int .i64 0, .int .i64 0, .nilSl, .int .i64 0, .int .i64 0, .int .i64 0, .int .i64 0, .int .i64 0]) := by kernel_rfl
@[go_sem] theorem Try.fld88_0 : fieldO Try.prog 88 0 = some (0, 84) := by kernel_rfl
@[go_sem] theorem Try.fld88_1 : fieldO Try.prog 88 1 = some (8, 85) := by kernel_rfl
@[go_sem] theorem Try.fld88_2 : fieldO Try.prog 88 2 = some (9, 87) := by kernel_rfl
@[go_sem] theorem Try.fld88_3 : fieldO Try.prog 88 3 = some (12, 3) := by kernel_rfl
@[go_sem] theorem Try.fld88_4 : fieldO Try.prog 88 4 = some (13, 3) := by kernel_rfl
@[go_sem] theorem Try.bld88 (parts : List (Nat × TV)) : buildO Try.prog 88 parts = (fillT (fun i => ([(0, 8), (8, 1), (9, 3), (12, 1), (13, 1)] : List (Nat × Nat))[i]?) [.int .i64 0, .int .i64 0, .int .i64 0, .int .i64 0, .int .i64 0, .int .i64 0, .int .i64 0, .int .i64 0, .nilSl, .int .i64 0, .int .i64 0, .int .i64 0, .int .i64 0, .int .i64 0] parts).map .agg := by kernel_rfl
@[go_sem] theorem Try.bldp88 (parts : List (Nat × PV)) : buildP Try.prog 88 parts = fillP (fun i => ([(0, 8), (8, 1), (9, 3), (12, 1), (13, 1)] : List (Nat × Nat))[i]?) [.t (.int .i64 0), .t (.int .i64 0), .t (.int .i64 0), .t (.int .i64 0), .t (.int .i64 0), .t (.int .i64 0), .t (.int .i64 0), .t (.int .i64 0), .t (.nilSl), .t (.int .i64 0), .t (.int .i64 0), .t (.int .i64 0), .t (.int .i64 0), .t (.int .i64 0)] parts := by kernel_rfl
@[go_sem] theorem Try.eqg88 : Program.eqGuardType Try.prog (Program.depth Try.prog) 88 = false := by kernel_rfl
@[go_sem] theorem Try.agg89 : aggO Try.prog 89 = some true := by kernel_rfl
@[go_sem] theorem Try.pln89 : plainO Try.prog 89 = some true := by kernel_rfl
@[go_sem] theorem Try.sz89 : szO Try.prog 89 = some 14 := by kernel_rfl
@[go_sem] theorem Try.zero89 : zeroL Try.prog 89 = some [.int .i64 0, .int .i64 0, .int .i64 0, .int .i64 0, .int .i64 0, .int .i64 0, .int .i64 0, .int .i64 0, .nilSl, .int .i64 0, .int .i64 0, .int .i64 0, .int .i64 0, .int .i64 0] := by kernel_rfl
@[go_sem] theorem Try.small89 : smallO Try.prog 89 = some (14, 128) := by kernel_rfl
@[go_sem] theorem Try.zt89 : zeroT Try.prog 89 = some (.agg [.int .i64 0, .int .i64 0, .int .i64 0, .int .i64 0, .int .i64 0, .int .i64 0, .int .i64 0, .int .i64 0, .nilSl, .int .i64 0, .int .i64 0, .int .i64 0, .int .i64 0, .int .i64 0]) := by kernel_rfl
@[go_sem] theorem Try.fld89_0 : fieldO Try.prog 89 0 = some (0, 84) := by kernel_rfl
@[go_sem] theorem Try.fld89_1 : fieldO Try.prog 89 1 = some (8, 85) := by kernel_rfl
@[go_sem] theorem Try.fld89_2 : fieldO Try.prog 89 2 = some (9, 87) := by kernel_rfl
@[go_sem] theorem Try.fld89_3 : fieldO Try.prog 89 3 = some (12, 3) := by kernel_rfl
@[go_sem] theorem Try.fld89_4 : fieldO Try.prog 89 4 = some (13, 3) := by kernel_rfl
@[go_sem] theorem Try.bld89 (parts : List (Nat × TV)) : buildO Try.prog 89 parts = (fillT (fun i => ([(0, 8), (8, 1), (9, 3), (12, 1), (13, 1)] : List (Nat × Nat))[i]?) [.int .i64 0, .int .i64 0, .int .i64 0, .int .i64 0, .int .i64 0, .int .i64 0, .int .i64 0, .int .i64 0, .nilSl, .int .i64 0, .int .i64 0, .int .i64 0, .int .i64 0, .int .i64 0] parts).map .agg := by kernel_rfl
@[go_sem] theorem Try.bldp89 (parts : List (Nat × PV)) : buildP Try.prog 89 parts = fillP (fun i => ([(0, 8), (8, 1), (9, 3), (12, 1), (13, 1)] : List (Nat × Nat))[i]?) [.t (.int .i64 0), .t (.int .i64 0), .t (.int .i64 0), .t (.int .i64 0), .t (.int .i64 0), .t (.int .i64 0), .t (.int .i64 0), .t (.int .i64 0), .t (.nilSl), .t (.int .i64 0), .t (.int .i64 0), .t (.int .i64 0), .t (.int .i64 0), .t (.int .i64 0)] parts := by kernel_rfl
@[go_sem] theorem Try.eqg89 : Program.eqGuardType Try.prog (Program.depth Try.prog) 89 = false := by kernel_rfl
@[go_sem] theorem Try.agg90 : aggO Try.prog 90 = some true := by kernel_rfl
@[go_sem] theorem Try.pln90 : plainO Try.prog 90 = some true := by kernel_rfl
@[go_sem] theorem Try.sz90 : szO Try.prog 90 = some 6 := by kernel_rfl
@[go_sem] theorem Try.zero90 : zeroL Try.prog 90 = some [.int .i64 0, .nilSl, .int .i64 0, .int .i64 0, .int .i64 0, .nilSl] := by kernel_rfl
@[go_sem] theorem Try.small90 : smallO Try.prog 90 = some (6, 80) := by kernel_rfl
@[go_sem] theorem Try.zt90 : zeroT Try.prog 90 = some (.agg [.int .i64 0, .nilSl, .int .i64 0, .int .i64 0, .int .i64 0, .nilSl]) := by kernel_rfl
@[go_sem] theorem Try.fld90_0 : fieldO Try.prog 90 0 = some (0, 3) := by kernel_rfl
@[go_sem] theorem Try.fld90_1 : fieldO Try.prog 90 1 = some (1, 23) := by kernel_rfl
@[go_sem] theorem Try.fld90_2 : fieldO Try.prog 90 2 = some (2, 29) := by kernel_rfl
@[go_sem] theorem Try.fld90_3 : fieldO Try.prog 90 3 = some (4, 3) := by kernel_rfl
@[go_sem] theorem Try.fld90_4 : fieldO Try.prog 90 4 = some (5, 23) := by kernel_rfl
@[go_sem] theorem Try.bld90 (parts : List (Nat × TV)) : buildO Try.prog 90 parts = (fillT (fun i => ([(0, 1), (1, 1), (2, 2), (4, 1), (5, 1)] : List (Nat × Nat))[i]?) [.int .i64 0, .nilSl, .int .i64 0, .int .i64 0, .int .i64 0, .nilSl] parts).map .agg := by kernel_rfl
@[go_sem] theorem Try.bldp90 (parts : List (Nat × PV)) : buildP Try.prog 90 parts = fillP (fun i => ([(0, 1), (1, 1), (2, 2), (4, 1), (5, 1)] : List (Nat × Nat))[i]?) [.t (.int .i64 0), .t (.nilSl), .t (.int .i64 0), .t (.int .i64 0), .t (.int .i64 0), .t (.nilSl)] parts := by kernel_rfl
@[go_sem] theorem Try.eqg90 : Program.eqGuardType Try.prog (Program.depth Try.prog) 90 = false := by kernel_rfl
@[go_sem] theorem Try.agg91 : aggO Try.prog 91 = some true := by kernel_rfl
@[go_sem] theorem Try.pln91 : plainO Try.prog 91 = some true := by kernel_rfl
@[go_sem] theorem Try.sz91 : szO Try.prog 91 = some 6 := by kernel_rfl
@[go_sem] theorem Try.zero91 : zeroL Try.prog 91 = some [.int .i64 0, .nilSl, .int .i64 0, .int .i64 0, .int .i64 0, .nilSl] := by kernel_rfl
@[go_sem] theorem Try.small91 : smallO Try.prog 91 = some (6, 80) := by kernel_rfl
@[go_sem] theorem Try.zt91 : zeroT Try.prog 91 = some (.agg [.int .i64 0, .nilSl, .int .i64 0, .int .i64 0, .int .i64 0, .nilSl]) := by kernel_rfl
@[go_sem] theorem Try.fld91_0 : fieldO Try.prog 91 0 = some (0, 3) := by kernel_rfl
@[go_sem] theorem Try.fld91_1 : fieldO Try.prog 91 1 = some (1, 23) := by kernel_rfl
@[go_sem] theorem Try.fld91_2 : fieldO Try.prog 91 2 = some (2, 29) := by kernel_rfl
@[go_sem] theorem Try.fld91_3 : fieldO Try.prog 91 3 = some (4, 3) := by kernel_rfl
@[go_sem] theorem Try.fld91_4 : fieldO Try.prog 91 4 = some (5, 23) := by kernel_rfl
@[go_sem] theorem Try.bld91 (parts : List (Nat × TV)) : buildO Try.prog 91 parts = (fillT (fun i => ([(0, 1), (1, 1), (2, 2), (4, 1), (5, 1)] : List (Nat × Nat))[i]?) [.int .i64 0, .nilSl, .int .i64 0, .int .i64 0, .int .i64 0, .nilSl] parts).map .agg := by kernel_rfl
@[go_sem] theorem Try.bldp91 (parts : List (Nat × PV)) : buildP Try.prog 91 parts = fillP (fun i => ([(0, 1), (1, 1), (2, 2), (4, 1), (5, 1)] : List (Nat × Nat))[i]?) [.t (.int .i64 0), .t (.nilSl), .t (.int .i64 0), .t (.int .i64 0), .t (.int .i64 0), .t (.nilSl)] parts := by kernel_rfl
@[go_sem] theorem Try.eqg91 : Program.eqGuardType Try.prog (Program.depth Try.prog) 91 = false := by kernel_rfl
@[go_sem] theorem Try.agg92 : aggO Try.prog 92 = some true := by kernel_rfl
@[go_sem] theorem Try.pln92 : plainO Try.prog 92 = some true := by kernel_rfl
@[go_sem] theorem Try.sz92 : szO Try.prog 92 = some 2 := by kernel_rfl
@[go_sem] theorem Try.zero92 : zeroL Try.prog 92 = some [.int .i64 0, .int .i64 0] := by kernel_rfl
@[go_sem] theorem Try.small92 : smallO Try.prog 92 = some (2, 16) := by kernel_rfl
@[go_sem] theorem Try.zt92 : zeroT Try.prog 92 = some (.agg [.int .i64 0, .int .i64 0]) := by kernel_rfl
@[go_sem] theorem Try.fld92_0 : fieldO Try.prog 92 0 = some (0, 3) := by kernel_rfl
@[go_sem] theorem Try.fld92_1 : fieldO Try.prog 92 1 = some (1, 3) := by kernel_rfl
@[go_sem] theorem Try.bld92 (parts : List (Nat × TV)) : buildO Try.prog 92 parts = (fillT (fun i => ([(0, 1), (1, 1)] : List (Nat × Nat))[i]?) [.int .i64 0, .int .i64 0] parts).map .agg := by kernel_rfl
@[go_sem] theorem Try.eqg92 : Program.eqGuardType Try.prog (Program.depth Try.prog) 92 = false := by kernel_rfl
@[go_sem] theorem Try.agg93 : aggO Try.prog 93 = some true := by kernel_rfl
@[go_sem] theorem Try.pln93 : plainO Try.prog 93 = some true := by kernel_rfl
@[go_sem] theorem Try.sz93 : szO Try.prog 93 = some 2 := by kernel_rfl
@[go_sem] theorem Try.zero93 : zeroL Try.prog 93 = some [.int .i64 0, .int .i64 0] := by kernel_rfl
@[go_sem] theorem Try.small93 : smallO Try.prog 93 = some (2, 16) := by kernel_rfl
@[go_sem] theorem Try.zt93 : zeroT Try.prog 93 = some (.agg [.int .i64 0, .int .i64 0]) := by kernel_rfl
@[go_sem] theorem Try.fld93_0 : fieldO Try.prog 93 0 = some (0, 3) := by kernel_rfl
@[go_sem] theorem Try.fld93_1 : fieldO Try.prog 93 1 = some (1, 3) := by kernel_rfl
@[go_sem] theorem Try.bld93 (parts : List (Nat × TV)) : buildO Try.prog 93 parts = (fillT (fun i => ([(0, 1), (1, 1)] : List (Nat × Nat))[i]?) [.int .i64 0, .int .i64 0] parts).map .agg := by kernel_rfl
@[go_sem] theorem Try.eq93 (a0 b0 : Int) (a1 b1 : Int) : eqT Try.prog 20 93 (.agg [.int .i64 a0, .int .i64 a1]) (.agg [.int .i64 b0, .int .i64 b1]) = some ((a0 == b0) && ((a1 == b1) && true)) := by kernel_rfl
@[go_sem] theorem Try.eqg93 : Program.eqGuardType Try.prog (Program.depth Try.prog) 93 = false := by kernel_rfl
@[go_sem] theorem Try.agg94 : aggO Try.prog 94 = some true := by kernel_rfl
@[go_sem] theorem Try.pln94 : plainO Try.prog 94 = some true := by kernel_rfl
@[go_sem] theorem Try.sz94 : szO Try.prog 94 = some 6 := by kernel_rfl
@[go_sem] theorem Try.zero94 : zeroL Try.prog 94 = some [.int .i64 0, .int .i64 0, .int .i64 0, .int .i64 0, .int .i64 0, .int .i64 0] := by kernel_rfl
@[go_sem] theorem Try.small94 : smallO Try.prog 94 = some (6, 48) := by kernel_rfl
@[go_sem] theorem Try.zt94 : zeroT Try.prog 94 = some (.agg [.int .i64 0, .int .i64 0, .int .i64 0, .int .i64 0, .int .i64 0, .int .i64 0]) := by kernel_rfl
@[go_sem] theorem Try.fld94_0 : fieldO Try.prog 94 0 = some (0, 3) := by kernel_rfl
@[go_sem] theorem Try.fld94_1 : fieldO Try.prog 94 1 = some (1, 3) := by kernel_rfl
@[go_sem] theorem Try.fld94_2 : fieldO Try.prog 94 2 = some (2, 3) := by kernel_rfl
@[go_sem] theorem Try.fld94_3 : fieldO Try.prog 94 3 = some (3, 29) := by kernel_rfl
@[go_sem] theorem Try.fld94_4 : fieldO Try.prog 94 4 = some (5, 3) := by kernel_rfl
@[go_sem] theorem Try.bld94 (parts : List (Nat × TV)) : buildO Try.prog 94 parts = (fillT (fun i => ([(0, 1), (1, 1), (2, 1), (3, 2), (5, 1)] : List (Nat × Nat))[i]?) [.int .i64 0, .int .i64 0, .int .i64 0, .int .i64 0, .int .i64 0, .int .i64 0] parts).map .agg := by kernel_rfl
@[go_sem] theorem Try.eqg94 : Program.eqGuardType Try.prog (Program.depth Try.prog) 94 = false := by kernel_rfl
@[go_sem] theorem Try.agg95 : aggO Try.prog 95 = some true := by kernel_rfl
@[go_sem] theorem Try.pln95 : plainO Try.prog 95 = some true := by kernel_rfl
@[go_sem] theorem Try.sz95 : szO Try.prog 95 = some 6 := by kernel_rfl
@[go_sem] theorem Try.zero95 : zeroL Try.prog 95 = some [.int .i64 0, .int .i64 0, .int .i64 0, .int .i64 0, .int .i64 0, .int .i64 0] := by kernel_rfl
@[go_sem] theorem Try.small95 : smallO Try.prog 95 = some (6, 48) := by kernel_rfl
@[go_sem] theorem Try.zt95 : zeroT Try.prog 95 = some (.agg [.int .i64 0, .int .i64 0, .int .i64 0, .int .i64 0, .int .i64 0, .int .i64 0]) := by kernel_rfl
@[go_sem] theorem Try.fld95_0 : fieldO Try.prog 95 0 = some (0, 3) := by kernel_rfl
@[go_sem] theorem Try.fld95_1 : fieldO Try.prog 95 1 = some (1, 3) := by kernel_rfl
@[go_sem] theorem Try.fld95_2 : fieldO Try.prog 95 2 = some (2, 3) := by kernel_rfl
@[go_sem] theorem Try.fld95_3 : fieldO Try.prog 95 3 = some (3, 29) := by kernel_rfl
@[go_sem] theorem Try.fld95_4 : fieldO Try.prog 95 4 = some (5, 3) := by kernel_rfl
@[go_sem] theorem Try.bld95 (parts : List (Nat × TV)) : buildO Try.prog 95 parts = (fillT (fun i => ([(0, 1), (1, 1), (2, 1), (3, 2), (5, 1)] : List (Nat × Nat))[i]?) [.int .i64 0, .int .i64 0, .int .i64 0, .int .i64 0, .int .i64 0, .int .i64 0] parts).map .agg := by kernel_rfl
@[go_sem] theorem Try.eq95 (a0 b0 : Int) (a1 b1 : Int) (a2 b2 : Int) (a3 b3 : Int) (a4 b4 : Int) (a5 b5 : Int) : eqT Try.prog 20 95 (.agg [.int .i64 a0, .int .i64 a1, .int .i64 a2, .int .i64 a3, .int .i64 a4, .int .i64 a5]) (.agg [.int .i64 b0, .int .i64 b1, .int .i64 b2, .int .i64 b3, .int .i64 b4, .int .i64 b5]) = some ((a0 == b0) && ((a1 == b1) && ((a2 == b2) && (((a3 == b3) && ((a4 == b4) && true)) && ((a5 == b5) && true))))) := by kernel_rfl
@[go_sem] theorem Try.eqg95 : Program.eqGuardType Try.prog (Program.depth Try.prog) 95 = false := by kernel_rfl
@[go_sem] theorem Try.agg96 : aggO Try.prog 96 = some true := by kernel_rfl
@[go_sem] theorem Try.pln96 : plainO Try.prog 96 = some true := by kernel_rfl
@[go_sem] theorem Try.sz96 : szO Try.prog 96 = some 16 := by kernel_rfl
@[go_sem] theorem Try.zero96 : zeroL Try.prog 96 = some [.int .i64 0, .nilSl, .int .i64 0, .int .i64 0, .int .i64 0, .nilSl, .int .i64 0, .int .i64 0, .int .i64 0, .int .i64 0, .int .i64 0, .int .i64 0, .int .i64 0, .int .i64 0, .int .i64 0, .int .i64 0] := by kernel_rfl
@[go_sem] theorem Try.small96 : smallO Try.prog 96 = some (16, 160) := by kernel_rfl
@[go_sem] theorem Try.zt96 : zeroT Try.prog 96 = some (.agg [.int .i64 0, .nilSl, .int .i64 0, .int .i64 0, .int .i64 0, .nilSl, .int .i64 0, .int .i64 0, .int .i64 0, .int .i64 0, .int .i64 0, .int .i64 0, .int .i64 0, .int .i64 0, .int .i64 0, .int .i64 0]) := by kernel_rfl
@[go_sem] theorem Try.fld96_0 : fieldO Try.prog 96 0 = some (0, 91) := by kernel_rfl
@[go_sem] theorem Try.fld96_1 : fieldO Try.prog 96 1 = some (6, 93) := by kernel_rfl
@[go_sem] theorem Try.fld96_2 : fieldO Try.prog 96 2 = some (8, 93) := by kernel_rfl
@[go_sem] theorem Try.fld96_3 : fieldO Try.prog 96 3 = some (10, 95) := by kernel_rfl
@[go_sem] theorem Try.bld96 (parts : List (Nat × TV)) : buildO Try.prog 96 parts = (fillT (fun i => ([(0, 6), (6, 2), (8, 2), (10, 6)] : List (Nat × Nat))[i]?) [.int .i64 0, .nilSl, .int .i64 0, .int .i64 0, .int .i64 0, .nilSl, .int .i64 0, .int .i64 0, .int .i64 0, .int .i64 0, .int .i64 0, .int .i64 0, .int .i64 0, .int .i64 0, .int .i64 0, .int .i64 0] parts).map .agg := by kernel_rfl
@[go_sem] theorem Try.bldp96 (parts : List (Nat × PV)) : buildP Try.prog 96 parts = fillP (fun i => ([(0, 6), (6, 2), (8, 2), (10, 6)] : List (Nat × Nat))[i]?) [.t (.int .i64 0), .t (.nilSl), .t (.int .i64 0), .t (.int .i64 0), .t (.int .i64 0), .t (.nilSl), .t (.int .i64 0), .t (.int .i64 0), .t (.int .i64 0), .t (.int .i64 0), .t (.int .i64 0), .t (.int .i64 0), .t (.int .i64 0), .t (.int .i64 0), .t (.int .i64 0), .t (.int .i64 0)] parts := by kernel_rfl
@[go_sem] theorem Try.eqg96 : Program.eqGuardType Try.prog (Program.depth Try.prog) 96 = false := by kernel_rfl
@[go_sem] theorem Try.agg97 : aggO Try.prog 97 = some true := by kernel_rfl
@[go_sem] theorem Try.pln97 : plainO Try.prog 97 = some true := by kernel_rfl
@[go_sem] theorem Try.sz97 : szO Try.prog 97 = some 16 := by kernel_rfl
@[go_sem] theorem Try.zero97 : zeroL Try.prog 97 = some [.int .i64 0, .nilSl, .int .i64 0, .int .i64 0, .int .i64 0, .nilSl, .int .i64 0, .int .i64 0, .int .i64 0, .int .i64 0, .int .i64 0, .int .i64 0, .int .i64 0, .int .i64 0, .int .i64 0, .int .i64 0] := by kernel_rfl
@[go_sem] theorem Try.small97 : smallO Try.prog 97 = some (16, 160) := by kernel_rfl
@[go_sem] theorem Try.zt97 : zeroT Try.prog 97 = some (.agg [.int .i64 0, .nilSl, .int .i64 0, .int .i64 0, .int .i64 0, .nilSl, .int .i64 0, .int .i64 0, .int .i64 0, .int .i64 0, .int .i64 0, .int .i64 0, .int .i64 0, .int .i64 0, .int .i64 0, .int .i64 0]) := by kernel_rfl
@[go_sem] theorem Try.fld97_0 : fieldO Try.prog 97 0 = some (0, 91) := by kernel_rfl
@[go_sem] theorem Try.fld97_1 : fieldO Try.prog 97 1 = some (6, 93) := by kernel_rfl
@[go_sem] theorem Try.fld97_2 : fieldO Try.prog 97 2 = some (8, 93) := by kernel_rfl
@[go_sem] theorem Try.fld97_3 : fieldO Try.prog 97 3 = some (10, 95) := by kernel_rfl
@[go_sem] theorem Try.bld97 (parts : List (Nat × TV)) : buildO Try.prog 97 parts = (fillT (fun i => ([(0, 6), (6, 2), (8, 2), (10, 6)] : List (Nat × Nat))[i]?) [.int .i64 0, .nilSl, .int .i64 0, .int .i64 0, .int .i64 0, .nilSl, .int .i64 0, .int .i64 0, .int .i64 0, .int .i64 0, .int .i64 0, .int .i64 0, .int .i64 0, .int .i64 0, .int .i64 0, .int .i64 0] parts).map .agg := by kernel_rfl
@[go_sem] theorem Try.bldp97 (parts : List (Nat × PV)) : buildP Try.prog 97 parts = fillP (fun i => ([(0, 6), (6, 2), (8, 2), (10, 6)] : List (Nat × Nat))[i]?) [.t (.int .i64 0), .t (.nilSl), .t (.int .i64 0), .t (.int .i64 0), .t (.int .i64 0), .t (.nilSl), .t (.int .i64 0), .t (.int .i64 0), .t (.int .i64 0), .t (.int .i64 0), .t (.int .i64 0), .t (.int .i64 0), .t (.int .i64 0), .t (.int .i64 0), .t (.int .i64 0), .t (.int .i64 0)] parts := by kernel_rfl
@[go_sem] theorem Try.eqg97 : Program.eqGuardType Try.prog (Program.depth Try.prog) 97 = false := by kernel_rfl
@[go_sem] theorem Try.agg98 : aggO Try.prog 98 = some false := by kernel_rfl
@[go_sem] theorem Try.pln98 : plainO Try.prog 98 = some true := by kernel_rfl
@[go_sem] theorem Try.sz98 : szO Try.prog 98 = some 1 := by kernel_rfl
@[go_sem] theorem Try.zero98 : zeroL Try.prog 98 = some [.nilFn] := by kernel_rfl
@[go_sem] theorem Try.small98 : smallO Try.prog 98 = some (1, 8) := by kernel_rfl
@[go_sem] theorem Try.zt98 : zeroT Try.prog 98 = some (.nilFn) := by kernel_rfl
@[go_sem] theorem Try.agg99 : aggO Try.prog 99 = some false := by kernel_rfl
@[go_sem] theorem Try.pln99 : plainO Try.prog 99 = some true := by kernel_rfl
@[go_sem] theorem Try.sz99 : szO Try.prog 99 = some 1 := by kernel_rfl
@[go_sem] theorem Try.zero99 : zeroL Try.prog 99 = some [.nilFn] := by kernel_rfl
@[go_sem] theorem Try.small99 : smallO Try.prog 99 = some (1, 8) := by kernel_rfl
@[go_sem] theorem Try.zt99 : zeroT Try.prog 99 = some (.nilFn) := by kernel_rfl
@[go_sem] theorem Try.agg101 : aggO Try.prog 101 = some false := by kernel_rfl
@[go_sem] theorem Try.pln101 : plainO Try.prog 101 = some true := by kernel_rfl
@[go_sem] theorem Try.sz101 : szO Try.prog 101 = some 1 := by kernel_rfl
@[go_sem] theorem Try.zero101 : zeroL Try.prog 101 = some [.nilFn] := by kernel_rfl
@[go_sem] theorem Try.small101 : smallO Try.prog 101 = some (1, 8) := by kernel_rfl
@[go_sem] theorem Try.zt101 : zeroT Try.prog 101 = some (.nilFn) := by kernel_rfl
@[go_sem] theorem Try.agg102 : aggO Try.prog 102 = some false := by kernel_rfl
@[go_sem] theorem Try.pln102 : plainO Try.prog 102 = some true := by kernel_rfl
@[go_sem] theorem Try.sz102 : szO Try.prog 102 = some 1 := by kernel_rfl
@[go_sem] theorem Try.zero102 : zeroL Try.prog 102 = some [.nilFn] := by kernel_rfl
@[go_sem] theorem Try.small102 : smallO Try.prog 102 = some (1, 8) := by kernel_rfl
@[go_sem] theorem Try.zt102 : zeroT Try.prog 102 = some (.nilFn) := by kernel_rfl
@[go_sem] theorem Try.agg103 : aggO Try.prog 103 = some false := by kernel_rfl
@[go_sem] theorem Try.pln103 : plainO Try.prog 103 = some true := by kernel_rfl
@[go_sem] theorem Try.sz103 : szO Try.prog 103 = some 1 := by kernel_rfl
@[go_sem] theorem Try.zero103 : zeroL Try.prog 103 = some [.nilFn] := by kernel_rfl
@[go_sem] theorem Try.small103 : smallO Try.prog 103 = some (1, 8) := by kernel_rfl
@[go_sem] theorem Try.zt103 : zeroT Try.prog 103 = some (.nilFn) := by kernel_rfl
@[go_sem] theorem Try.agg104 : aggO Try.prog 104 = some false := by kernel_rfl
@[go_sem] theorem Try.pln104 : plainO Try.prog 104 = some true := by kernel_rfl
@[go_sem] theorem Try.sz104 : szO Try.prog 104 = some 1 := by kernel_rfl
@[go_sem] theorem Try.zero104 : zeroL Try.prog 104 = some [.nilFn] := by kernel_rfl
@[go_sem] theorem Try.small104 : smallO Try.prog 104 = some (1, 8) := by kernel_rfl
@[go_sem] theorem Try.zt104 : zeroT Try.prog 104 = some (.nilFn) := by kernel_rfl
@[go_sem] theorem Try.agg105 : aggO Try.prog 105 = some true := by kernel_rfl
@[go_sem] theorem Try.pln105 : plainO Try.prog 105 = some true := by kernel_rfl
@[go_sem] theorem Try.sz105 : szO Try.prog 105 = some 2 := by kernel_rfl
@[go_sem] theorem Try.zero105 : zeroL Try.prog 105 = some [.int .i64 0, .nilSl] := by kernel_rfl
@[go_sem] theorem Try.small105 : smallO Try.prog 105 = some (2, 32) := by kernel_rfl
@[go_sem] theorem Try.zt105 : zeroT Try.prog 105 = some (.agg [.int .i64 0, .nilSl]) := by kernel_rfl
@[go_sem] theorem Try.fld105_0 : fieldO Try.prog 105 0 = some (0, 3) := by kernel_rfl
@[go_sem] theorem Try.fld105_1 : fieldO Try.prog 105 1 = some (1, 39) := by kernel_rfl
@[go_sem] theorem Try.bld105 (parts : List (Nat × TV)) : buildO Try.prog 105 parts = (fillT (fun i => ([(0, 1), (1, 1)] : List (Nat × Nat))[i]?) [.int .i64 0, .nilSl] parts).map .agg := by kernel_rfl
@[go_sem] theorem Try.bldp105 (parts : List (Nat × PV)) : buildP Try.prog 105 parts = fillP (fun i => ([(0, 1), (1, 1)] : List (Nat × Nat))[i]?) [.t (.int .i64 0), .t (.nilSl)] parts := by kernel_rfl
@[go_sem] theorem Try.eqg105 : Program.eqGuardType Try.prog (Program.depth Try.prog) 105 = false := by kernel_rfl
@[go_sem] theorem Try.agg106 : aggO Try.prog 106 = some true := by kernel_rfl
@[go_sem] theorem Try.pln106 : plainO Try.prog 106 = some true := by kernel_rfl
@[go_sem] theorem Try.sz106 : szO Try.prog 106 = some 2 := by kernel_rfl
@[go_sem] theorem Try.zero106 : zeroL Try.prog 106 = some [.int .i64 0, .nilSl] := by kernel_rfl
@[go_sem] theorem Try.small106 : smallO Try.prog 106 = some (2, 32) := by kernel_rfl
@[go_sem] theorem Try.zt106 : zeroT Try.prog 106 = some (.agg [.int .i64 0, .nilSl]) := by kernel_rfl
@[go_sem] theorem Try.fld106_0 : fieldO Try.prog 106 0 = some (0, 3) := by kernel_rfl
@[go_sem] theorem Try.fld106_1 : fieldO Try.prog 106 1 = some (1, 39) := by kernel_rfl
@[go_sem] theorem Try.bld106 (parts : List (Nat × TV)) : buildO Try.prog 106 parts = (fillT (fun i => ([(0, 1), (1, 1)] : List (Nat × Nat))[i]?) [.int .i64 0, .nilSl] parts).map .agg := by kernel_rfl
@[go_sem] theorem Try.bldp106 (parts : List (Nat × PV)) : buildP Try.prog 106 parts = fillP (fun i => ([(0, 1), (1, 1)] : List (Nat × Nat))[i]?) [.t (.int .i64 0), .t (.nilSl)] parts := by kernel_rfl
@[go_sem] theorem Try.eqg106 : Program.eqGuardType Try.prog (Program.depth Try.prog) 106 = false := by kernel_rfl
@[go_sem] theorem Try.agg107 : aggO Try.prog 107 = some true := by kernel_rfl
@[go_sem] theorem Try.pln107 : plainO Try.prog 107 = some true := by kernel_rfl
@[go_sem] theorem Try.sz107 : szO Try.prog 107 = some 2 := by kernel_rfl
@[go_sem] theorem Try.zero107 : zeroL Try.prog 107 = some [.int .i64 0, .int .i64 0] := by kernel_rfl
@[go_sem] theorem Try.small107 : smallO Try.prog 107 = some (2, 16) := by kernel_rfl
@[go_sem] theorem Try.zt107 : zeroT Try.prog 107 = some (.agg [.int .i64 0, .int .i64 0]) := by kernel_rfl
@[go_sem] theorem Try.bld107 (parts : List (Nat × TV)) : buildO Try.prog 107 parts = (fillT (fun i => some (i * 1, 1)) [.int .i64 0, .int .i64 0] parts).map .agg := by kernel_rfl
@[go_sem] theorem Try.eq107 (a0 b0 : Int) (a1 b1 : Int) : eqT Try.prog 20 107 (.agg [.int .i64 a0, .int .i64 a1]) (.agg [.int .i64 b0, .int .i64 b1]) = some ((a0 == b0) && ((a1 == b1) && true)) := by kernel_rfl
@[go_sem] theorem Try.eqg107 : Program.eqGuardType Try.prog (Program.depth Try.prog) 107 = false := by kernel_rfl
@[go_sem] theorem Try.arr107 : arrayO Try.prog 107 = some (2, 3) := by kernel_rfl
@[go_sem] theorem Try.und107 : Program.underlying Try.prog 107 = some (.array 2 3) := by kernel_rfl
@[go_sem] theorem Try.agg108 : aggO Try.prog 108 = some false := by kernel_rfl
@[go_sem] theorem Try.pln108 : plainO Try.prog 108 = some true := by kernel_rfl
@[go_sem] theorem Try.sz108 : szO Try.prog 108 = some 1 := by kernel_rfl
@[go_sem] theorem Try.zero108 : zeroL Try.prog 108 = some [.nilFn] := by kernel_rfl
@[go_sem] theorem Try.small108 : smallO Try.prog 108 = some (1, 8) := by kernel_rfl
@[go_sem] theorem Try.zt108 : zeroT Try.prog 108 = some (.nilFn) := by kernel_rfl
@[go_sem] theorem Try.agg109 : aggO Try.prog 109 = some false := by kernel_rfl
@[go_sem] theorem Try.pln109 : plainO Try.prog 109 = some true := by kernel_rfl
@[go_sem] theorem Try.sz109 : szO Try.prog 109 = some 1 := by kernel_rfl
@[go_sem] theorem Try.zero109 : zeroL Try.prog 109 = some [.nilFn] := by kernel_rfl
@[go_sem] theorem Try.small109 : smallO Try.prog 109 = some (1, 8) := by kernel_rfl
@[go_sem] theorem Try.zt109 : zeroT Try.prog 109 = some (.nilFn) := by kernel_rfl
@[go_sem] theorem Try.agg111 : aggO Try.prog 111 = some false := by kernel_rfl
@[go_sem] theorem Try.pln111 : plainO Try.prog 111 = some true := by kernel_rfl
@[go_sem] theorem Try.sz111 : szO Try.prog 111 = some 1 := by kernel_rfl
@[go_sem] theorem Try.zero111 : zeroL Try.prog 111 = some [.nilFn] := by kernel_rfl
@[go_sem] theorem Try.small111 : smallO Try.prog 111 = some (1, 8) := by kernel_rfl
@[go_sem] theorem Try.zt111 : zeroT Try.prog 111 = some (.nilFn) := by kernel_rfl
@[go_sem] theorem Try.agg112 : aggO Try.prog 112 = some false := by kernel_rfl
@[go_sem] theorem Try.pln112 : plainO Try.prog 112 = some true := by kernel_rfl
@[go_sem] theorem Try.sz112 : szO Try.prog 112 = some 1 := by kernel_rfl
@[go_sem] theorem Try.zero112 : zeroL Try.prog 112 = some [.nilFn] := by kernel_rfl
@[go_sem] theorem Try.small112 : smallO Try.prog 112 = some (1, 8) := by kernel_rfl
@[go_sem] theorem Try.zt112 : zeroT Try.prog 112 = some (.nilFn) := by kernel_rfl
@[go_sem] theorem Try.agg113 : aggO Try.prog 113 = some false := by kernel_rfl
@[go_sem] theorem Try.pln113 : plainO Try.prog 113 = some true := by kernel_rfl
@[go_sem] theorem Try.sz113 : szO Try.prog 113 = some 1 := by kernel_rfl
@[go_sem] theorem Try.zero113 : zeroL Try.prog 113 = some [.nilSl] := by kernel_rfl
@[go_sem] theorem Try.small113 : smallO Try.prog 113 = some (1, 24) := by kernel_rfl
@[go_sem] theorem Try.zt113 : zeroT Try.prog 113 = some (.nilSl) := by kernel_rfl
@[go_sem] theorem Try.eqn113 : eqT Try.prog 20 113 .nilSl .nilSl = some true := by kernel_rfl
@[go_sem] theorem Try.eqs113 (cs : List TV) (n : Nat) (f : Bool) : eqT Try.prog 20 113 (.sl cs n f) .nilSl = some false := by kernel_rfl
@[go_sem] theorem Try.eqt113 (cs : List TV) (n : Nat) (f : Bool) : eqT Try.prog 20 113 .nilSl (.sl cs n f) = some false := by kernel_rfl
@[go_sem] theorem Try.sl113 : sliceO Try.prog 113 = some 115 := by kernel_rfl
@[go_sem] theorem Try.und113 : Program.underlying Try.prog 113 = some (.slice 115) := by kernel_rfl
@[go_sem] theorem Try.agg114 : aggO Try.prog 114 = some true := by kernel_rfl
@[go_sem] theorem Try.pln114 : plainO Try.prog 114 = some true := by kernel_rfl
@[go_sem] theorem Try.sz114 : szO Try.prog 114 = some 3 := by kernel_rfl
@[go_sem] theorem Try.zero114 : zeroL Try.prog 114 = some [.int .i64 0, .int .i64 0, .int .i64 0] := by kernel_rfl
@[go_sem] theorem Try.small114 : smallO Try.prog 114 = some (3, 24) := by kernel_rfl
@[go_sem] theorem Try.zt114 : zeroT Try.prog 114 = some (.agg [.int .i64 0, .int .i64 0, .int .i64 0]) := by kernel_rfl
@[go_sem] theorem Try.fld114_0 : fieldO Try.prog 114 0 = some (0, 93) := by kernel_rfl
@[go_sem] theorem Try.fld114_1 : fieldO Try.prog 114 1 = some (2, 3) := by kernel_rfl
@[go_sem] theorem Try.bld114 (parts : List (Nat × TV)) : buildO Try.prog 114 parts = (fillT (fun i => ([(0, 2), (2, 1)] : List (Nat × Nat))[i]?) [.int .i64 0, .int .i64 0, .int .i64 0] parts).map .agg := by kernel_rfl
@[go_sem] theorem Try.eqg114 : Program.eqGuardType Try.prog (Program.depth Try.prog) 114 = false := by kernel_rfl
@[go_sem] theorem Try.agg115 : aggO Try.prog 115 = some true := by kernel_rfl
@[go_sem] theorem Try.pln115 : plainO Try.prog 115 = some true := by kernel_rfl
@[go_sem] theorem Try.sz115 : szO Try.prog 115 = some 3 := by kernel_rfl
@[go_sem] theorem Try.zero115 : zeroL Try.prog 115 = some [.int .i64 0, .int .i64 0, .int .i64 0] := by kernel_rfl
@[go_sem] theorem Try.small115 : smallO Try.prog 115 = some (3, 24) := by kernel_rfl
@[go_sem] theorem Try.zt115 : zeroT Try.prog 115 = some (.agg [.int .i64 0, .int .i64 0, .int .i64 0]) := by kernel_rfl
@[go_sem] theorem Try.fld115_0 : fieldO Try.prog 115 0 = some (0, 93) := by kernel_rfl
@[go_sem] theorem Try.fld115_1 : fieldO Try.prog 115 1 = some (2, 3) := by kernel_rfl
@[go_sem] theorem Try.bld115 (parts : List (Nat × TV)) : buildO Try.prog 115 parts = (fillT (fun i => ([(0, 2), (2, 1)] : List (Nat × Nat))[i]?) [.int .i64 0, .int .i64 0, .int .i64 0] parts).map .agg := by kernel_rfl
@[go_sem] theorem Try.eq115 (a0 b0 : Int) (a1 b1 : Int) (a2 b2 : Int) : eqT Try.prog 20 115 (.agg [.int .i64 a0, .int .i64 a1, .int .i64 a2]) (.agg [.int .i64 b0, .int .i64 b1, .int .i64 b2]) = some (((a0 == b0) && ((a1 == b1) && true)) && ((a2 == b2) && true)) := by kernel_rfl
@[go_sem] theorem Try.eqg115 : Program.eqGuardType Try.prog (Program.depth Try.prog) 115 = false := by kernel_rfl
@[go_sem] theorem Try.agg117 : aggO Try.prog 117 = some false := by kernel_rfl
@[go_sem] theorem Try.pln117 : plainO Try.prog 117 = some true := by kernel_rfl
@[go_sem] theorem Try.sz117 : szO Try.prog 117 = some 1 := by kernel_rfl
@[go_sem] theorem Try.zero117 : zeroL Try.prog 117 = some [.nilFn] := by kernel_rfl
@[go_sem] theorem Try.small117 : smallO Try.prog 117 = some (1, 8) := by kernel_rfl
@[go_sem] theorem Try.zt117 : zeroT Try.prog 117 = some (.nilFn) := by kernel_rfl
@[go_sem] theorem Try.agg118 : aggO Try.prog 118 = some false := by kernel_rfl
@[go_sem] theorem Try.pln118 : plainO Try.prog 118 = some true := by kernel_rfl
@[go_sem] theorem Try.sz118 : szO Try.prog 118 = some 1 := by kernel_rfl
@[go_sem] theorem Try.zero118 : zeroL Try.prog 118 = some [.nilFn] := by kernel_rfl
@[go_sem] theorem Try.small118 : smallO Try.prog 118 = some (1, 8) := by kernel_rfl
@[go_sem] theorem Try.zt118 : zeroT Try.prog 118 = some (.nilFn) := by kernel_rfl
@[go_sem] theorem Try.agg119 : aggO Try.prog 119 = some true := by kernel_rfl
@[go_sem] theorem Try.pln119 : plainO Try.prog 119 = some true := by kernel_rfl
@[go_sem] theorem Try.sz119 : szO Try.prog 119 = some 2 := by kernel_rfl
@[go_sem] theorem Try.zero119 : zeroL Try.prog 119 = some [.nilSl, .nilSl] := by kernel_rfl
@[go_sem] theorem Try.small119 : smallO Try.prog 119 = some (2, 48) := by kernel_rfl
@[go_sem] theorem Try.zt119 : zeroT Try.prog 119 = some (.agg [.nilSl, .nilSl]) := by kernel_rfl
@[go_sem] theorem Try.fld119_0 : fieldO Try.prog 119 0 = some (0, 25) := by kernel_rfl
@[go_sem] theorem Try.bld119 (parts : List (Nat × TV)) : buildO Try.prog 119 parts = (fillT (fun i => ([(0, 2)] : List (Nat × Nat))[i]?) [.nilSl, .nilSl] parts).map .agg := by kernel_rfl
@[go_sem] theorem Try.bldp119 (parts : List (Nat × PV)) : buildP Try.prog 119 parts = fillP (fun i => ([(0, 2)] : List (Nat × Nat))[i]?) [.t (.nilSl), .t (.nilSl)] parts := by kernel_rfl
@[go_sem] theorem Try.eqg119 : Program.eqGuardType Try.prog (Program.depth Try.prog) 119 = false := by kernel_rfl
@[go_sem] theorem Try.agg120 : aggO Try.prog 120 = some true := by kernel_rfl
@[go_sem] theorem Try.pln120 : plainO Try.prog 120 = some true := by kernel_rfl
@[go_sem] theorem Try.sz120 : szO Try.prog 120 = some 2 := by kernel_rfl
@[go_sem] theorem Try.zero120 : zeroL Try.prog 120 = some [.nilSl, .nilSl] := by kernel_rfl
@[go_sem] theorem Try.small120 : smallO Try.prog 120 = some (2, 48) := by kernel_rfl
@[go_sem] theorem Try.zt120 : zeroT Try.prog 120 = some (.agg [.nilSl, .nilSl]) := by kernel_rfl
@[go_sem] theorem Try.fld120_0 : fieldO Try.prog 120 0 = some (0, 25) := by kernel_rfl
@[go_sem] theorem Try.bld120 (parts : List (Nat × TV)) : buildO Try.prog 120 parts = (fillT (fun i => ([(0, 2)] : List (Nat × Nat))[i]?) [.nilSl, .nilSl] parts).map .agg := by kernel_rfl
@[go_sem] theorem Try.bldp120 (parts : List (Nat × PV)) : buildP Try.prog 120 parts = fillP (fun i => ([(0, 2)] : List (Nat × Nat))[i]?) [.t (.nilSl), .t (.nilSl)] parts := by kernel_rfl
@[go_sem] theorem Try.eqg120 : Program.eqGuardType Try.prog (Program.depth Try.prog) 120 = false := by kernel_rfl
@[go_sem] theorem Try.agg121 : aggO Try.prog 121 = some false := by kernel_rfl
@[go_sem] theorem Try.pln121 : plainO Try.prog 121 = some true := by kernel_rfl
@[go_sem] theorem Try.sz121 : szO Try.prog 121 = some 1 := by kernel_rfl
@[go_sem] theorem Try.zero121 : zeroL Try.prog 121 = some [.nilFn] := by kernel_rfl
@[go_sem] theorem Try.small121 : smallO Try.prog 121 = some (1, 8) := by kernel_rfl
@[go_sem] theorem Try.zt121 : zeroT Try.prog 121 = some (.nilFn) := by kernel_rfl
@[go_sem] theorem Try.agg122 : aggO Try.prog 122 = some false := by kernel_rfl
@[go_sem] theorem Try.pln122 : plainO Try.prog 122 = some true := by kernel_rfl
@[go_sem] theorem Try.sz122 : szO Try.prog 122 = some 1 := by kernel_rfl
@[go_sem] theorem Try.zero122 : zeroL Try.prog 122 = some [.nilFn] := by kernel_rfl
@[go_sem] theorem Try.small122 : smallO Try.prog 122 = some (1, 8) := by kernel_rfl
@[go_sem] theorem Try.zt122 : zeroT Try.prog 122 = some (.nilFn) := by kernel_rfl
@[go_sem] theorem Try.agg123 : aggO Try.prog 123 = some true := by kernel_rfl
@[go_sem] theorem Try.pln123 : plainO Try.prog 123 = some true := by kernel_rfl
@[go_sem] theorem Try.sz123 : szO Try.prog 123 = some 2 := by kernel_rfl
@[go_sem] theorem Try.zero123 : zeroL Try.prog 123 = some [.int .i64 0, .int .i64 0] := by kernel_rfl
@[go_sem] theorem Try.small123 : smallO Try.prog 123 = some (2, 16) := by kernel_rfl
@[go_sem] theorem Try.zt123 : zeroT Try.prog 123 = some (.agg [.int .i64 0, .int .i64 0]) := by kernel_rfl
@[go_sem] theorem Try.fld123_0 : fieldO Try.prog 123 0 = some (0, 29) := by kernel_rfl
@[go_sem] theorem Try.bld123 (parts : List (Nat × TV)) : buildO Try.prog 123 parts = (fillT (fun i => ([(0, 2)] : List (Nat × Nat))[i]?) [.int .i64 0, .int .i64 0] parts).map .agg := by kernel_rfl
@[go_sem] theorem Try.eqg123 : Program.eqGuardType Try.prog (Program.depth Try.prog) 123 = false := by kernel_rfl
@[go_sem] theorem Try.agg124 : aggO Try.prog 124 = some true := by kernel_rfl
@[go_sem] theorem Try.pln124 : plainO Try.prog 124 = some true := by kernel_rfl
@[go_sem] theorem Try.sz124 : szO Try.prog 124 = some 2 := by kernel_rfl
@[go_sem] theorem Try.zero124 : zeroL Try.prog 124 = some [.int .i64 0, .int .i64 0] := by kernel_rfl
@[go_sem] theorem Try.small124 : smallO Try.prog 124 = some (2, 16) := by kernel_rfl
@[go_sem] theorem Try.zt124 : zeroT Try.prog 124 = some (.agg [.int .i64 0, .int .i64 0]) := by kernel_rfl
@[go_sem] theorem Try.fld124_0 : fieldO Try.prog 124 0 = some (0, 29) := by kernel_rfl
@[go_sem] theorem Try.bld124 (parts : List (Nat × TV)) : buildO Try.prog 124 parts = (fillT (fun i => ([(0, 2)] : List (Nat × Nat))[i]?) [.int .i64 0, .int .i64 0] parts).map .agg := by kernel_rfl
@[go_sem] theorem Try.eq124 (a0 b0 : Int) (a1 b1 : Int) : eqT Try.prog 20 124 (.agg [.int .i64 a0, .int .i64 a1]) (.agg [.int .i64 b0, .int .i64 b1]) = some (((a0 == b0) && ((a1 == b1) && true)) && true) := by kernel_rfl
@[go_sem] theorem Try.eqg124 : Program.eqGuardType Try.prog (Program.depth Try.prog) 124 = false := by kernel_rfl
@[go_sem] theorem Try.agg125 : aggO Try.prog 125 = some true := by kernel_rfl
@[go_sem] theorem Try.pln125 : plainO Try.prog 125 = some true := by kernel_rfl
@[go_sem] theorem Try.sz125 : szO Try.prog 125 = some 4 := by kernel_rfl
@[go_sem] theorem Try.zero125 : zeroL Try.prog 125 = some [.int .i64 0, .int .i64 0, .int .i64 0, .int .i64 0] := by kernel_rfl
@[go_sem] theorem Try.small125 : smallO Try.prog 125 = some (4, 32) := by kernel_rfl
@[go_sem] theorem Try.zt125 : zeroT Try.prog 125 = some (.agg [.int .i64 0, .int .i64 0, .int .i64 0, .int .i64 0]) := by kernel_rfl
@[go_sem] theorem Try.fld125_0 : fieldO Try.prog 125 0 = some (0, 29) := by kernel_rfl
@[go_sem] theorem Try.fld125_1 : fieldO Try.prog 125 1 = some (2, 29) := by kernel_rfl
@[go_sem] theorem Try.bld125 (parts : List (Nat × TV)) : buildO Try.prog 125 parts = (fillT (fun i => ([(0, 2), (2, 2)] : List (Nat × Nat))[i]?) [.int .i64 0, .int .i64 0, .int .i64 0, .int .i64 0] parts).map .agg := by kernel_rfl
@[go_sem] theorem Try.eqg125 : Program.eqGuardType Try.prog (Program.depth Try.prog) 125 = false := by kernel_rfl
@[go_sem] theorem Try.agg126 : aggO Try.prog 126 = some true := by kernel_rfl
@[go_sem] theorem Try.pln126 : plainO Try.prog 126 = some true := by kernel_rfl
@[go_sem] theorem Try.sz126 : szO Try.prog 126 = some 4 := by kernel_rfl
@[go_sem] theorem Try.zero126 : zeroL Try.prog 126 = some [.int .i64 0, .int .i64 0, .int .i64 0, .int .i64 0] := by kernel_rfl
@[go_sem] theorem Try.small126 : smallO Try.prog 126 = some (4, 32) := by kernel_rfl
@[go_sem] theorem Try.zt126 : zeroT Try.prog 126 = some (.agg [.int .i64 0, .int .i64 0, .int .i64 0, .int .i64 0]) := by kernel_rfl
@[go_sem] theorem Try.fld126_0 : fieldO Try.prog 126 0 = some (0, 29) := by kernel_rfl
@[go_sem] theorem Try.fld126_1 : fieldO Try.prog 126 1 = some (2, 29) := by kernel_rfl
@[go_sem] theorem Try.bld126 (parts : List (Nat × TV)) : buildO Try.prog 126 parts = (fillT (fun i => ([(0, 2), (2, 2)] : List (Nat × Nat))[i]?) [.int .i64 0, .int .i64 0, .int .i64 0, .int .i64 0] parts).map .agg := by kernel_rfl
@[go_sem] theorem Try.eq126 (a0 b0 : Int) (a1 b1 : Int) (a2 b2 : Int) (a3 b3 : Int) : eqT Try.prog 20 126 (.agg [.int .i64 a0, .int .i64 a1, .int .i64 a2, .int .i64 a3]) (.agg [.int .i64 b0, .int .i64 b1, .int .i64 b2, .int .i64 b3]) = some (((a0 == b0) && ((a1 == b1) && true)) && (((a2 == b2) && ((a3 == b3) && true)) && true)) := by kernel_rfl
@[go_sem] theorem Try.eqg126 : Program.eqGuardType Try.prog (Program.depth Try.prog) 126 = false := by kernel_rfl
@[go_sem] theorem Try.agg127 : aggO Try.prog 127 = some false := by kernel_rfl
@[go_sem] theorem Try.pln127 : plainO Try.prog 127 = some true := by kernel_rfl
@[go_sem] theorem Try.sz127 : szO Try.prog 127 = some 1 := by kernel_rfl
@[go_sem] theorem Try.zero127 : zeroL Try.prog 127 = some [.nilFn] := by kernel_rfl
@[go_sem] theorem Try.small127 : smallO Try.prog 127 = some (1, 8) := by kernel_rfl
@[go_sem] theorem Try.zt127 : zeroT Try.prog 127 = some (.nilFn) := by kernel_rfl
@[go_sem] theorem Try.agg128 : aggO Try.prog 128 = some false := by kernel_rfl
@[go_sem] theorem Try.pln128 : plainO Try.prog 128 = some true := by kernel_rfl
@[go_sem] theorem Try.sz128 : szO Try.prog 128 = some 1 := by kernel_rfl
@[go_sem] theorem Try.zero128 : zeroL Try.prog 128 = some [.nilFn] := by kernel_rfl
@[go_sem] theorem Try.small128 : smallO Try.prog 128 = some (1, 8) := by kernel_rfl
@[go_sem] theorem Try.zt128 : zeroT Try.prog 128 = some (.nilFn) := by kernel_rfl
@[go_sem] theorem Try.agg129 : aggO Try.prog 129 = some false := by kernel_rfl
@[go_sem] theorem Try.pln129 : plainO Try.prog 129 = some true := by kernel_rfl
@[go_sem] theorem Try.sz129 : szO Try.prog 129 = some 1 := by kernel_rfl
@[go_sem] theorem Try.zero129 : zeroL Try.prog 129 = some [.nilFn] := by kernel_rfl
@[go_sem] theorem Try.small129 : smallO Try.prog 129 = some (1, 8) := by kernel_rfl
@[go_sem] theorem Try.zt129 : zeroT Try.prog 129 = some (.nilFn) := by kernel_rfl
@[go_sem] theorem Try.agg130 : aggO Try.prog 130 = some false := by kernel_rfl
@[go_sem] theorem Try.pln130 : plainO Try.prog 130 = some true := by kernel_rfl
@[go_sem] theorem Try.sz130 : szO Try.prog 130 = some 1 := by kernel_rfl
@[go_sem] theorem Try.zero130 : zeroL Try.prog 130 = some [.nilMap] := by kernel_rfl
@[go_sem] theorem Try.small130 : smallO Try.prog 130 = some (1, 8) := by kernel_rfl
@[go_sem] theorem Try.key130 (a0 : Int) (a1 : Int) (a2 : Int) (a3 : Int) (a4 : Int) : keyOk Try.prog 130 (.agg [.int .i64 a0, .int .i64 a1, .int .i64 a2, .int .i64 a3, .int .i64 a4]) = true := by kernel_rfl
@[go_sem] theorem Try.map130 : mapO Try.prog 130 = some (38, 126) := by kernel_rfl
@[go_sem] theorem Try.und130 : Program.underlying Try.prog 130 = some (.map 38 126) := by kernel_rfl
@[go_sem] theorem Try.zt130 : zeroT Try.prog 130 = some (.nilMap) := by kernel_rfl
@[go_sem] theorem Try.agg131 : aggO Try.prog 131 = some false := by kernel_rfl
@[go_sem] theorem Try.pln131 : plainO Try.prog 131 = some true := by kernel_rfl
@[go_sem] theorem Try.sz131 : szO Try.prog 131 = some 1 := by kernel_rfl
@[go_sem] theorem Try.zero131 : zeroL Try.prog 131 = some [.nilFn] := by kernel_rfl
@[go_sem] theorem Try.small131 : smallO Try.prog 131 = some (1, 8) := by kernel_rfl
@[go_sem] theorem Try.zt131 : zeroT Try.prog 131 = some (.nilFn) := by kernel_rfl
@[go_sem] theorem Try.agg132 : aggO Try.prog 132 = some false := by kernel_rfl
@[go_sem] theorem Try.pln132 : plainO Try.prog 132 = some true := by kernel_rfl
@[go_sem] theorem Try.sz132 : szO Try.prog 132 = some 1 := by kernel_rfl
@[go_sem] theorem Try.zero132 : zeroL Try.prog 132 = some [.nilFn] := by kernel_rfl
@[go_sem] theorem Try.small132 : smallO Try.prog 132 = some (1, 8) := by kernel_rfl
@[go_sem] theorem Try.zt132 : zeroT Try.prog 132 = some (.nilFn) := by kernel_rfl
@[go_sem] theorem Try.agg133 : aggO Try.prog 133 = some true := by kernel_rfl
@[go_sem] theorem Try.pln133 : plainO Try.prog 133 = some true := by kernel_rfl
@[go_sem] theorem Try.sz133 : szO Try.prog 133 = some 1 := by kernel_rfl
@[go_sem] theorem Try.zero133 : zeroL Try.prog 133 = some [.nilFn] := by kernel_rfl
@[go_sem] theorem Try.small133 : smallO Try.prog 133 = some (1, 8) := by kernel_rfl
@[go_sem] theorem Try.zt133 : zeroT Try.prog 133 = some (.agg [.nilFn]) := by kernel_rfl
@[go_sem] theorem Try.fld133_0 : fieldO Try.prog 133 0 = some (0, 132) := by kernel_rfl
@[go_sem] theorem Try.bld133 (parts : List (Nat × TV)) : buildO Try.prog 133 parts = (fillT (fun i => ([(0, 1)] : List (Nat × Nat))[i]?) [.nilFn] parts).map .agg := by kernel_rfl
@[go_sem] theorem Try.bldp133 (parts : List (Nat × PV)) : buildP Try.prog 133 parts = fillP (fun i => ([(0, 1)] : List (Nat × Nat))[i]?) [.t (.nilFn)] parts := by kernel_rfl
@[go_sem] theorem Try.eqg133 : Program.eqGuardType Try.prog (Program.depth Try.prog) 133 = false := by kernel_rfl
@[go_sem] theorem Try.agg134 : aggO Try.prog 134 = some true := by kernel_rfl
@[go_sem] theorem Try.pln134 : plainO Try.prog 134 = some true := by kernel_rfl
@[go_sem] theorem Try.sz134 : szO Try.prog 134 = some 1 := by kernel_rfl
@[go_sem] theorem Try.zero134 : zeroL Try.prog 134 = some [.nilFn] := by kernel_rfl
@[go_sem] theorem Try.small134 : smallO Try.prog 134 = some (1, 8) := by kernel_rfl
@[go_sem] theorem Try.zt134 : zeroT Try.prog 134 = some (.agg [.nilFn]) := by kernel_rfl
@[go_sem] theorem Try.fld134_0 : fieldO Try.prog 134 0 = some (0, 132) := by kernel_rfl
@[go_sem] theorem Try.bld134 (parts : List (Nat × TV)) : buildO Try.prog 134 parts = (fillT (fun i => ([(0, 1)] : List (Nat × Nat))[i]?) [.nilFn] parts).map .agg := by kernel_rfl
@[go_sem] theorem Try.bldp134 (parts : List (Nat × PV)) : buildP Try.prog 134 parts = fillP (fun i => ([(0, 1)] : List (Nat × Nat))[i]?) [.t (.nilFn)] parts := by kernel_rfl
@[go_sem] theorem Try.eqg134 : Program.eqGuardType Try.prog (Program.depth Try.prog) 134 = false := by kernel_rfl
@[go_sem] theorem Try.agg135 : aggO Try.prog 135 = some false := by kernel_rfl
@[go_sem] theorem Try.pln135 : plainO Try.prog 135 = some true := by kernel_rfl
@[go_sem] theorem Try.sz135 : szO Try.prog 135 = some 1 := by kernel_rfl
@[go_sem] theorem Try.zero135 : zeroL Try.prog 135 = some [.nilFn] := by kernel_rfl
@[go_sem] theorem Try.small135 : smallO Try.prog 135 = some (1, 8) := by kernel_rfl
@[go_sem] theorem Try.zt135 : zeroT Try.prog 135 = some (.nilFn) := by kernel_rfl
@[go_sem] theorem Try.agg137 : aggO Try.prog 137 = some false := by kernel_rfl
@[go_sem] theorem Try.pln137 : plainO Try.prog 137 = some true := by kernel_rfl
@[go_sem] theorem Try.sz137 : szO Try.prog 137 = some 1 := by kernel_rfl
@[go_sem] theorem Try.zero137 : zeroL Try.prog 137 = some [.nilMap] := by kernel_rfl
@[go_sem] theorem Try.small137 : smallO Try.prog 137 = some (1, 8) := by kernel_rfl
@[go_sem] theorem Try.key137 (a0 : Int) (a1 : Int) : keyOk Try.prog 137 (.agg [.int .i64 a0, .int .i64 a1]) = true := by kernel_rfl
@[go_sem] theorem Try.map137 : mapO Try.prog 137 = some (138, 38) := by kernel_rfl
@[go_sem] theorem Try.und137 : Program.underlying Try.prog 137 = some (.map 138 38) := by kernel_rfl
@[go_sem] theorem Try.zt137 : zeroT Try.prog 137 = some (.nilMap) := by kernel_rfl
@[go_sem] theorem Try.agg138 : aggO Try.prog 138 = some true := by kernel_rfl
@[go_sem] theorem Try.pln138 : plainO Try.prog 138 = some true := by kernel_rfl
@[go_sem] theorem Try.sz138 : szO Try.prog 138 = some 2 := by kernel_rfl
@[go_sem] theorem Try.zero138 : zeroL Try.prog 138 = some [.int .i64 0, .int .i64 0] := by kernel_rfl
@[go_sem] theorem Try.small138 : smallO Try.prog 138 = some (2, 16) := by kernel_rfl
@[go_sem] theorem Try.zt138 : zeroT Try.prog 138 = some (.agg [.int .i64 0, .int .i64 0]) := by kernel_rfl
@[go_sem] theorem Try.bld138 (parts : List (Nat × TV)) : buildO Try.prog 138 parts = (fillT (fun i => some (i * 1, 1)) [.int .i64 0, .int .i64 0] parts).map .agg := by kernel_rfl
@[go_sem] theorem Try.eq138 (a0 b0 : Int) (a1 b1 : Int) : eqT Try.prog 20 138 (.agg [.int .i64 a0, .int .i64 a1]) (.agg [.int .i64 b0, .int .i64 b1]) = some ((a0 == b0) && ((a1 == b1) && true)) := by kernel_rfl
@[go_sem] theorem Try.eqg138 : Program.eqGuardType Try.prog (Program.depth Try.prog) 138 = false := by kernel_rfl
@[go_sem] theorem Try.arr138 : arrayO Try.prog 138 = some (2, 3) := by kernel_rfl
@[go_sem] theorem Try.und138 : Program.underlying Try.prog 138 = some (.array 2 3) := by kernel_rfl
@[go_sem] theorem Try.agg140 : aggO Try.prog 140 = some false := by kernel_rfl
@[go_sem] theorem Try.pln140 : plainO Try.prog 140 = some true := by kernel_rfl
@[go_sem] theorem Try.sz140 : szO Try.prog 140 = some 1 := by kernel_rfl
@[go_sem] theorem Try.zero140 : zeroL Try.prog 140 = some [.nilFn] := by kernel_rfl
@[go_sem] theorem Try.small140 : smallO Try.prog 140 = some (1, 8) := by kernel_rfl
@[go_sem] theorem Try.zt140 : zeroT Try.prog 140 = some (.nilFn) := by kernel_rfl
@[go_sem] theorem Try.agg141 : aggO Try.prog 141 = some true := by kernel_rfl
@[go_sem] theorem Try.pln141 : plainO Try.prog 141 = some true := by kernel_rfl
@[go_sem] theorem Try.sz141 : szO Try.prog 141 = some 8 := by kernel_rfl
@[go_sem] theorem Try.zero141 : zeroL Try.prog 141 = some [.bool false, .bool false, .bool false, .bool false, .bool false, .bool false, .bool false, .bool false] := by kernel_rfl
@[go_sem] theorem Try.small141 : smallO Try.prog 141 = some (8, 8) := by kernel_rfl
@[go_sem] theorem Try.zt141 : zeroT Try.prog 141 = some (.agg [.bool false, .bool false, .bool false, .bool false, .bool false, .bool false, .bool false, .bool false]) := by kernel_rfl
@[go_sem] theorem Try.bld141 (parts : List (Nat × TV)) : buildO Try.prog 141 parts = (fillT (fun i => some (i * 1, 1)) [.bool false, .bool false, .bool false, .bool false, .bool false, .bool false, .bool false, .bool false] parts).map .agg := by kernel_rfl
@[go_sem] theorem Try.eq141 (a0 b0 : Bool) (a1 b1 : Bool) (a2 b2 : Bool) (a3 b3 : Bool) (a4 b4 : Bool) (a5 b5 : Bool) (a6 b6 : Bool) (a7 b7 : Bool) : eqT Try.prog 20 141 (.agg [.bool a0, .bool a1, .bool a2, .bool a3, .bool a4, .bool a5, .bool a6, .bool a7]) (.agg [.bool b0, .bool b1, .bool b2, .bool b3, .bool b4, .bool b5, .bool b6, .bool b7]) = some ((a0 == b0) && ((a1 == b1) && ((a2 == b2) && ((a3 == b3) && ((a4 == b4) && ((a5 == b5) && ((a6 == b6) && ((a7 == b7) && true)))))))) := by kernel_rfl
@[go_sem] theorem Try.eqg141 : Program.eqGuardType Try.prog (Program.depth Try.prog) 141 = false := by kernel_rfl
@[go_sem] theorem Try.arr141 : arrayO Try.prog 141 = some (8, 4) := by kernel_rfl
@[go_sem] theorem Try.und141 : Program.underlying Try.prog 141 = some (.array 8 4) := by kernel_rfl
@[go_sem] theorem Try.agg142 : aggO Try.prog 142 = some false := by kernel_rfl
@[go_sem] theorem Try.pln142 : plainO Try.prog 142 = some true := by kernel_rfl
@[go_sem] theorem Try.sz142 : szO Try.prog 142 = some 1 := by kernel_rfl
@[go_sem] theorem Try.zero142 : zeroL Try.prog 142 = some [.nilFn] := by kernel_rfl
@[go_sem] theorem Try.small142 : smallO Try.prog 142 = some (1, 8) := by kernel_rfl
@[go_sem] theorem Try.zt142 : zeroT Try.prog 142 = some (.nilFn) := by kernel_rfl
@[go_sem] theorem Try.agg143 : aggO Try.prog 143 = some true := by kernel_rfl
@[go_sem] theorem Try.pln143 : plainO Try.prog 143 = some true := by kernel_rfl
@[go_sem] theorem Try.sz143 : szO Try.prog 143 = some 5 := by kernel_rfl
@[go_sem] theorem Try.zero143 : zeroL Try.prog 143 = some [.int .i64 0, .int .i64 0, .int .i64 0, .int .i64 0, .int .i64 0] := by kernel_rfl
@[go_sem] theorem Try.small143 : smallO Try.prog 143 = some (5, 40) := by kernel_rfl
@[go_sem] theorem Try.zt143 : zeroT Try.prog 143 = some (.agg [.int .i64 0, .int .i64 0, .int .i64 0, .int .i64 0, .int .i64 0]) := by kernel_rfl
@[go_sem] theorem Try.fld143_0 : fieldO Try.prog 143 0 = some (0, 60) := by kernel_rfl
@[go_sem] theorem Try.bld143 (parts : List (Nat × TV)) : buildO Try.prog 143 parts = (fillT (fun i => ([(0, 5)] : List (Nat × Nat))[i]?) [.int .i64 0, .int .i64 0, .int .i64 0, .int .i64 0, .int .i64 0] parts).map .agg := by kernel_rfl
@[go_sem] theorem Try.eqg143 : Program.eqGuardType Try.prog (Program.depth Try.prog) 143 = false := by kernel_rfl
@[go_sem] theorem Try.agg144 : aggO Try.prog 144 = some true := by kernel_rfl
@[go_sem] theorem Try.pln144 : plainO Try.prog 144 = some true := by kernel_rfl
@[go_sem] theorem Try.sz144 : szO Try.prog 144 = some 5 := by kernel_rfl
@[go_sem] theorem Try.zero144 : zeroL Try.prog 144 = some [.int .i64 0, .int .i64 0, .int .i64 0, .int .i64 0, .int .i64 0] := by kernel_rfl
@[go_sem] theorem Try.small144 : smallO Try.prog 144 = some (5, 40) := by kernel_rfl
@[go_sem] theorem Try.zt144 : zeroT Try.prog 144 = some (.agg [.int .i64 0, .int .i64 0, .int .i64 0, .int .i64 0, .int .i64 0]) := by kernel_rfl
@[go_sem] theorem Try.fld144_0 : fieldO Try.prog 144 0 = some (0, 60) := by kernel_rfl
@[go_sem] theorem Try.bld144 (parts : List (Nat × TV)) : buildO Try.prog 144 parts = (fillT (fun i => ([(0, 5)] : List (Nat × Nat))[i]?) [.int .i64 0, .int .i64 0, .int .i64 0, .int .i64 0, .int .i64 0] parts).map .agg := by kernel_rfl
@[go_sem] theorem Try.eq144 (a0 b0 : Int) (a1 b1 : Int) (a2 b2 : Int) (a3 b3 : Int) (a4 b4 : Int) : eqT Try.prog 20 144 (.agg [.int .i64 a0, .int .i64 a1, .int .i64 a2, .int .i64 a3, .int .i64 a4]) (.agg [.int .i64 b0, .int .i64 b1, .int .i64 b2, .int .i64 b3, .int .i64 b4]) = some ((((a0 == b0) && ((a1 == b1) && true)) && (((a2 == b2) && ((a3 == b3) && true)) && ((a4 == b4) && true))) && true) := by kernel_rfl
@[go_sem] theorem Try.eqg144 : Program.eqGuardType Try.prog (Program.depth Try.prog) 144 = false := by kernel_rfl
@[go_sem] theorem Try.agg145 : aggO Try.prog 145 = some true := by kernel_rfl
@[go_sem] theorem Try.pln145 : plainO Try.prog 145 = some true := by kernel_rfl
@[go_sem] theorem Try.sz145 : szO Try.prog 145 = some 6 := by kernel_rfl
@[go_sem] theorem Try.zero145 : zeroL Try.prog 145 = some [.nilSl, .nilSl, .int .i64 0, .int .i64 0, .int .i64 0, .int .i64 0] := by kernel_rfl
@[go_sem] theorem Try.small145 : smallO Try.prog 145 = some (6, 80) := by kernel_rfl
@[go_sem] theorem Try.zt145 : zeroT Try.prog 145 = some (.agg [.nilSl, .nilSl, .int .i64 0, .int .i64 0, .int .i64 0, .int .i64 0]) := by kernel_rfl
@[go_sem] theorem Try.fld145_0 : fieldO Try.prog 145 0 = some (0, 64) := by kernel_rfl
@[go_sem] theorem Try.bld145 (parts : List (Nat × TV)) : buildO Try.prog 145 parts = (fillT (fun i => ([(0, 6)] : List (Nat × Nat))[i]?) [.nilSl, .nilSl, .int .i64 0, .int .i64 0, .int .i64 0, .int .i64 0] parts).map .agg := by kernel_rfl
@[go_sem] theorem Try.bldp145 (parts : List (Nat × PV)) : buildP Try.prog 145 parts = fillP (fun i => ([(0, 6)] : List (Nat × Nat))[i]?) [.t (.nilSl), .t (.nilSl), .t (.int .i64 0), .t (.int .i64 0), .t (.int .i64 0), .t (.int .i64 0)] parts := by kernel_rfl
@[go_sem] theorem Try.eqg145 : Program.eqGuardType Try.prog (Program.depth Try.prog) 145 = false := by kernel_rfl
@[go_sem] theorem Try.agg146 : aggO Try.prog 146 = some true := by kernel_rfl
@[go_sem] theorem Try.pln146 : plainO Try.prog 146 = some true := by kernel_rfl
@[go_sem] theorem Try.sz146 : szO Try.prog 146 = some 6 := by kernel_rfl
@[go_sem] theorem Try.zero146 : zeroL Try.prog 146 = some [.nilSl, .nilSl, .int .i64 0, .int .i64 0, .int .i64 0, .int .i64 0] := by kernel_rfl
@[go_sem] theorem Try.small146 : smallO Try.prog 146 = some (6, 80) := by kernel_rfl
@[go_sem] theorem Try.zt146 : zeroT Try.prog 146 = some (.agg [.nilSl, .nilSl, .int .i64 0, .int .i64 0, .int .i64 0, .int .i64 0]) := by kernel_rfl
@[go_sem] theorem Try.fld146_0 : fieldO Try.prog 146 0 = some (0, 64) := by kernel_rfl
@[go_sem] theorem Try.bld146 (parts : List (Nat × TV)) : buildO Try.prog 146 parts = (fillT (fun i => ([(0, 6)] : List (Nat × Nat))[i]?) [.nilSl, .nilSl, .int .i64 0, .int .i64 0, .int .i64 0, .int .i64 0] parts).map .agg := by kernel_rfl
@[go_sem] theorem Try.bldp146 (parts : List (Nat × PV)) : buildP Try.prog 146 parts = fillP (fun i => ([(0, 6)] : List (Nat × Nat))[i]?) [.t (.nilSl), .t (.nilSl), .t (.int .i64 0), .t (.int .i64 0), .t (.int .i64 0), .t (.int .i64 0)] parts := by kernel_rfl
@[go_sem] theorem Try.eqg146 : Program.eqGuardType Try.prog (Program.depth Try.prog) 146 = false := by kernel_rfl
@[go_sem] theorem Try.agg148 : aggO Try.prog 148 = some false := by kernel_rfl
@[go_sem] theorem Try.pln148 : plainO Try.prog 148 = some true := by kernel_rfl
@[go_sem] theorem Try.sz148 : szO Try.prog 148 = some 1 := by kernel_rfl
@[go_sem] theorem Try.zero148 : zeroL Try.prog 148 = some [.nilFn] := by kernel_rfl
@[go_sem] theorem Try.small148 : smallO Try.prog 148 = some (1, 8) := by kernel_rfl
@[go_sem] theorem Try.zt148 : zeroT Try.prog 148 = some (.nilFn) := by kernel_rfl
@[go_sem] theorem Try.agg149 : aggO Try.prog 149 = some false := by kernel_rfl
@[go_sem] theorem Try.pln149 : plainO Try.prog 149 = some false := by kernel_rfl
@[go_sem] theorem Try.sz149 : szO Try.prog 149 = some 1 := by kernel_rfl
@[go_sem] theorem Try.zero149 : zeroL Try.prog 149 = some [.nilIf] := by kernel_rfl
@[go_sem] theorem Try.small149 : smallO Try.prog 149 = some (1, 16) := by kernel_rfl
@[go_sem] theorem Try.zt149 : zeroT Try.prog 149 = some (.nilIf) := by kernel_rfl
@[go_sem] theorem Try.agg150 : aggO Try.prog 150 = some false := by kernel_rfl
@[go_sem] theorem Try.pln150 : plainO Try.prog 150 = some false := by kernel_rfl
@[go_sem] theorem Try.sz150 : szO Try.prog 150 = some 1 := by kernel_rfl
@[go_sem] theorem Try.zero150 : zeroL Try.prog 150 = some [.nilIf] := by kernel_rfl
@[go_sem] theorem Try.small150 : smallO Try.prog 150 = some (1, 16) := by kernel_rfl
@[go_sem] theorem Try.zt150 : zeroT Try.prog 150 = some (.nilIf) := by kernel_rfl
@[go_sem] theorem Try.agg151 : aggO Try.prog 151 = some false := by kernel_rfl
@[go_sem] theorem Try.pln151 : plainO Try.prog 151 = some true := by kernel_rfl
@[go_sem] theorem Try.sz151 : szO Try.prog 151 = some 1 := by kernel_rfl
@[go_sem] theorem Try.zero151 : zeroL Try.prog 151 = some [.nilFn] := by kernel_rfl
@[go_sem] theorem Try.small151 : smallO Try.prog 151 = some (1, 8) := by kernel_rfl
@[go_sem] theorem Try.zt151 : zeroT Try.prog 151 = some (.nilFn) := by kernel_rfl
@[go_sem] theorem Try.agg152 : aggO Try.prog 152 = some false := by kernel_rfl
@[go_sem] theorem Try.pln152 : plainO Try.prog 152 = some true := by kernel_rfl
@[go_sem] theorem Try.sz152 : szO Try.prog 152 = some 1 := by kernel_rfl
@[go_sem] theorem Try.zero152 : zeroL Try.prog 152 = some [.nilFn] := by kernel_rfl
@[go_sem] theorem Try.small152 : smallO Try.prog 152 = some (1, 8) := by kernel_rfl
@[go_sem] theorem Try.zt152 : zeroT Try.prog 152 = some (.nilFn) := by kernel_rfl
@[go_sem] theorem Try.agg153 : aggO Try.prog 153 = some false := by kernel_rfl
@[go_sem] theorem Try.pln153 : plainO Try.prog 153 = some true := by kernel_rfl
@[go_sem] theorem Try.sz153 : szO Try.prog 153 = some 1 := by kernel_rfl
@[go_sem] theorem Try.zero153 : zeroL Try.prog 153 = some [.nilFn] := by kernel_rfl
@[go_sem] theorem Try.small153 : smallO Try.prog 153 = some (1, 8) := by kernel_rfl
@[go_sem] theorem Try.zt153 : zeroT Try.prog 153 = some (.nilFn) := by kernel_rfl
@[go_sem] theorem Try.agg154 : aggO Try.prog 154 = some false := by kernel_rfl
@[go_sem] theorem Try.pln154 : plainO Try.prog 154 = some true := by kernel_rfl
@[go_sem] theorem Try.sz154 : szO Try.prog 154 = some 1 := by kernel_rfl
@[go_sem] theorem Try.zero154 : zeroL Try.prog 154 = some [.nilFn] := by kernel_rfl
@[go_sem] theorem Try.small154 : smallO Try.prog 154 = some (1, 8) := by kernel_rfl
@[go_sem] theorem Try.zt154 : zeroT Try.prog 154 = some (.nilFn) := by kernel_rfl
@[go_sem] theorem Try.agg155 : aggO Try.prog 155 = some false := by kernel_rfl
@[go_sem] theorem Try.pln155 : plainO Try.prog 155 = some true := by kernel_rfl
@[go_sem] theorem Try.sz155 : szO Try.prog 155 = some 1 := by kernel_rfl
@[go_sem] theorem Try.zero155 : zeroL Try.prog 155 = some [.nilFn] := by kernel_rfl
@[go_sem] theorem Try.small155 : smallO Try.prog 155 = some (1, 8) := by kernel_rfl
@[go_sem] theorem Try.zt155 : zeroT Try.prog 155 = some (.nilFn) := by kernel_rfl
@[go_sem] theorem Try.agg156 : aggO Try.prog 156 = some true := by kernel_rfl
@[go_sem] theorem Try.pln156 : plainO Try.prog 156 = some true := by kernel_rfl
@[go_sem] theorem Try.sz156 : szO Try.prog 156 = some 4 := by kernel_rfl
@[go_sem] theorem Try.zero156 : zeroL Try.prog 156 = some [.nilSl, .int .i64 0, .int .i64 0, .nilSl] := by kernel_rfl
@[go_sem] theorem Try.small156 : smallO Try.prog 156 = some (4, 64) := by kernel_rfl
@[go_sem] theorem Try.zt156 : zeroT Try.prog 156 = some (.agg [.nilSl, .int .i64 0, .int .i64 0, .nilSl]) := by kernel_rfl
@[go_sem] theorem Try.fld156_0 : fieldO Try.prog 156 0 = some (0, 39) := by kernel_rfl
@[go_sem] theorem Try.fld156_1 : fieldO Try.prog 156 1 = some (1, 3) := by kernel_rfl
@[go_sem] theorem Try.fld156_2 : fieldO Try.prog 156 2 = some (2, 3) := by kernel_rfl
@[go_sem] theorem Try.fld156_3 : fieldO Try.prog 156 3 = some (3, 39) := by kernel_rfl
@[go_sem] theorem Try.bld156 (parts : List (Nat × TV)) : buildO Try.prog 156 parts = (fillT (fun i => ([(0, 1), (1, 1), (2, 1), (3, 1)] : List (Nat × Nat))[i]?) [.nilSl, .int .i64 0, .int .i64 0, .nilSl] parts).map .agg := by kernel_rfl
@[go_sem] theorem Try.bldp156 (parts : List (Nat × PV)) : buildP Try.prog 156 parts = fillP (fun i => ([(0, 1), (1, 1), (2, 1), (3, 1)] : List (Nat × Nat))[i]?) [.t (.nilSl), .t (.int .i64 0), .t (.int .i64 0), .t (.nilSl)] parts := by kernel_rfl
@[go_sem] theorem Try.eqg156 : Program.eqGuardType Try.prog (Program.depth Try.prog) 156 = false := by kernel_rfl
@[go_sem] theorem Try.agg157 : aggO Try.prog 157 = some true := by kernel_rfl
@[go_sem] theorem Try.pln157 : plainO Try.prog 157 = some true := by kernel_rfl
@[go_sem] theorem Try.sz157 : szO Try.prog 157 = some 4 := by kernel_rfl
@[go_sem] theorem Try.zero157 : zeroL Try.prog 157 = some [.nilSl, .int .i64 0, .int .i64 0, .nilSl] := by kernel_rfl
@[go_sem] theorem Try.small157 : smallO Try.prog 157 = some (4, 64) := by kernel_rfl
@[go_sem] theorem Try.zt157 : zeroT Try.prog 157 = some (.agg [.nilSl, .int .i64 0, .int .i64 0, .nilSl]) := by kernel_rfl
@[go_sem] theorem Try.fld157_0 : fieldO Try.prog 157 0 = some (0, 39) := by kernel_rfl
@[go_sem] theorem Try.fld157_1 : fieldO Try.prog 157 1 = some (1, 3) := by kernel_rfl
@[go_sem] theorem Try.fld157_2 : fieldO Try.prog 157 2 = some (2, 3) := by kernel_rfl
@[go_sem] theorem Try.fld157_3 : fieldO Try.prog 157 3 = some (3, 39) := by kernel_rfl
@[go_sem] theorem Try.bld157 (parts : List (Nat × TV)) : buildO Try.prog 157 parts = (fillT (fun i => ([(0, 1), (1, 1), (2, 1), (3, 1)] : List (Nat × Nat))[i]?) [.nilSl, .int .i64 0, .int .i64 0, .nilSl] parts).map .agg := by kernel_rfl
@[go_sem] theorem Try.bldp157 (parts : List (Nat × PV)) : buildP Try.prog 157 parts = fillP (fun i => ([(0, 1), (1, 1), (2, 1), (3, 1)] : List (Nat × Nat))[i]?) [.t (.nilSl), .t (.int .i64 0), .t (.int .i64 0), .t (.nilSl)] parts := by kernel_rfl
@[go_sem] theorem Try.eqg157 : Program.eqGuardType Try.prog (Program.depth Try.prog) 157 = false := by kernel_rfl
@[go_sem] theorem Try.agg158 : aggO Try.prog 158 = some false := by kernel_rfl
@[go_sem] theorem Try.pln158 : plainO Try.prog 158 = some true := by kernel_rfl
@[go_sem] theorem Try.sz158 : szO Try.prog 158 = some 1 := by kernel_rfl
@[go_sem] theorem Try.zero158 : zeroL Try.prog 158 = some [.nilFn] := by kernel_rfl
@[go_sem] theorem Try.small158 : smallO Try.prog 158 = some (1, 8) := by kernel_rfl
@[go_sem] theorem Try.zt158 : zeroT Try.prog 158 = some (.nilFn) := by kernel_rfl
@[go_sem] theorem Try.agg159 : aggO Try.prog 159 = some false := by kernel_rfl
@[go_sem] theorem Try.pln159 : plainO Try.prog 159 = some true := by kernel_rfl
@[go_sem] theorem Try.sz159 : szO Try.prog 159 = some 1 := by kernel_rfl
@[go_sem] theorem Try.zero159 : zeroL Try.prog 159 = some [.nilMap] := by kernel_rfl
@[go_sem] theorem Try.small159 : smallO Try.prog 159 = some (1, 8) := by kernel_rfl
@[go_sem] theorem Try.key159 (a0 : Int) (a1 : Int) : keyOk Try.prog 159 (.agg [.int .i64 a0, .int .i64 a1]) = true := by kernel_rfl
@[go_sem] theorem Try.map159 : mapO Try.prog 159 = some (209, 3) := by kernel_rfl
@[go_sem] theorem Try.und159 : Program.underlying Try.prog 159 = some (.map 209 3) := by kernel_rfl
@[go_sem] theorem Try.zt159 : zeroT Try.prog 159 = some (.nilMap) := by kernel_rfl
@[go_sem] theorem Try.agg160 : aggO Try.prog 160 = some true := by kernel_rfl
@[go_sem] theorem Try.pln160 : plainO Try.prog 160 = some true := by kernel_rfl
@[go_sem] theorem Try.sz160 : szO Try.prog 160 = some 11 := by kernel_rfl
@[go_sem] theorem Try.zero160 : zeroL Try.prog 160 = some [.nilSl, .nilSl, .int .i64 0, .int .i64 0, .int .i64 0, .int .i64 0, .int .i64 0, .int .i64 0, .int .i64 0, .int .i64 0, .nilMap] := by kernel_rfl
@[go_sem] theorem Try.small160 : smallO Try.prog 160 = some (11, 120) := by kernel_rfl
@[go_sem] theorem Try.zt160 : zeroT Try.prog 160 = some (.agg [.nilSl, .nilSl, .int .i64 0, .int .i64 0, .int .i64 0, .int .i64 0, .int .i64 0, .int .i64 0, .int .i64 0, .int .i64 0, .nilMap]) := by kernel_rfl
@[go_sem] theorem Try.fld160_0 : fieldO Try.prog 160 0 = some (0, 73) := by kernel_rfl
@[go_sem] theorem Try.fld160_1 : fieldO Try.prog 160 1 = some (9, 3) := by kernel_rfl
@[go_sem] theorem Try.fld160_2 : fieldO Try.prog 160 2 = some (10, 159) := by kernel_rfl
@[go_sem] theorem Try.bld160 (parts : List (Nat × TV)) : buildO Try.prog 160 parts = (fillT (fun i => ([(0, 9), (9, 1), (10, 1)] : List (Nat × Nat))[i]?) [.nilSl, .nilSl, .int .i64 0, .int .i64 0, .int .i64 0, .int .i64 0, .int .i64 0, .int .i64 0, .int .i64 0, .int .i64 0, .nilMap] parts).map .agg := by kernel_rfl
@[go_sem] theorem Try.bldp160 (parts : List (Nat × PV)) : buildP Try.prog 160 parts = fillP (fun i => ([(0, 9), (9, 1), (10, 1)] : List (Nat × Nat))[i]?) [.t (.nilSl), .t (.nilSl), .t (.int .i64 0), .t (.int .i64 0), .t (.int .i64 0), .t (.int .i64 0), .t (.int .i64 0), .t (.int .i64 0), .t (.int .i64 0), .t (.int .i64 0), .t (.nilMap)] parts := by kernel_rfl
@[go_sem] theorem Try.eqg160 : Program.eqGuardType Try.prog (Program.depth Try.prog) 160 = false := by kernel_rfl
@[go_sem] theorem Try.agg161 : aggO Try.prog 161 = some true := by kernel_rfl
@[go_sem] theorem Try.pln161 : plainO Try.prog 161 = some true := by kernel_rfl
@[go_sem] theorem Try.sz161 : szO Try.prog 161 = some 11 := by kernel_rfl
@[go_sem] theorem Try.zero161 : zeroL Try.prog 161 = some [.nilSl, .nilSl, .int .i64 0, .int .i64 0, .int .i64 0, .int .i64 0, .int .i64 0, .int .i64 0, .int .i64 0, .int .i64 0, .nilMap] := by kernel_rfl
@[go_sem] theorem Try.small161 : smallO Try.prog 161 = some (11, 120) := by kernel_rfl
@[go_sem] theorem Try.zt161 : zeroT Try.prog 161 = some (.agg [.nilSl, .nilSl, .int .i64 0, .int .i64 0, .int .i64 0, .int .i64 0, .int .i64 0, .int .i64 0, .int .i64 0, .int .i64 0, .nilMap]) := by kernel_rfl
@[go_sem] theorem Try.fld161_0 : fieldO Try.prog 161 0 = some (0, 73) := by kernel_rfl
@[go_sem] theorem Try.fld161_1 : fieldO Try.prog 161 1 = some (9, 3) := by kernel_rfl
@[go_sem] theorem Try.fld161_2 : fieldO Try.prog 161 2 = some (10, 159) := by kernel_rfl
@[go_sem] theorem Try.bld161 (parts : List (Nat × TV)) : buildO Try.prog 161 parts = (fillT (fun i => ([(0, 9), (9, 1), (10, 1)] : List (Nat × Nat))[i]?) [.nilSl, .nilSl, .int .i64 0, .int .i64 0, .int .i64 0, .int .i64 0, .int .i64 0, .int .i64 0, .int .i64 0, .int .i64 0, .nilMap] parts).map .agg := by kernel_rfl
@[go_sem] theorem Try.bldp161 (parts : List (Nat × PV)) : buildP Try.prog 161 parts = fillP (fun i => ([(0, 9), (9, 1), (10, 1)] : List (Nat × Nat))[i]?) [.t (.nilSl), .t (.nilSl), .t (.int .i64 0), .t (.int .i64 0), .t (.int .i64 0), .t (.int .i64 0), .t (.int .i64 0), .t (.int .i64 0), .t (.int .i64 0), .t (.int .i64 0), .t (.nilMap)] parts := by kernel_rfl
@[go_sem] theorem Try.eqg161 : Program.eqGuardType Try.prog (Program.depth Try.prog) 161 = false := by kernel_rfl
@[go_sem] theorem Try.agg163 : aggO Try.prog 163 = some false := by kernel_rfl
@[go_sem] theorem Try.pln163 : plainO Try.prog 163 = some true := by kernel_rfl
@[go_sem] theorem Try.sz163 : szO Try.prog 163 = some 1 := by kernel_rfl
@[go_sem] theorem Try.zero163 : zeroL Try.prog 163 = some [.nilFn] := by kernel_rfl
@[go_sem] theorem Try.small163 : smallO Try.prog 163 = some (1, 8) := by kernel_rfl
@[go_sem] theorem Try.zt163 : zeroT Try.prog 163 = some (.nilFn) := by kernel_rfl
@[go_sem] theorem Try.agg164 : aggO Try.prog 164 = some false := by kernel_rfl
@[go_sem] theorem Try.pln164 : plainO Try.prog 164 = some true := by kernel_rfl
@[go_sem] theorem Try.sz164 : szO Try.prog 164 = some 1 := by kernel_rfl
@[go_sem] theorem Try.zero164 : zeroL Try.prog 164 = some [.int .u64 0] := by kernel_rfl
@[go_sem] theorem Try.small164 : smallO Try.prog 164 = some (1, 8) := by kernel_rfl
@[go_sem] theorem Try.zt164 : zeroT Try.prog 164 = some (.int .u64 0) := by kernel_rfl
@[go_sem] theorem Try.knd164 : kindO Try.prog 164 = some .u64 := by kernel_rfl
@[go_sem] theorem Try.und164 : Program.underlying Try.prog 164 = some (.int .u64) := by kernel_rfl
@[go_sem] theorem Try.agg165 : aggO Try.prog 165 = some false := by kernel_rfl
@[go_sem] theorem Try.pln165 : plainO Try.prog 165 = some true := by kernel_rfl
@[go_sem] theorem Try.sz165 : szO Try.prog 165 = some 1 := by kernel_rfl
@[go_sem] theorem Try.zero165 : zeroL Try.prog 165 = some [.nilFn] := by kernel_rfl
@[go_sem] theorem Try.small165 : smallO Try.prog 165 = some (1, 8) := by kernel_rfl
@[go_sem] theorem Try.zt165 : zeroT Try.prog 165 = some (.nilFn) := by kernel_rfl
@[go_sem] theorem Try.agg166 : aggO Try.prog 166 = some true := by kernel_rfl
@[go_sem] theorem Try.pln166 : plainO Try.prog 166 = some true := by kernel_rfl
@[go_sem] theorem Try.sz166 : szO Try.prog 166 = some 8 := by kernel_rfl
@[go_sem] theorem Try.zero166 : zeroL Try.prog 166 = some [.int .i64 0, .int .i64 0, .int .i64 0, .int .i64 0, .int .i64 0, .int .i64 0, .int .i64 0, .int .i64 0] := by kernel_rfl
@[go_sem] theorem Try.small166 : smallO Try.prog 166 = some (8, 64) := by kernel_rfl
@[go_sem] theorem Try.zt166 : zeroT Try.prog 166 = some (.agg [.int .i64 0, .int .i64 0, .int .i64 0, .int .i64 0, .int .i64 0, .int .i64 0, .int .i64 0, .int .i64 0]) := by kernel_rfl
@[go_sem] theorem Try.fld166_0 : fieldO Try.prog 166 0 = some (0, 84) := by kernel_rfl
@[go_sem] theorem Try.bld166 (parts : List (Nat × TV)) : buildO Try.prog 166 parts = (fillT (fun i => ([(0, 8)] : List (Nat × Nat))[i]?) [.int .i64 0, .int .i64 0, .int .i64 0, .int .i64 0, .int .i64 0, .int .i64 0, .int .i64 0, .int .i64 0] parts).map .agg := by kernel_rfl
@[go_sem] theorem Try.eqg166 : Program.eqGuardType Try.prog (Program.depth Try.prog) 166 = false := by kernel_rfl
@[go_sem] theorem Try.agg167 : aggO Try.prog 167 = some true := by kernel_rfl
@[go_sem] theorem Try.pln167 : plainO Try.prog 167 = some true := by kernel_rfl
@[go_sem] theorem Try.sz167 : szO Try.prog 167 = some 8 := by kernel_rfl
@[go_sem] theorem Try.zero167 : zeroL Try.prog 167 = some [.int .i64 0, .int .i64 0, .int .i64 0, .int .i64 0, .int .i64 0, .int .i64 0, .int .i64 0, .int .i64 0] := by kernel_rfl
@[go_sem] theorem Try.small167 : smallO Try.prog 167 = some (8, 64) := by kernel_rfl
@[go_sem] theorem Try.zt167 : zeroT Try.prog 167 = some (.agg [.int .i64 0, .int .i64 0, .int .i64 0, .int .i64 0, .int .i64 0, .int .i64 0, .int .i64 0, .int .i64 0]) := by kernel_rfl
@[go_sem] theorem Try.fld167_0 : fieldO Try.prog 167 0 = some (0, 84) := by kernel_rfl
@[go_sem] theorem Try.bld167 (parts : List (Nat × TV)) : buildO Try.prog 167 parts = (fillT (fun i => ([(0, 8)] : List (Nat × Nat))[i]?) [.int .i64 0, .int .i64 0, .int .i64 0, .int .i64 0, .int .i64 0, .int .i64 0, .int .i64 0, .int .i64 0] parts).map .agg := by kernel_rfl
@[go_sem] theorem Try.eq167 (a0 b0 : Int) (a1 b1 : Int) (a2 b2 : Int) (a3 b3 : Int) (a4 b4 : Int) (a5 b5 : Int) (a6 b6 : Int) (a7 b7 : Int) : eqT Try.prog 20 167 (.agg [.int .i64 a0, .int .i64 a1, .int .i64 a2, .int .i64 a3, .int .i64 a4, .int .i64 a5, .int .i64 a6, .int .i64 a7]) (.agg [.int .i64 b0, .int .i64 b1, .int .i64 b2, .int .i64 b3, .int .i64 b4, .int .i64 b5, .int .i64 b6, .int .i64 b7]) = some (((a0 == b0) && (((a1 == b1) && ((a2 == b2) && true)) && (((a3 == b3) && ((a4 == b4) && true)) && (((a5 == b5) && ((a6 == b6) && true)) && ((a7 == b7) && true))))) && true) := by kernel_rfl
@[go_sem] theorem Try.eqg167 : Program.eqGuardType Try.prog (Program.depth Try.prog) 167 = false := by kernel_rfl
@[go_sem] theorem Try.agg168 : aggO Try.prog 168 = some false := by kernel_rfl
@[go_sem] theorem Try.pln168 : plainO Try.prog 168 = some true := by kernel_rfl
@[go_sem] theorem Try.sz168 : szO Try.prog 168 = some 1 := by kernel_rfl
@[go_sem] theorem Try.zero168 : zeroL Try.prog 168 = some [.nilSl] := by kernel_rfl
@[go_sem] theorem Try.small168 : smallO Try.prog 168 = some (1, 24) := by kernel_rfl
@[go_sem] theorem Try.zt168 : zeroT Try.prog 168 = some (.nilSl) := by kernel_rfl
@[go_sem] theorem Try.eqn168 : eqT Try.prog 20 168 .nilSl .nilSl = some true := by kernel_rfl
@[go_sem] theorem Try.eqs168 (cs : List TV) (n : Nat) (f : Bool) : eqT Try.prog 20 168 (.sl cs n f) .nilSl = some false := by kernel_rfl
@[go_sem] theorem Try.eqt168 (cs : List TV) (n : Nat) (f : Bool) : eqT Try.prog 20 168 .nilSl (.sl cs n f) = some false := by kernel_rfl
@[go_sem] theorem Try.sl168 : sliceO Try.prog 168 = some 172 := by kernel_rfl
@[go_sem] theorem Try.und168 : Program.underlying Try.prog 168 = some (.slice 172) := by kernel_rfl
@[go_sem] theorem Try.agg170 : aggO Try.prog 170 = some false := by kernel_rfl
@[go_sem] theorem Try.pln170 : plainO Try.prog 170 = some true := by kernel_rfl
@[go_sem] theorem Try.sz170 : szO Try.prog 170 = some 1 := by kernel_rfl
@[go_sem] theorem Try.zero170 : zeroL Try.prog 170 = some [.nilFn] := by kernel_rfl
@[go_sem] theorem Try.small170 : smallO Try.prog 170 = some (1, 8) := by kernel_rfl
@[go_sem] theorem Try.zt170 : zeroT Try.prog 170 = some (.nilFn) := by kernel_rfl
@[go_sem] theorem Try.agg171 : aggO Try.prog 171 = some false := by kernel_rfl
@[go_sem] theorem Try.pln171 : plainO Try.prog 171 = some false := by kernel_rfl
@[go_sem] theorem Try.sz171 : szO Try.prog 171 = some 1 := by kernel_rfl
@[go_sem] theorem Try.zero171 : zeroL Try.prog 171 = some [.nilIf] := by kernel_rfl
@[go_sem] theorem Try.small171 : smallO Try.prog 171 = some (1, 16) := by kernel_rfl
@[go_sem] theorem Try.zt171 : zeroT Try.prog 171 = some (.nilIf) := by kernel_rfl
@[go_sem] theorem Try.agg172 : aggO Try.prog 172 = some false := by kernel_rfl
@[go_sem] theorem Try.pln172 : plainO Try.prog 172 = some false := by kernel_rfl
@[go_sem] theorem Try.sz172 : szO Try.prog 172 = some 1 := by kernel_rfl
@[go_sem] theorem Try.zero172 : zeroL Try.prog 172 = some [.nilIf] := by kernel_rfl
@[go_sem] theorem Try.small172 : smallO Try.prog 172 = some (1, 16) := by kernel_rfl
@[go_sem] theorem Try.zt172 : zeroT Try.prog 172 = some (.nilIf) := by kernel_rfl
@[go_sem] theorem Try.agg174 : aggO Try.prog 174 = some false := by kernel_rfl
@[go_sem] theorem Try.pln174 : plainO Try.prog 174 = some true := by kernel_rfl
@[go_sem] theorem Try.sz174 : szO Try.prog 174 = some 1 := by kernel_rfl
@[go_sem] theorem Try.zero174 : zeroL Try.prog 174 = some [.nilFn] := by kernel_rfl
@[go_sem] theorem Try.small174 : smallO Try.prog 174 = some (1, 8) := by kernel_rfl
@[go_sem] theorem Try.zt174 : zeroT Try.prog 174 = some (.nilFn) := by kernel_rfl
@[go_sem] theorem Try.agg175 : aggO Try.prog 175 = some true := by kernel_rfl
@[go_sem] theorem Try.pln175 : plainO Try.prog 175 = some true := by kernel_rfl
@[go_sem] theorem Try.sz175 : szO Try.prog 175 = some 6 := by kernel_rfl
@[go_sem] theorem Try.zero175 : zeroL Try.prog 175 = some [.int .i64 0, .nilSl, .int .i64 0, .int .i64 0, .int .i64 0, .nilSl] := by kernel_rfl
@[go_sem] theorem Try.small175 : smallO Try.prog 175 = some (6, 80) := by kernel_rfl
@[go_sem] theorem Try.zt175 : zeroT Try.prog 175 = some (.agg [.int .i64 0, .nilSl, .int .i64 0, .int .i64 0, .int .i64 0, .nilSl]) := by kernel_rfl
@[go_sem] theorem Try.fld175_0 : fieldO Try.prog 175 0 = some (0, 91) := by kernel_rfl
@[go_sem] theorem Try.bld175 (parts : List (Nat × TV)) : buildO Try.prog 175 parts = (fillT (fun i => ([(0, 6)] : List (Nat × Nat))[i]?) [.int .i64 0, .nilSl, .int .i64 0, .int .i64 0, .int .i64 0, .nilSl] parts).map .agg := by kernel_rfl
@[go_sem] theorem Try.bldp175 (parts : List (Nat × PV)) : buildP Try.prog 175 parts = fillP (fun i => ([(0, 6)] : List (Nat × Nat))[i]?) [.t (.int .i64 0), .t (.nilSl), .t (.int .i64 0), .t (.int .i64 0), .t (.int .i64 0), .t (.nilSl)] parts := by kernel_rfl
@[go_sem] theorem Try.eqg175 : Program.eqGuardType Try.prog (Program.depth Try.prog) 175 = false := by kernel_rfl
@[go_sem] theorem Try.agg176 : aggO Try.prog 176 = some true := by kernel_rfl
@[go_sem] theorem Try.pln176 : plainO Try.prog 176 = some true := by kernel_rfl
@[go_sem] theorem Try.sz176 : szO Try.prog 176 = some 6 := by kernel_rfl
@[go_sem] theorem Try.zero176 : zeroL Try.prog 176 = some [.int .i64 0, .nilSl, .int .i64 0, .int .i64 0, .int .i64 0, .nilSl] := by kernel_rfl
@[go_sem] theorem Try.small176 : smallO Try.prog 176 = some (6, 80) := by kernel_rfl
@[go_sem] theorem Try.zt176 : zeroT Try.prog 176 = some (.agg [.int .i64 0, .nilSl, .int .i64 0, .int .i64 0, .int .i64 0, .nilSl]) := by kernel_rfl
@[go_sem] theorem Try.fld176_0 : fieldO Try.prog 176 0 = some (0, 91) := by kernel_rfl
@[go_sem] theorem Try.bld176 (parts : List (Nat × TV)) : buildO Try.prog 176 parts = (fillT (fun i => ([(0, 6)] : List (Nat × Nat))[i]?) [.int .i64 0, .nilSl, .int .i64 0, .int .i64 0, .int .i64 0, .nilSl] parts).map .agg := by kernel_rfl
@[go_sem] theorem Try.bldp176 (parts : List (Nat × PV)) : buildP Try.prog 176 parts = fillP (fun i => ([(0, 6)] : List (Nat × Nat))[i]?) [.t (.int .i64 0), .t (.nilSl), .t (.int .i64 0), .t (.int .i64 0), .t (.int .i64 0), .t (.nilSl)] parts := by kernel_rfl
@[go_sem] theorem Try.eqg176 : Program.eqGuardType Try.prog (Program.depth Try.prog) 176 = false := by kernel_rfl
@[go_sem] theorem Try.agg177 : aggO Try.prog 177 = some false := by kernel_rfl
@[go_sem] theorem Try.pln177 : plainO Try.prog 177 = some true := by kernel_rfl
@[go_sem] theorem Try.sz177 : szO Try.prog 177 = some 1 := by kernel_rfl
@[go_sem] theorem Try.zero177 : zeroL Try.prog 177 = some [.nilFn] := by kernel_rfl
@[go_sem] theorem Try.small177 : smallO Try.prog 177 = some (1, 8) := by kernel_rfl
@[go_sem] theorem Try.zt177 : zeroT Try.prog 177 = some (.nilFn) := by kernel_rfl
@[go_sem] theorem Try.agg178 : aggO Try.prog 178 = some false := by kernel_rfl
@[go_sem] theorem Try.pln178 : plainO Try.prog 178 = some true := by kernel_rfl
@[go_sem] theorem Try.sz178 : szO Try.prog 178 = some 1 := by kernel_rfl
@[go_sem] theorem Try.zero178 : zeroL Try.prog 178 = some [.nilFn] := by kernel_rfl
@[go_sem] theorem Try.small178 : smallO Try.prog 178 = some (1, 8) := by kernel_rfl
@[go_sem] theorem Try.zt178 : zeroT Try.prog 178 = some (.nilFn) := by kernel_rfl
@[go_sem] theorem Try.agg179 : aggO Try.prog 179 = some false := by kernel_rfl
@[go_sem] theorem Try.pln179 : plainO Try.prog 179 = some true := by kernel_rfl
@[go_sem] theorem Try.sz179 : szO Try.prog 179 = some 1 := by kernel_rfl
@[go_sem] theorem Try.zero179 : zeroL Try.prog 179 = some [.nilFn] := by kernel_rfl
@[go_sem] theorem Try.small179 : smallO Try.prog 179 = some (1, 8) := by kernel_rfl
@[go_sem] theorem Try.zt179 : zeroT Try.prog 179 = some (.nilFn) := by kernel_rfl
@[go_sem] theorem Try.agg180 : aggO Try.prog 180 = some true := by kernel_rfl
@[go_sem] theorem Try.pln180 : plainO Try.prog 180 = some true := by kernel_rfl
@[go_sem] theorem Try.sz180 : szO Try.prog 180 = some 2 := by kernel_rfl
@[go_sem] theorem Try.zero180 : zeroL Try.prog 180 = some [.int .i64 0, .nilSl] := by kernel_rfl
@[go_sem] theorem Try.small180 : smallO Try.prog 180 = some (2, 32) := by kernel_rfl
@[go_sem] theorem Try.zt180 : zeroT Try.prog 180 = some (.agg [.int .i64 0, .nilSl]) := by kernel_rfl
@[go_sem] theorem Try.fld180_0 : fieldO Try.prog 180 0 = some (0, 106) := by kernel_rfl
@[go_sem] theorem Try.bld180 (parts : List (Nat × TV)) : buildO Try.prog 180 parts = (fillT (fun i => ([(0, 2)] : List (Nat × Nat))[i]?) [.int .i64 0, .nilSl] parts).map .agg := by kernel_rfl
@[go_sem] theorem Try.bldp180 (parts : List (Nat × PV)) : buildP Try.prog 180 parts = fillP (fun i => ([(0, 2)] : List (Nat × Nat))[i]?) [.t (.int .i64 0), .t (.nilSl)] parts := by kernel_rfl
@[go_sem] theorem Try.eqg180 : Program.eqGuardType Try.prog (Program.depth Try.prog) 180 = false := by kernel_rfl
@[go_sem] theorem Try.agg181 : aggO Try.prog 181 = some true := by kernel_rfl
@[go_sem] theorem Try.pln181 : plainO Try.prog 181 = some true := by kernel_rfl
@[go_sem] theorem Try.sz181 : szO Try.prog 181 = some 2 := by kernel_rfl
@[go_sem] theorem Try.zero181 : zeroL Try.prog 181 = some [.int .i64 0, .nilSl] := by kernel_rfl
@[go_sem] theorem Try.small181 : smallO Try.prog 181 = some (2, 32) := by kernel_rfl
@[go_sem] theorem Try.zt181 : zeroT Try.prog 181 = some (.agg [.int .i64 0, .nilSl]) := by kernel_rfl
@[go_sem] theorem Try.fld181_0 : fieldO Try.prog 181 0 = some (0, 106) := by kernel_rfl
@[go_sem] theorem Try.bld181 (parts : List (Nat × TV)) : buildO Try.prog 181 parts = (fillT (fun i => ([(0, 2)] : List (Nat × Nat))[i]?) [.int .i64 0, .nilSl] parts).map .agg := by kernel_rfl
@[go_sem] theorem Try.bldp181 (parts : List (Nat × PV)) : buildP Try.prog 181 parts = fillP (fun i => ([(0, 2)] : List (Nat × Nat))[i]?) [.t (.int .i64 0), .t (.nilSl)] parts := by kernel_rfl
@[go_sem] theorem Try.eqg181 : Program.eqGuardType Try.prog (Program.depth Try.prog) 181 = false := by kernel_rfl
@[go_sem] theorem Try.agg183 : aggO Try.prog 183 = some false := by kernel_rfl
@[go_sem] theorem Try.pln183 : plainO Try.prog 183 = some true := by kernel_rfl
@[go_sem] theorem Try.sz183 : szO Try.prog 183 = some 1 := by kernel_rfl
@[go_sem] theorem Try.zero183 : zeroL Try.prog 183 = some [.nilFn] := by kernel_rfl
@[go_sem] theorem Try.small183 : smallO Try.prog 183 = some (1, 8) := by kernel_rfl
@[go_sem] theorem Try.zt183 : zeroT Try.prog 183 = some (.nilFn) := by kernel_rfl
@[go_sem] theorem Try.agg184 : aggO Try.prog 184 = some false := by kernel_rfl
@[go_sem] theorem Try.pln184 : plainO Try.prog 184 = some true := by kernel_rfl
@[go_sem] theorem Try.sz184 : szO Try.prog 184 = some 1 := by kernel_rfl
@[go_sem] theorem Try.zero184 : zeroL Try.prog 184 = some [.nilFn] := by kernel_rfl
@[go_sem] theorem Try.small184 : smallO Try.prog 184 = some (1, 8) := by kernel_rfl
@[go_sem] theorem Try.zt184 : zeroT Try.prog 184 = some (.nilFn) := by kernel_rfl
@[go_sem] theorem Try.agg185 : aggO Try.prog 185 = some false := by kernel_rfl
@[go_sem] theorem Try.pln185 : plainO Try.prog 185 = some true := by kernel_rfl
@[go_sem] theorem Try.sz185 : szO Try.prog 185 = some 1 := by kernel_rfl
@[go_sem] theorem Try.zero185 : zeroL Try.prog 185 = some [.nilFn] := by kernel_rfl
@[go_sem] theorem Try.small185 : smallO Try.prog 185 = some (1, 8) := by kernel_rfl
@[go_sem] theorem Try.zt185 : zeroT Try.prog 185 = some (.nilFn) := by kernel_rfl
@[go_sem] theorem Try.agg186 : aggO Try.prog 186 = some true := by kernel_rfl
@[go_sem] theorem Try.pln186 : plainO Try.prog 186 = some true := by kernel_rfl
@[go_sem] theorem Try.sz186 : szO Try.prog 186 = some 2 := by kernel_rfl
@[go_sem] theorem Try.zero186 : zeroL Try.prog 186 = some [.int .i64 0, .int .i64 0] := by kernel_rfl
@[go_sem] theorem Try.small186 : smallO Try.prog 186 = some (2, 16) := by kernel_rfl
@[go_sem] theorem Try.zt186 : zeroT Try.prog 186 = some (.agg [.int .i64 0, .int .i64 0]) := by kernel_rfl
@[go_sem] theorem Try.fld186_0 : fieldO Try.prog 186 0 = some (0, 3) := by kernel_rfl
@[go_sem] theorem Try.fld186_1 : fieldO Try.prog 186 1 = some (1, 3) := by kernel_rfl
@[go_sem] theorem Try.bld186 (parts : List (Nat × TV)) : buildO Try.prog 186 parts = (fillT (fun i => ([(0, 1), (1, 1)] : List (Nat × Nat))[i]?) [.int .i64 0, .int .i64 0] parts).map .agg := by kernel_rfl
@[go_sem] theorem Try.eqg186 : Program.eqGuardType Try.prog (Program.depth Try.prog) 186 = false := by kernel_rfl
@[go_sem] theorem Try.agg187 : aggO Try.prog 187 = some true := by kernel_rfl
@[go_sem] theorem Try.pln187 : plainO Try.prog 187 = some true := by kernel_rfl
@[go_sem] theorem Try.sz187 : szO Try.prog 187 = some 2 := by kernel_rfl
@[go_sem] theorem Try.zero187 : zeroL Try.prog 187 = some [.int .i64 0, .int .i64 0] := by kernel_rfl
@[go_sem] theorem Try.small187 : smallO Try.prog 187 = some (2, 16) := by kernel_rfl
@[go_sem] theorem Try.zt187 : zeroT Try.prog 187 = some (.agg [.int .i64 0, .int .i64 0]) := by kernel_rfl
@[go_sem] theorem Try.fld187_0 : fieldO Try.prog 187 0 = some (0, 3) := by kernel_rfl
@[go_sem] theorem Try.fld187_1 : fieldO Try.prog 187 1 = some (1, 3) := by kernel_rfl
@[go_sem] theorem Try.bld187 (parts : List (Nat × TV)) : buildO Try.prog 187 parts = (fillT (fun i => ([(0, 1), (1, 1)] : List (Nat × Nat))[i]?) [.int .i64 0, .int .i64 0] parts).map .agg := by kernel_rfl
@[go_sem] theorem Try.eq187 (a0 b0 : Int) (a1 b1 : Int) : eqT Try.prog 20 187 (.agg [.int .i64 a0, .int .i64 a1]) (.agg [.int .i64 b0, .int .i64 b1]) = some ((a0 == b0) && ((a1 == b1) && true)) := by kernel_rfl
@[go_sem] theorem Try.eqg187 : Program.eqGuardType Try.prog (Program.depth Try.prog) 187 = false := by kernel_rfl
@[go_sem] theorem Try.agg189 : aggO Try.prog 189 = some false := by kernel_rfl
@[go_sem] theorem Try.pln189 : plainO Try.prog 189 = some true := by kernel_rfl
@[go_sem] theorem Try.sz189 : szO Try.prog 189 = some 1 := by kernel_rfl
@[go_sem] theorem Try.zero189 : zeroL Try.prog 189 = some [.nilFn] := by kernel_rfl
@[go_sem] theorem Try.small189 : smallO Try.prog 189 = some (1, 8) := by kernel_rfl
@[go_sem] theorem Try.zt189 : zeroT Try.prog 189 = some (.nilFn) := by kernel_rfl
@[go_sem] theorem Try.agg190 : aggO Try.prog 190 = some false := by kernel_rfl
@[go_sem] theorem Try.pln190 : plainO Try.prog 190 = some true := by kernel_rfl
@[go_sem] theorem Try.sz190 : szO Try.prog 190 = some 1 := by kernel_rfl
@[go_sem] theorem Try.zero190 : zeroL Try.prog 190 = some [.nilFn] := by kernel_rfl
@[go_sem] theorem Try.small190 : smallO Try.prog 190 = some (1, 8) := by kernel_rfl
@[go_sem] theorem Try.zt190 : zeroT Try.prog 190 = some (.nilFn) := by kernel_rfl
@[go_sem] theorem Try.agg192 : aggO Try.prog 192 = some false := by kernel_rfl
@[go_sem] theorem Try.pln192 : plainO Try.prog 192 = some true := by kernel_rfl
@[go_sem] theorem Try.sz192 : szO Try.prog 192 = some 1 := by kernel_rfl
@[go_sem] theorem Try.zero192 : zeroL Try.prog 192 = some [.nilFn] := by kernel_rfl
@[go_sem] theorem Try.small192 : smallO Try.prog 192 = some (1, 8) := by kernel_rfl
@[go_sem] theorem Try.zt192 : zeroT Try.prog 192 = some (.nilFn) := by kernel_rfl
@[go_sem] theorem Try.agg193 : aggO Try.prog 193 = some false := by kernel_rfl
@[go_sem] theorem Try.pln193 : plainO Try.prog 193 = some true := by kernel_rfl
@[go_sem] theorem Try.sz193 : szO Try.prog 193 = some 1 := by kernel_rfl
@[go_sem] theorem Try.zero193 : zeroL Try.prog 193 = some [.nilFn] := by kernel_rfl
@[go_sem] theorem Try.small193 : smallO Try.prog 193 = some (1, 8) := by kernel_rfl
@[go_sem] theorem Try.zt193 : zeroT Try.prog 193 = some (.nilFn) := by kernel_rfl
@[go_sem] theorem Try.agg194 : aggO Try.prog 194 = some false := by kernel_rfl
@[go_sem] theorem Try.pln194 : plainO Try.prog 194 = some true := by kernel_rfl
@[go_sem] theorem Try.sz194 : szO Try.prog 194 = some 1 := by kernel_rfl
@[go_sem] theorem Try.zero194 : zeroL Try.prog 194 = some [.nilFn] := by kernel_rfl
@[go_sem] theorem Try.small194 : smallO Try.prog 194 = some (1, 8) := by kernel_rfl
@[go_sem] theorem Try.zt194 : zeroT Try.prog 194 = some (.nilFn) := by kernel_rfl
@[go_sem] theorem Try.agg195 : aggO Try.prog 195 = some true := by kernel_rfl
@[go_sem] theorem Try.pln195 : plainO Try.prog 195 = some true := by kernel_rfl
@[go_sem] theorem Try.sz195 : szO Try.prog 195 = some 12 := by kernel_rfl
@[go_sem] theorem Try.zero195 : zeroL Try.prog 195 = some [.bool false, .bool false, .bool false, .bool false, .bool false, .bool false, .bool false, .bool false, .bool false, .bool false, .bool false, .bool false] := by kernel_rfl
@[go_sem] theorem Try.small195 : smallO Try.prog 195 = some (12, 12) := by kernel_rfl
@[go_sem] theorem Try.zt195 : zeroT Try.prog 195 = some (.agg [.bool false, .bool false, .bool false, .bool false, .bool false, .bool false, .bool false, .bool false, .bool false, .bool false, .bool false, .bool false]) := by kernel_rfl
@[go_sem] theorem Try.bld195 (parts : List (Nat × TV)) : buildO Try.prog 195 parts = (fillT (fun i => some (i * 1, 1)) [.bool false, .bool false, .bool false, .bool false, .bool false, .bool false, .bool false, .bool false, .bool false, .bool false, .bool false, .bool false] parts).map .agg := by kernel_rfl
@[go_sem] theorem Try.eq195 (a0 b0 : Bool) (a1 b1 : Bool) (a2 b2 : Bool) (a3 b3 : Bool) (a4 b4 : Bool) (a5 b5 : Bool) (a6 b6 : Bool) (a7 b7 : Bool) (a8 b8 : Bool) (a9 b9 : Bool) (a10 b10 : Bool) (a11 b11 : Bool) : eqT Try.prog 20 195 (.agg [.bool a0, .bool a1, .bool a2, .bool a3, .bool a4, .bool a5, .bool a6, .bool a7, .bool a8, .bool a9, .bool a10, .bool a11]) (.agg [.bool b0, .bool b1, .bool b2, .bool b3, .bool b4, .bool b5, .bool b6, .bool b7, .bool b8, .bool b9, .bool b10, .bool b11]) = some ((a0 == b0) && ((a1 == b1) && ((a2 == b2) && ((a3 == b3) && ((a4 == b4) && ((a5 == b5) && ((a6 == b6) && ((a7 == b7) && ((a8 == b8) && ((a9 == b9) && ((a10 == b10) && ((a11 == b11) && true)))))))))))) := by kernel_rfl
@[go_sem] theorem Try.eqg195 : Program.eqGuardType Try.prog (Program.depth Try.prog) 195 = false := by kernel_rfl
@[go_sem] theorem Try.arr195 : arrayO Try.prog 195 = some (12, 4) := by kernel_rfl
@[go_sem] theorem Try.und195 : Program.underlying Try.prog 195 = some (.array 12 4) := by kernel_rfl
@[go_sem] theorem Try.agg196 : aggO Try.prog 196 = some true := by kernel_rfl
@[go_sem] theorem Try.pln196 : plainO Try.prog 196 = some true := by kernel_rfl
@[go_sem] theorem Try.sz196 : szO Try.prog 196 = some 12 := by kernel_rfl
@[go_sem] theorem Try.zero196 : zeroL Try.prog 196 = some [.bool false, .bool false, .bool false, .bool false, .bool false, .bool false, .bool false, .bool false, .bool false, .bool false, .bool false, .bool false] := by kernel_rfl
@[go_sem] theorem Try.small196 : smallO Try.prog 196 = some (12, 12) := by kernel_rfl
@[go_sem] theorem Try.zt196 : zeroT Try.prog 196 = some (.agg [.bool false, .bool false, .bool false, .bool false, .bool false, .bool false, .bool false, .bool false, .bool false, .bool false, .bool false, .bool false]) := by kernel_rfl
@[go_sem] theorem Try.bld196 (parts : List (Nat × TV)) : buildO Try.prog 196 parts = (fillT (fun i => some (i * 1, 1)) [.bool false, .bool false, .bool false, .bool false, .bool false, .bool false, .bool false, .bool false, .bool false, .bool false, .bool false, .bool false] parts).map .agg := by kernel_rfl
@[go_sem] theorem Try.eq196 (a0 b0 : Bool) (a1 b1 : Bool) (a2 b2 : Bool) (a3 b3 : Bool) (a4 b4 : Bool) (a5 b5 : Bool) (a6 b6 : Bool) (a7 b7 : Bool) (a8 b8 : Bool) (a9 b9 : Bool) (a10 b10 : Bool) (a11 b11 : Bool) : eqT Try.prog 20 196 (.agg [.bool a0, .bool a1, .bool a2, .bool a3, .bool a4, .bool a5, .bool a6, .bool a7, .bool a8, .bool a9, .bool a10, .bool a11]) (.agg [.bool b0, .bool b1, .bool b2, .bool b3, .bool b4, .bool b5, .bool b6, .bool b7, .bool b8, .bool b9, .bool b10, .bool b11]) = some ((a0 == b0) && ((a1 == b1) && ((a2 == b2) && ((a3 == b3) && ((a4 == b4) && ((a5 == b5) && ((a6 == b6) && ((a7 == b7) && ((a8 == b8) && ((a9 == b9) && ((a10 == b10) && ((a11 == b11) && true)))))))))))) := by kernel_rfl
@[go_sem] theorem Try.eqg196 : Program.eqGuardType Try.prog (Program.depth Try.prog) 196 = false := by kernel_rfl
@[go_sem] theorem Try.arr196 : arrayO Try.prog 196 = some (12, 4) := by kernel_rfl
@[go_sem] theorem Try.und196 : Program.underlying Try.prog 196 = some (.array 12 4) := by kernel_rfl
@[go_sem] theorem Try.agg197 : aggO Try.prog 197 = some false := by kernel_rfl
@[go_sem] theorem Try.pln197 : plainO Try.prog 197 = some true := by kernel_rfl
@[go_sem] theorem Try.sz197 : szO Try.prog 197 = some 1 := by kernel_rfl
@[go_sem] theorem Try.zero197 : zeroL Try.prog 197 = some [.nilMap] := by kernel_rfl
@[go_sem] theorem Try.small197 : smallO Try.prog 197 = some (1, 8) := by kernel_rfl
@[go_sem] theorem Try.map197 : mapO Try.prog 197 = some (3, 23) := by kernel_rfl
@[go_sem] theorem Try.und197 : Program.underlying Try.prog 197 = some (.map 3 23) := by kernel_rfl
@[go_sem] theorem Try.zt197 : zeroT Try.prog 197 = some (.nilMap) := by kernel_rfl
@[go_sem] theorem Try.agg198 : aggO Try.prog 198 = some true := by kernel_rfl
@[go_sem] theorem Try.pln198 : plainO Try.prog 198 = some true := by kernel_rfl
@[go_sem] theorem Try.sz198 : szO Try.prog 198 = some 13 := by kernel_rfl
@[go_sem] theorem Try.zero198 : zeroL Try.prog 198 = some [.bool false, .bool false, .bool false, .bool false, .bool false, .bool false, .bool false, .bool false, .bool false, .bool false, .bool false, .bool false, .nilMap] := by kernel_rfl
@[go_sem] theorem Try.small198 : smallO Try.prog 198 = some (13, 24) := by kernel_rfl
@[go_sem] theorem Try.zt198 : zeroT Try.prog 198 = some (.agg [.bool false, .bool false, .bool false, .bool false, .bool false, .bool false, .bool false, .bool false, .bool false, .bool false, .bool false, .bool false, .nilMap]) := by kernel_rfl
@[go_sem] theorem Try.fld198_0 : fieldO Try.prog 198 0 = some (0, 196) := by kernel_rfl
@[go_sem] theorem Try.fld198_1 : fieldO Try.prog 198 1 = some (12, 197) := by kernel_rfl
@[go_sem] theorem Try.bld198 (parts : List (Nat × TV)) : buildO Try.prog 198 parts = (fillT (fun i => ([(0, 12), (12, 1)] : List (Nat × Nat))[i]?) [.bool false, .bool false, .bool false, .bool false, .bool false, .bool false, .bool false, .bool false, .bool false, .bool false, .bool false, .bool false, .nilMap] parts).map .agg := by kernel_rfl
@[go_sem] theorem Try.bldp198 (parts : List (Nat × PV)) : buildP Try.prog 198 parts = fillP (fun i => ([(0, 12), (12, 1)] : List (Nat × Nat))[i]?) [.t (.bool false), .t (.bool false), .t (.bool false), .t (.bool false), .t (.bool false), .t (.bool false), .t (.bool false), .t (.bool false), .t (.bool false), .t (.bool false), .t (.bool false), .t (.bool false), .t (.nilMap)] parts := by kernel_rfl
@[go_sem] theorem Try.eqg198 : Program.eqGuardType Try.prog (Program.depth Try.prog) 198 = false := by kernel_rfl
@[go_sem] theorem Try.agg199 : aggO Try.prog 199 = some true := by kernel_rfl
@[go_sem] theorem Try.pln199 : plainO Try.prog 199 = some true := by kernel_rfl
@[go_sem] theorem Try.sz199 : szO Try.prog 199 = some 13 := by kernel_rfl
@[go_sem] theorem Try.zero199 : zeroL Try.prog 199 = some [.bool false, .bool false, .bool false, .bool false, .bool false, .bool false, .bool false, .bool false, .bool false, .bool false, .bool false, .bool false, .nilMap] := by kernel_rfl
@[go_sem] theorem Try.small199 : smallO Try.prog 199 = some (13, 24) := by kernel_rfl
@[go_sem] theorem Try.zt199 : zeroT Try.prog 199 = some (.agg [.bool false, .bool false, .bool false, .bool false, .bool false, .bool false, .bool false, .bool false, .bool false, .bool false, .bool false, .bool false, .nilMap]) := by kernel_rfl
@[go_sem] theorem Try.fld199_0 : fieldO Try.prog 199 0 = some (0, 196) := by kernel_rfl
@[go_sem] theorem Try.fld199_1 : fieldO Try.prog 199 1 = some (12, 197) := by kernel_rfl
@[go_sem] theorem Try.bld199 (parts : List (Nat × TV)) : buildO Try.prog 199 parts = (fillT (fun i => ([(0, 12), (12, 1)] : List (Nat × Nat))[i]?) [.bool false, .bool false, .bool false, .bool false, .bool false, .bool false, .bool false, .bool false, .bool false, .bool false, .bool false, .bool false, .nilMap] parts).map .agg := by kernel_rfl
@[go_sem] theorem Try.bldp199 (parts : List (Nat × PV)) : buildP Try.prog 199 parts = fillP (fun i => ([(0, 12), (12, 1)] : List (Nat × Nat))[i]?) [.t (.bool false), .t (.bool false), .t (.bool false), .t (.bool false), .t (.bool false), .t (.bool false), .t (.bool false), .t (.bool false), .t (.bool false), .t (.bool false), .t (.bool false), .t (.bool false), .t (.nilMap)] parts := by kernel_rfl
@[go_sem] theorem Try.eqg199 : Program.eqGuardType Try.prog (Program.depth Try.prog) 199 = false := by kernel_rfl
@[go_sem] theorem Try.agg200 : aggO Try.prog 200 = some false := by kernel_rfl
@[go_sem] theorem Try.pln200 : plainO Try.prog 200 = some true := by kernel_rfl
@[go_sem] theorem Try.sz200 : szO Try.prog 200 = some 1 := by kernel_rfl
@[go_sem] theorem Try.zero200 : zeroL Try.prog 200 = some [.nilFn] := by kernel_rfl
@[go_sem] theorem Try.small200 : smallO Try.prog 200 = some (1, 8) := by kernel_rfl
@[go_sem] theorem Try.zt200 : zeroT Try.prog 200 = some (.nilFn) := by kernel_rfl
@[go_sem] theorem Try.agg201 : aggO Try.prog 201 = some false := by kernel_rfl
@[go_sem] theorem Try.pln201 : plainO Try.prog 201 = some true := by kernel_rfl
@[go_sem] theorem Try.sz201 : szO Try.prog 201 = some 1 := by kernel_rfl
@[go_sem] theorem Try.zero201 : zeroL Try.prog 201 = some [.nilFn] := by kernel_rfl
@[go_sem] theorem Try.small201 : smallO Try.prog 201 = some (1, 8) := by kernel_rfl
@[go_sem] theorem Try.zt201 : zeroT Try.prog 201 = some (.nilFn) := by kernel_rfl
@[go_sem] theorem Try.agg202 : aggO Try.prog 202 = some false := by kernel_rfl
@[go_sem] theorem Try.pln202 : plainO Try.prog 202 = some true := by kernel_rfl
@[go_sem] theorem Try.sz202 : szO Try.prog 202 = some 1 := by kernel_rfl
@[go_sem] theorem Try.zero202 : zeroL Try.prog 202 = some [.nilFn] := by kernel_rfl
@[go_sem] theorem Try.small202 : smallO Try.prog 202 = some (1, 8) := by kernel_rfl
@[go_sem] theorem Try.zt202 : zeroT Try.prog 202 = some (.nilFn) := by kernel_rfl
@[go_sem] theorem Try.agg203 : aggO Try.prog 203 = some false := by kernel_rfl
@[go_sem] theorem Try.pln203 : plainO Try.prog 203 = some true := by kernel_rfl
@[go_sem] theorem Try.sz203 : szO Try.prog 203 = some 1 := by kernel_rfl
@[go_sem] theorem Try.zero203 : zeroL Try.prog 203 = some [.nilFn] := by kernel_rfl
@[go_sem] theorem Try.small203 : smallO Try.prog 203 = some (1, 8) := by kernel_rfl
@[go_sem] theorem Try.zt203 : zeroT Try.prog 203 = some (.nilFn) := by kernel_rfl
@[go_sem] theorem Try.agg204 : aggO Try.prog 204 = some false := by kernel_rfl
@[go_sem] theorem Try.pln204 : plainO Try.prog 204 = some true := by kernel_rfl
@[go_sem] theorem Try.sz204 : szO Try.prog 204 = some 1 := by kernel_rfl
@[go_sem] theorem Try.zero204 : zeroL Try.prog 204 = some [.nilFn] := by kernel_rfl
@[go_sem] theorem Try.small204 : smallO Try.prog 204 = some (1, 8) := by kernel_rfl
@[go_sem] theorem Try.zt204 : zeroT Try.prog 204 = some (.nilFn) := by kernel_rfl
@[go_sem] theorem Try.agg205 : aggO Try.prog 205 = some true := by kernel_rfl
@[go_sem] theorem Try.pln205 : plainO Try.prog 205 = some true := by kernel_rfl
@[go_sem] theorem Try.sz205 : szO Try.prog 205 = some 2 := by kernel_rfl
@[go_sem] theorem Try.zero205 : zeroL Try.prog 205 = some [.nilSl, .nilFn] := by kernel_rfl
@[go_sem] theorem Try.small205 : smallO Try.prog 205 = some (2, 32) := by kernel_rfl
@[go_sem] theorem Try.zt205 : zeroT Try.prog 205 = some (.agg [.nilSl, .nilFn]) := by kernel_rfl
@[go_sem] theorem Try.fld205_0 : fieldO Try.prog 205 0 = some (0, 39) := by kernel_rfl
@[go_sem] theorem Try.fld205_1 : fieldO Try.prog 205 1 = some (1, 108) := by kernel_rfl
@[go_sem] theorem Try.bld205 (parts : List (Nat × TV)) : buildO Try.prog 205 parts = (fillT (fun i => ([(0, 1), (1, 1)] : List (Nat × Nat))[i]?) [.nilSl, .nilFn] parts).map .agg := by kernel_rfl
@[go_sem] theorem Try.bldp205 (parts : List (Nat × PV)) : buildP Try.prog 205 parts = fillP (fun i => ([(0, 1), (1, 1)] : List (Nat × Nat))[i]?) [.t (.nilSl), .t (.nilFn)] parts := by kernel_rfl
@[go_sem] theorem Try.eqg205 : Program.eqGuardType Try.prog (Program.depth Try.prog) 205 = false := by kernel_rfl
@[go_sem] theorem Try.agg206 : aggO Try.prog 206 = some true := by kernel_rfl
@[go_sem] theorem Try.pln206 : plainO Try.prog 206 = some true := by kernel_rfl
@[go_sem] theorem Try.sz206 : szO Try.prog 206 = some 2 := by kernel_rfl
@[go_sem] theorem Try.zero206 : zeroL Try.prog 206 = some [.nilSl, .nilFn] := by kernel_rfl
@[go_sem] theorem Try.small206 : smallO Try.prog 206 = some (2, 32) := by kernel_rfl
@[go_sem] theorem Try.zt206 : zeroT Try.prog 206 = some (.agg [.nilSl, .nilFn]) := by kernel_rfl
@[go_sem] theorem Try.fld206_0 : fieldO Try.prog 206 0 = some (0, 39) := by kernel_rfl
@[go_sem] theorem Try.fld206_1 : fieldO Try.prog 206 1 = some (1, 108) := by kernel_rfl
@[go_sem] theorem Try.bld206 (parts : List (Nat × TV)) : buildO Try.prog 206 parts = (fillT (fun i => ([(0, 1), (1, 1)] : List (Nat × Nat))[i]?) [.nilSl, .nilFn] parts).map .agg := by kernel_rfl
@[go_sem] theorem Try.bldp206 (parts : List (Nat × PV)) : buildP Try.prog 206 parts = fillP (fun i => ([(0, 1), (1, 1)] : List (Nat × Nat))[i]?) [.t (.nilSl), .t (.nilFn)] parts := by kernel_rfl
@[go_sem] theorem Try.eqg206 : Program.eqGuardType Try.prog (Program.depth Try.prog) 206 = false := by kernel_rfl
@[go_sem] theorem Try.agg207 : aggO Try.prog 207 = some true := by kernel_rfl
@[go_sem] theorem Try.pln207 : plainO Try.prog 207 = some true := by kernel_rfl
@[go_sem] theorem Try.sz207 : szO Try.prog 207 = some 2 := by kernel_rfl
@[go_sem] theorem Try.zero207 : zeroL Try.prog 207 = some [.nilSl, .nilSl] := by kernel_rfl
@[go_sem] theorem Try.small207 : smallO Try.prog 207 = some (2, 48) := by kernel_rfl
@[go_sem] theorem Try.zt207 : zeroT Try.prog 207 = some (.agg [.nilSl, .nilSl]) := by kernel_rfl
@[go_sem] theorem Try.bld207 (parts : List (Nat × TV)) : buildO Try.prog 207 parts = (fillT (fun i => some (i * 1, 1)) [.nilSl, .nilSl] parts).map .agg := by kernel_rfl
@[go_sem] theorem Try.eqg207 : Program.eqGuardType Try.prog (Program.depth Try.prog) 207 = false := by kernel_rfl
@[go_sem] theorem Try.arr207 : arrayO Try.prog 207 = some (2, 39) := by kernel_rfl
@[go_sem] theorem Try.und207 : Program.underlying Try.prog 207 = some (.array 2 39) := by kernel_rfl
@[go_sem] theorem Try.agg208 : aggO Try.prog 208 = some true := by kernel_rfl
@[go_sem] theorem Try.pln208 : plainO Try.prog 208 = some true := by kernel_rfl
@[go_sem] theorem Try.sz208 : szO Try.prog 208 = some 2 := by kernel_rfl
@[go_sem] theorem Try.zero208 : zeroL Try.prog 208 = some [.int .i64 0, .int .i64 0] := by kernel_rfl
@[go_sem] theorem Try.small208 : smallO Try.prog 208 = some (2, 16) := by kernel_rfl
@[go_sem] theorem Try.zt208 : zeroT Try.prog 208 = some (.agg [.int .i64 0, .int .i64 0]) := by kernel_rfl
@[go_sem] theorem Try.fld208_0 : fieldO Try.prog 208 0 = some (0, 3) := by kernel_rfl
@[go_sem] theorem Try.fld208_1 : fieldO Try.prog 208 1 = some (1, 3) := by kernel_rfl
@[go_sem] theorem Try.bld208 (parts : List (Nat × TV)) : buildO Try.prog 208 parts = (fillT (fun i => ([(0, 1), (1, 1)] : List (Nat × Nat))[i]?) [.int .i64 0, .int .i64 0] parts).map .agg := by kernel_rfl
@[go_sem] theorem Try.eqg208 : Program.eqGuardType Try.prog (Program.depth Try.prog) 208 = false := by kernel_rfl
@[go_sem] theorem Try.agg209 : aggO Try.prog 209 = some true := by kernel_rfl
@[go_sem] theorem Try.pln209 : plainO Try.prog 209 = some true := by kernel_rfl
@[go_sem] theorem Try.sz209 : szO Try.prog 209 = some 2 := by kernel_rfl
@[go_sem] theorem Try.zero209 : zeroL Try.prog 209 = some [.int .i64 0, .int .i64 0] := by kernel_rfl
@[go_sem] theorem Try.small209 : smallO Try.prog 209 = some (2, 16) := by kernel_rfl
@[go_sem] theorem Try.zt209 : zeroT Try.prog 209 = some (.agg [.int .i64 0, .int .i64 0]) := by kernel_rfl
@[go_sem] theorem Try.fld209_0 : fieldO Try.prog 209 0 = some (0, 3) := by kernel_rfl
@[go_sem] theorem Try.fld209_1 : fieldO Try.prog 209 1 = some (1, 3) := by kernel_rfl
@[go_sem] theorem Try.bld209 (parts : List (Nat × TV)) : buildO Try.prog 209 parts = (fillT (fun i => ([(0, 1), (1, 1)] : List (Nat × Nat))[i]?) [.int .i64 0, .int .i64 0] parts).map .agg := by kernel_rfl
@[go_sem] theorem Try.eq209 (a0 b0 : Int) (a1 b1 : Int) : eqT Try.prog 20 209 (.agg [.int .i64 a0, .int .i64 a1]) (.agg [.int .i64 b0, .int .i64 b1]) = some ((a0 == b0) && ((a1 == b1) && true)) := by kernel_rfl
@[go_sem] theorem Try.eqg209 : Program.eqGuardType Try.prog (Program.depth Try.prog) 209 = false := by kernel_rfl
@[go_sem] theorem Try.agg210 : aggO Try.prog 210 = some false := by kernel_rfl
@[go_sem] theorem Try.pln210 : plainO Try.prog 210 = some true := by kernel_rfl
@[go_sem] theorem Try.sz210 : szO Try.prog 210 = some 1 := by kernel_rfl
@[go_sem] theorem Try.zero210 : zeroL Try.prog 210 = some [.nilSl] := by kernel_rfl
@[go_sem] theorem Try.small210 : smallO Try.prog 210 = some (1, 24) := by kernel_rfl
@[go_sem] theorem Try.zt210 : zeroT Try.prog 210 = some (.nilSl) := by kernel_rfl
@[go_sem] theorem Try.eqn210 : eqT Try.prog 20 210 .nilSl .nilSl = some true := by kernel_rfl
@[go_sem] theorem Try.eqs210 (cs : List TV) (n : Nat) (f : Bool) : eqT Try.prog 20 210 (.sl cs n f) .nilSl = some false := by kernel_rfl
@[go_sem] theorem Try.eqt210 (cs : List TV) (n : Nat) (f : Bool) : eqT Try.prog 20 210 .nilSl (.sl cs n f) = some false := by kernel_rfl
@[go_sem] theorem Try.sl210 : sliceO Try.prog 210 = some 215 := by kernel_rfl
@[go_sem] theorem Try.und210 : Program.underlying Try.prog 210 = some (.slice 215) := by kernel_rfl
@[go_sem] theorem Try.agg211 : aggO Try.prog 211 = some false := by kernel_rfl
@[go_sem] theorem Try.pln211 : plainO Try.prog 211 = some true := by kernel_rfl
@[go_sem] theorem Try.sz211 : szO Try.prog 211 = some 1 := by kernel_rfl
@[go_sem] theorem Try.zero211 : zeroL Try.prog 211 = some [.nilFn] := by kernel_rfl
@[go_sem] theorem Try.small211 : smallO Try.prog 211 = some (1, 8) := by kernel_rfl
@[go_sem] theorem Try.zt211 : zeroT Try.prog 211 = some (.nilFn) := by kernel_rfl
@[go_sem] theorem Try.agg212 : aggO Try.prog 212 = some true := by kernel_rfl
@[go_sem] theorem Try.pln212 : plainO Try.prog 212 = some true := by kernel_rfl
@[go_sem] theorem Try.sz212 : szO Try.prog 212 = some 60 := by kernel_rfl
@[go_sem] theorem Try.zero212 : zeroL Try.prog 212 = some [.int .i64 0, .int .i64 0, .int .i64 0, .int .i64 0, .int .i64 0, .int .i64 0, .int .i64 0, .int .i64 0, .int .i64 0, .int .i64 0, .int .i64 0, .int .i64 0, .int .i64 0, .int .i64 0, .int .i64 0, .int .i64 0, .int .i64 0, .int .i64 0, .int .i64 0, .int .i64 0, .int .i64 0, .int .i64 0, .int .i64 0, .int .i64 0, .int .i64 0, .int .i64 0, .int .i64 0, .int .i64 0, .int .i64 0, .int .i64 0, .int .i64 0, .int .i64 0, .int .i64 0, .int .i64 0, .int .i64 0, .int .i64 0, .int .i64 0, .int .i64 0, .int .i64 0, .int .i64 0, .int .i64 0, .int .i64 0, .int .i64 0, .int .i64 0, .int .i64 0, .int .i64 0, .int .i64 0, .int .i64 0, .int .i64 0, .int .i64 0, .int .i64 0, .int .i64 0, .int .i64 0, .int .i64 0, .int .i64 0, .int .i64 0, .int .i64 0, .int .i64 0, .int .i64 0, .int .i64 0] := by kernel_rfl
@[go_sem] theorem Try.small212 : smallO Try.prog 212 = some (60, 480) := by kernel_rfl
@[go_sem] theorem Try.zt212 : zeroT Try.prog 212 = some (.agg [.int .i64 0, .int .i64 0, .int .i64 0, .int .i64 0, .int .i64 0, .int .i64 0, .int .i64 0, .int .i64 0, .int .i64 0, .int .i64 0, .int .i64 0, .int .i64 0, .int .i64 0, .int .i64 0, .int .i64 0, .int .i64 0, .int .i64 0, .int .i64 0, .int .i64 0, .int .i64 0, .int .i64 0, .int .i64 0, .int .i64 0, .int .i64 0, .int .i64 0, .int .i64 0, .int .i64 0, .int .i64 0, .int .i64 0, .int .i64 0, .int .i64 0, .int .i64 0, .int .i64 0, .int .i64 0, .int .i64 0, .int .i64 0, .int .i64 0, .int .i64 0, .int .i64 0, .int .i64 0, .int .i64 0, .int .i64 0, .int .i64 0, .int .i64 0, .int .i64 0, .int .i64 0, .int .i64 0, .int .i64 0, .int .i64 0, .int .i64 0, .int .i64 0, .int .i64 0, .int .i64 0, .int .i64 0, .int .i64 0, .int .i64 0, .int .i64 0, .int .i64 0, .int .i64 0, .int .i64 0]) := by kernel_rfl
@[go_sem] theorem Try.bld212 (parts : List (Nat × TV)) : buildO Try.prog 212 parts = (fillT (fun i => some (i * 1, 1)) [.int .i64 0, .int .i64 0, .int .i64 0, .int .i64 0, .int .i64 0, .int .i64 0, .int .i64 0, .int .i64 0, .int .i64 0, .int .i64 0, .int .i64 0, .int .i64 0, .int .i64 0, .int .i64 0, .int .i64 0, .int .i64 0, .int .i64 0, .int .i64 0, .int .i64 0, .int .i64 0, .int .i64 0, .int .i64 0, .int .i64 0, .int .i64 0, .int .i64 0, .int .i64 0, .int .i64 0, .int .i64 0, .int .i64 0, .int .i64 0, .int .i64 0, .int .i64 0, .int .i64 0, .int .i64 0, .int .i64 0, .int .i64 0, .int .i64 0, .int .i64 0, .int .i64 0, .int .i64 0, .int .i64 0, .int .i64 0, .int .i64 0, .int .i64 0, .int .i64 0, .int .i64 0, .int .i64 0, .int .i64 0, .int .i64 0, .int .i64 0, .int .i64 0, .int .i64 0, .int .i64 0, .int .i64 0, .int .i64 0, .int .i64 0, .int .i64 0, .int .i64 0, .int .i64 0, .int .i64 0] parts).map .agg := by kernel_rfl
@[go_sem] theorem Try.eqg212 : Program.eqGuardType Try.prog (Program.depth Try.prog) 212 = false := by kernel_rfl
@[go_sem] theorem Try.arr212 : arrayO Try.prog 212 = some (60, 3) := by kernel_rfl
@[go_sem] theorem Try.und212 : Program.underlying Try.prog 212 = some (.array 60 3) := by kernel_rfl
@[go_sem] theorem Try.agg213 : aggO Try.prog 213 = some true := by kernel_rfl
@[go_sem] theorem Try.pln213 : plainO Try.prog 213 = some true := by kernel_rfl
@[go_sem] theorem Try.sz213 : szO Try.prog 213 = some 60 := by kernel_rfl
@[go_sem] theorem Try.zero213 : zeroL Try.prog 213 = some [.int .i64 0, .int .i64 0, .int .i64 0, .int .i64 0, .int .i64 0, .int .i64 0, .int .i64 0, .int .i64 0, .int .i64 0, .int .i64 0, .int .i64 0, .int .i64 0, .int .i64 0, .int .i64 0, .int .i64 0, .int .i64 0, .int .i64 0, .int .i64 0, .int .i64 0, .int .i64 0, .int .i64 0, .int .i64 0, .int .i64 0, .int .i64 0, .int .i64 0, .int .i64 0, .int .i64 0, .int .i64 0, .int .i64 0, .int .i64 0, .int .i64 0, .int .i64 0, .int .i64 0, .int .i64 0, .int .i64 0, .int .i64 0, .int .i64 0, .int .i64 0, .int .i64 0, .int .i64 0, .int .i64 0, .int .i64 0, .int .i64 0, .int .i64 0, .int .i64 0, .int .i64 0, .int .i64 0, .int .i64 0, .int .i64 0, .int .i64 0, .int .i64 0, .int .i64 0, .int .i64 0, .int .i64 0, .int .i64 0, .int .i64 0, .int .i64 0, .int .i64 0, .int .i64 0, .int .i64 0] := by kernel_rfl
@[go_sem] theorem Try.small213 : smallO Try.prog 213 = some (60, 480) := by kernel_rfl
@[go_sem] theorem Try.zt213 : zeroT Try.prog 213 = some (.agg [.int .i64 0, .int .i64 0, .int .i64 0, .int .i64 0, .int .i64 0, .int .i64 0, .int .i64 0, .int .i64 0, .int .i64 0, .int .i64 0, .int .i64 0, .int .i64 0, .int .i64 0, .int .i64 0, .int .i64 0, .int .i64 0, .int .i64 0, .int .i64 0, .int .i64 0, .int .i64 0, .int .i64 0, .int .i64 0, .int .i64 0, .int .i64 0, .int .i64 0, .int .i64 0, .int .i64 0, .int .i64 0, .int .i64 0, .int .i64 0, .int .i64 0, .int .i64 0, .int .i64 0, .int .i64 0, .int .i64 0, .int .i64 0, .int .i64 0, .int .i64 0, .int .i64 0, .int .i64 0, .int .i64 0, .int .i64 0, .int .i64 0, .int .i64 0, .int .i64 0, .int .i64 0, .int .i64 0, .int .i64 0, .int .i64 0, .int .i64 0, .int .i64 0, .int .i64 0, .int .i64 0, .int .i64 0, .int .i64 0, .int .i64 0, .int .i64 0, .int .i64 0, .int .i64 0, .int .i64 0]) := by kernel_rfl
@[go_sem] theorem Try.bld213 (parts : List (Nat × TV)) : buildO Try.prog 213 parts = (fillT (fun i => some (i * 1, 1)) [.int .i64 0, .int .i64 0, .int .i64 0, .int .i64 0, .int .i64 0, .int .i64 0, .int .i64 0, .int .i64 0, .int .i64 0, .int .i64 0, .int .i64 0, .int .i64 0, .int .i64 0, .int .i64 0, .int .i64 0, .int .i64 0, .int .i64 0, .int .i64 0, .int .i64 0, .int .i64 0, .int .i64 0, .int .i64 0, .int .i64 0, .int .i64 0, .int .i64 0, .int .i64 0, .int .i64 0, .int .i64 0, .int .i64 0, .int .i64 0, .int .i64 0, .int .i64 0, .int .i64 0, .int .i64 0, .int .i64 0, .int .i64 0, .int .i64 0, .int .i64 0, .int .i64 0, .int .i64 0, .int .i64 0, .int .i64 0, .int .i64 0, .int .i64 0, .int .i64 0, .int .i64 0, .int .i64 0, .int .i64 0, .int .i64 0, .int .i64 0, .int .i64 0, .int .i64 0, .int .i64 0, .int .i64 0, .int .i64 0, .int .i64 0, .int .i64 0, .int .i64 0, .int .i64 0, .int .i64 0] parts).map .agg := by kernel_rfl
@[go_sem] theorem Try.eqg213 : Program.eqGuardType Try.prog (Program.depth Try.prog) 213 = false := by kernel_rfl
@[go_sem] theorem Try.arr213 : arrayO Try.prog 213 = some (60, 3) := by kernel_rfl
@[go_sem] theorem Try.und213 : Program.underlying Try.prog 213 = some (.array 60 3) := by kernel_rfl
@[go_sem] theorem Try.agg214 : aggO Try.prog 214 = some true := by kernel_rfl
@[go_sem] theorem Try.pln214 : plainO Try.prog 214 = some true := by kernel_rfl
@[go_sem] theorem Try.sz214 : szO Try.prog 214 = some 5 := by kernel_rfl
@[go_sem] theorem Try.zero214 : zeroL Try.prog 214 = some [.int .i64 0, .int .i64 0, .int .i64 0, .int .i64 0, .int .i64 0] := by kernel_rfl
@[go_sem] theorem Try.small214 : smallO Try.prog 214 = some (5, 40) := by kernel_rfl
@[go_sem] theorem Try.zt214 : zeroT Try.prog 214 = some (.agg [.int .i64 0, .int .i64 0, .int .i64 0, .int .i64 0, .int .i64 0]) := by kernel_rfl
@[go_sem] theorem Try.fld214_0 : fieldO Try.prog 214 0 = some (0, 209) := by kernel_rfl
@[go_sem] theorem Try.fld214_1 : fieldO Try.prog 214 1 = some (2, 209) := by kernel_rfl
@[go_sem] theorem Try.fld214_2 : fieldO Try.prog 214 2 = some (4, 3) := by kernel_rfl
@[go_sem] theorem Try.bld214 (parts : List (Nat × TV)) : buildO Try.prog 214 parts = (fillT (fun i => ([(0, 2), (2, 2), (4, 1)] : List (Nat × Nat))[i]?) [.int .i64 0, .int .i64 0, .int .i64 0, .int .i64 0, .int .i64 0] parts).map .agg := by kernel_rfl
@[go_sem] theorem Try.eqg214 : Program.eqGuardType Try.prog (Program.depth Try.prog) 214 = false := by kernel_rfl
@[go_sem] theorem Try.agg215 : aggO Try.prog 215 = some true := by kernel_rfl
@[go_sem] theorem Try.pln215 : plainO Try.prog 215 = some true := by kernel_rfl
@[go_sem] theorem Try.sz215 : szO Try.prog 215 = some 5 := by kernel_rfl
@[go_sem] theorem Try.zero215 : zeroL Try.prog 215 = some [.int .i64 0, .int .i64 0, .int .i64 0, .int .i64 0, .int .i64 0] := by kernel_rfl
@[go_sem] theorem Try.small215 : smallO Try.prog 215 = some (5, 40) := by kernel_rfl
@[go_sem] theorem Try.zt215 : zeroT Try.prog 215 = some (.agg [.int .i64 0, .int .i64 0, .int .i64 0, .int .i64 0, .int .i64 0]) := by kernel_rfl
@[go_sem] theorem Try.fld215_0 : fieldO Try.prog 215 0 = some (0, 209) := by kernel_rfl
@[go_sem] theorem Try.fld215_1 : fieldO Try.prog 215 1 = some (2, 209) := by kernel_rfl
@[go_sem] theorem Try.fld215_2 : fieldO Try.prog 215 2 = some (4, 3) := by kernel_rfl
@[go_sem] theorem Try.bld215 (parts : List (Nat × TV)) : buildO Try.prog 215 parts = (fillT (fun i => ([(0, 2), (2, 2), (4, 1)] : List (Nat × Nat))[i]?) [.int .i64 0, .int .i64 0, .int .i64 0, .int .i64 0, .int .i64 0] parts).map .agg := by kernel_rfl
@[go_sem] theorem Try.eq215 (a0 b0 : Int) (a1 b1 : Int) (a2 b2 : Int) (a3 b3 : Int) (a4 b4 : Int) : eqT Try.prog 20 215 (.agg [.int .i64 a0, .int .i64 a1, .int .i64 a2, .int .i64 a3, .int .i64 a4]) (.agg [.int .i64 b0, .int .i64 b1, .int .i64 b2, .int .i64 b3, .int .i64 b4]) = some (((a0 == b0) && ((a1 == b1) && true)) && (((a2 == b2) && ((a3 == b3) && true)) && ((a4 == b4) && true))) := by kernel_rfl
@[go_sem] theorem Try.eqg215 : Program.eqGuardType Try.prog (Program.depth Try.prog) 215 = false := by kernel_rfl
@[go_sem] theorem Try.agg216 : aggO Try.prog 216 = some false := by kernel_rfl
@[go_sem] theorem Try.pln216 : plainO Try.prog 216 = some true := by kernel_rfl
@[go_sem] theorem Try.sz216 : szO Try.prog 216 = some 1 := by kernel_rfl
@[go_sem] theorem Try.zero216 : zeroL Try.prog 216 = some [.nilFn] := by kernel_rfl
@[go_sem] theorem Try.small216 : smallO Try.prog 216 = some (1, 8) := by kernel_rfl
@[go_sem] theorem Try.zt216 : zeroT Try.prog 216 = some (.nilFn) := by kernel_rfl
@[go_sem] theorem Try.agg217 : aggO Try.prog 217 = some true := by kernel_rfl
@[go_sem] theorem Try.pln217 : plainO Try.prog 217 = some true := by kernel_rfl
@[go_sem] theorem Try.sz217 : szO Try.prog 217 = some 3 := by kernel_rfl
@[go_sem] theorem Try.zero217 : zeroL Try.prog 217 = some [.int .i64 0, .int .i64 0, .bool false] := by kernel_rfl
@[go_sem] theorem Try.small217 : smallO Try.prog 217 = some (3, 24) := by kernel_rfl
@[go_sem] theorem Try.zt217 : zeroT Try.prog 217 = some (.agg [.int .i64 0, .int .i64 0, .bool false]) := by kernel_rfl
@[go_sem] theorem Try.fld217_0 : fieldO Try.prog 217 0 = some (0, 3) := by kernel_rfl
@[go_sem] theorem Try.fld217_1 : fieldO Try.prog 217 1 = some (1, 3) := by kernel_rfl
@[go_sem] theorem Try.fld217_2 : fieldO Try.prog 217 2 = some (2, 4) := by kernel_rfl
@[go_sem] theorem Try.bld217 (parts : List (Nat × TV)) : buildO Try.prog 217 parts = (fillT (fun i => ([(0, 1), (1, 1), (2, 1)] : List (Nat × Nat))[i]?) [.int .i64 0, .int .i64 0, .bool false] parts).map .agg := by kernel_rfl
@[go_sem] theorem Try.eqg217 : Program.eqGuardType Try.prog (Program.depth Try.prog) 217 = false := by kernel_rfl
@[go_sem] theorem Try.agg218 : aggO Try.prog 218 = some true := by kernel_rfl
@[go_sem] theorem Try.pln218 : plainO Try.prog 218 = some true := by kernel_rfl
@[go_sem] theorem Try.sz218 : szO Try.prog 218 = some 3 := by kernel_rfl
@[go_sem] theorem Try.zero218 : zeroL Try.prog 218 = some [.int .i64 0, .int .i64 0, .bool false] := by kernel_rfl
@[go_sem] theorem Try.small218 : smallO Try.prog 218 = some (3, 24) := by kernel_rfl
@[go_sem] theorem Try.zt218 : zeroT Try.prog 218 = some (.agg [.int .i64 0, .int .i64 0, .bool false]) := by kernel_rfl
@[go_sem] theorem Try.fld218_0 : fieldO Try.prog 218 0 = some (0, 3) := by kernel_rfl
@[go_sem] theorem Try.fld218_1 : fieldO Try.prog 218 1 = some (1, 3) := by kernel_rfl
@[go_sem] theorem Try.fld218_2 : fieldO Try.prog 218 2 = some (2, 4) := by kernel_rfl
@[go_sem] theorem Try.bld218 (parts : List (Nat × TV)) : buildO Try.prog 218 parts = (fillT (fun i => ([(0, 1), (1, 1), (2, 1)] : List (Nat × Nat))[i]?) [.int .i64 0, .int .i64 0, .bool false] parts).map .agg := by kernel_rfl
@[go_sem] theorem Try.eq218 (a0 b0 : Int) (a1 b1 : Int) (a2 b2 : Bool) : eqT Try.prog 20 218 (.agg [.int .i64 a0, .int .i64 a1, .bool a2]) (.agg [.int .i64 b0, .int .i64 b1, .bool b2]) = some ((a0 == b0) && ((a1 == b1) && ((a2 == b2) && true))) := by kernel_rfl
@[go_sem] theorem Try.eqg218 : Program.eqGuardType Try.prog (Program.depth Try.prog) 218 = false := by kernel_rfl
@[go_sem] theorem Try.agg219 : aggO Try.prog 219 = some true := by kernel_rfl
@[go_sem] theorem Try.pln219 : plainO Try.prog 219 = some true := by kernel_rfl
@[go_sem] theorem Try.sz219 : szO Try.prog 219 = some 2 := by kernel_rfl
@[go_sem] theorem Try.zero219 : zeroL Try.prog 219 = some [.int .i64 0, .nilFn] := by kernel_rfl
@[go_sem] theorem Try.small219 : smallO Try.prog 219 = some (2, 16) := by kernel_rfl
@[go_sem] theorem Try.zt219 : zeroT Try.prog 219 = some (.agg [.int .i64 0, .nilFn]) := by kernel_rfl
@[go_sem] theorem Try.fld219_0 : fieldO Try.prog 219 0 = some (0, 3) := by kernel_rfl
@[go_sem] theorem Try.fld219_1 : fieldO Try.prog 219 1 = some (1, 66) := by kernel_rfl
@[go_sem] theorem Try.bld219 (parts : List (Nat × TV)) : buildO Try.prog 219 parts = (fillT (fun i => ([(0, 1), (1, 1)] : List (Nat × Nat))[i]?) [.int .i64 0, .nilFn] parts).map .agg := by kernel_rfl
@[go_sem] theorem Try.bldp219 (parts : List (Nat × PV)) : buildP Try.prog 219 parts = fillP (fun i => ([(0, 1), (1, 1)] : List (Nat × Nat))[i]?) [.t (.int .i64 0), .t (.nilFn)] parts := by kernel_rfl
@[go_sem] theorem Try.eqg219 : Program.eqGuardType Try.prog (Program.depth Try.prog) 219 = false := by kernel_rfl
@[go_sem] theorem Try.agg220 : aggO Try.prog 220 = some true := by kernel_rfl
@[go_sem] theorem Try.pln220 : plainO Try.prog 220 = some true := by kernel_rfl
@[go_sem] theorem Try.sz220 : szO Try.prog 220 = some 2 := by kernel_rfl
@[go_sem] theorem Try.zero220 : zeroL Try.prog 220 = some [.int .i64 0, .nilFn] := by kernel_rfl
@[go_sem] theorem Try.small220 : smallO Try.prog 220 = some (2, 16) := by kernel_rfl
@[go_sem] theorem Try.zt220 : zeroT Try.prog 220 = some (.agg [.int .i64 0, .nilFn]) := by kernel_rfl
@[go_sem] theorem Try.fld220_0 : fieldO Try.prog 220 0 = some (0, 3) := by kernel_rfl
@[go_sem] theorem Try.fld220_1 : fieldO Try.prog 220 1 = some (1, 66) := by kernel_rfl
@[go_sem] theorem Try.bld220 (parts : List (Nat × TV)) : buildO Try.prog 220 parts = (fillT (fun i => ([(0, 1), (1, 1)] : List (Nat × Nat))[i]?) [.int .i64 0, .nilFn] parts).map .agg := by kernel_rfl
@[go_sem] theorem Try.bldp220 (parts : List (Nat × PV)) : buildP Try.prog 220 parts = fillP (fun i => ([(0, 1), (1, 1)] : List (Nat × Nat))[i]?) [.t (.int .i64 0), .t (.nilFn)] parts := by kernel_rfl
@[go_sem] theorem Try.eqg220 : Program.eqGuardType Try.prog (Program.depth Try.prog) 220 = false := by kernel_rfl
@[go_sem] theorem Try.agg221 : aggO Try.prog 221 = some false := by kernel_rfl
@[go_sem] theorem Try.pln221 : plainO Try.prog 221 = some true := by kernel_rfl
@[go_sem] theorem Try.sz221 : szO Try.prog 221 = some 1 := by kernel_rfl
@[go_sem] theorem Try.zero221 : zeroL Try.prog 221 = some [.nilFn] := by kernel_rfl
@[go_sem] theorem Try.small221 : smallO Try.prog 221 = some (1, 8) := by kernel_rfl
@[go_sem] theorem Try.zt221 : zeroT Try.prog 221 = some (.nilFn) := by kernel_rfl
@[go_sem] theorem Try.agg222 : aggO Try.prog 222 = some false := by kernel_rfl
@[go_sem] theorem Try.pln222 : plainO Try.prog 222 = some true := by kernel_rfl
@[go_sem] theorem Try.sz222 : szO Try.prog 222 = some 1 := by kernel_rfl
@[go_sem] theorem Try.zero222 : zeroL Try.prog 222 = some [.nilFn] := by kernel_rfl
@[go_sem] theorem Try.small222 : smallO Try.prog 222 = some (1, 8) := by kernel_rfl
@[go_sem] theorem Try.zt222 : zeroT Try.prog 222 = some (.nilFn) := by kernel_rfl
@[go_sem] theorem Try.agg223 : aggO Try.prog 223 = some false := by kernel_rfl
@[go_sem] theorem Try.pln223 : plainO Try.prog 223 = some true := by kernel_rfl
@[go_sem] theorem Try.sz223 : szO Try.prog 223 = some 1 := by kernel_rfl
@[go_sem] theorem Try.zero223 : zeroL Try.prog 223 = some [.nilFn] := by kernel_rfl
@[go_sem] theorem Try.small223 : smallO Try.prog 223 = some (1, 8) := by kernel_rfl
@[go_sem] theorem Try.zt223 : zeroT Try.prog 223 = some (.nilFn) := by kernel_rfl
@[go_sem] theorem Try.agg224 : aggO Try.prog 224 = some false := by kernel_rfl
@[go_sem] theorem Try.pln224 : plainO Try.prog 224 = some true := by kernel_rfl
@[go_sem] theorem Try.sz224 : szO Try.prog 224 = some 1 := by kernel_rfl
@[go_sem] theorem Try.zero224 : zeroL Try.prog 224 = some [.nilSl] := by kernel_rfl
@[go_sem] theorem Try.small224 : smallO Try.prog 224 = some (1, 24) := by kernel_rfl
@[go_sem] theorem Try.zt224 : zeroT Try.prog 224 = some (.nilSl) := by kernel_rfl
@[go_sem] theorem Try.eqn224 : eqT Try.prog 20 224 .nilSl .nilSl = some true := by kernel_rfl
@[go_sem] theorem Try.eqs224 (cs : List TV) (n : Nat) (f : Bool) : eqT Try.prog 20 224 (.sl cs n f) .nilSl = some false := by kernel_rfl
@[go_sem] theorem Try.eqt224 (cs : List TV) (n : Nat) (f : Bool) : eqT Try.prog 20 224 .nilSl (.sl cs n f) = some false := by kernel_rfl
@[go_sem] theorem Try.sl224 : sliceO Try.prog 224 = some 243 := by kernel_rfl
@[go_sem] theorem Try.und224 : Program.underlying Try.prog 224 = some (.slice 243) := by kernel_rfl
@[go_sem] theorem Try.agg225 : aggO Try.prog 225 = some false := by kernel_rfl
@[go_sem] theorem Try.pln225 : plainO Try.prog 225 = some true := by kernel_rfl
@[go_sem] theorem Try.sz225 : szO Try.prog 225 = some 1 := by kernel_rfl
@[go_sem] theorem Try.zero225 : zeroL Try.prog 225 = some [.nilFn] := by kernel_rfl
@[go_sem] theorem Try.small225 : smallO Try.prog 225 = some (1, 8) := by kernel_rfl
@[go_sem] theorem Try.zt225 : zeroT Try.prog 225 = some (.nilFn) := by kernel_rfl
@[go_sem] theorem Try.agg226 : aggO Try.prog 226 = some true := by kernel_rfl
@[go_sem] theorem Try.pln226 : plainO Try.prog 226 = some true := by kernel_rfl
@[go_sem] theorem Try.sz226 : szO Try.prog 226 = some 2 := by kernel_rfl
@[go_sem] theorem Try.zero226 : zeroL Try.prog 226 = some [.int .i64 0, .int .i64 0] := by kernel_rfl
@[go_sem] theorem Try.small226 : smallO Try.prog 226 = some (2, 16) := by kernel_rfl
@[go_sem] theorem Try.zt226 : zeroT Try.prog 226 = some (.agg [.int .i64 0, .int .i64 0]) := by kernel_rfl
@[go_sem] theorem Try.fld226_0 : fieldO Try.prog 226 0 = some (0, 3) := by kernel_rfl
@[go_sem] theorem Try.fld226_1 : fieldO Try.prog 226 1 = some (1, 3) := by kernel_rfl
@[go_sem] theorem Try.bld226 (parts : List (Nat × TV)) : buildO Try.prog 226 parts = (fillT (fun i => ([(0, 1), (1, 1)] : List (Nat × Nat))[i]?) [.int .i64 0, .int .i64 0] parts).map .agg := by kernel_rfl
@[go_sem] theorem Try.eq226 (a0 b0 : Int) (a1 b1 : Int) : eqT Try.prog 20 226 (.agg [.int .i64 a0, .int .i64 a1]) (.agg [.int .i64 b0, .int .i64 b1]) = some ((a0 == b0) && ((a1 == b1) && true)) := by kernel_rfl
@[go_sem] theorem Try.eqg226 : Program.eqGuardType Try.prog (Program.depth Try.prog) 226 = false := by kernel_rfl
@[go_sem] theorem Try.agg227 : aggO Try.prog 227 = some true := by kernel_rfl
@[go_sem] theorem Try.pln227 : plainO Try.prog 227 = some true := by kernel_rfl
@[go_sem] theorem Try.sz227 : szO Try.prog 227 = some 2 := by kernel_rfl
@[go_sem] theorem Try.zero227 : zeroL Try.prog 227 = some [.int .i64 0, .nilSl] := by kernel_rfl
@[go_sem] theorem Try.small227 : smallO Try.prog 227 = some (2, 32) := by kernel_rfl
@[go_sem] theorem Try.zt227 : zeroT Try.prog 227 = some (.agg [.int .i64 0, .nilSl]) := by kernel_rfl
@[go_sem] theorem Try.fld227_0 : fieldO Try.prog 227 0 = some (0, 3) := by kernel_rfl
@[go_sem] theorem Try.fld227_1 : fieldO Try.prog 227 1 = some (1, 23) := by kernel_rfl
@[go_sem] theorem Try.bld227 (parts : List (Nat × TV)) : buildO Try.prog 227 parts = (fillT (fun i => ([(0, 1), (1, 1)] : List (Nat × Nat))[i]?) [.int .i64 0, .nilSl] parts).map .agg := by kernel_rfl
@[go_sem] theorem Try.bldp227 (parts : List (Nat × PV)) : buildP Try.prog 227 parts = fillP (fun i => ([(0, 1), (1, 1)] : List (Nat × Nat))[i]?) [.t (.int .i64 0), .t (.nilSl)] parts := by kernel_rfl
@[go_sem] theorem Try.eqg227 : Program.eqGuardType Try.prog (Program.depth Try.prog) 227 = false := by kernel_rfl
@[go_sem] theorem Try.agg228 : aggO Try.prog 228 = some true := by kernel_rfl
@[go_sem] theorem Try.pln228 : plainO Try.prog 228 = some true := by kernel_rfl
@[go_sem] theorem Try.sz228 : szO Try.prog 228 = some 2 := by kernel_rfl
@[go_sem] theorem Try.zero228 : zeroL Try.prog 228 = some [.int .i64 0, .nilSl] := by kernel_rfl
@[go_sem] theorem Try.small228 : smallO Try.prog 228 = some (2, 32) := by kernel_rfl
@[go_sem] theorem Try.zt228 : zeroT Try.prog 228 = some (.agg [.int .i64 0, .nilSl]) := by kernel_rfl
@[go_sem] theorem Try.fld228_0 : fieldO Try.prog 228 0 = some (0, 3) := by kernel_rfl
@[go_sem] theorem Try.fld228_1 : fieldO Try.prog 228 1 = some (1, 23) := by kernel_rfl
@[go_sem] theorem Try.bld228 (parts : List (Nat × TV)) : buildO Try.prog 228 parts = (fillT (fun i => ([(0, 1), (1, 1)] : List (Nat × Nat))[i]?) [.int .i64 0, .nilSl] parts).map .agg := by kernel_rfl
@[go_sem] theorem Try.bldp228 (parts : List (Nat × PV)) : buildP Try.prog 228 parts = fillP (fun i => ([(0, 1), (1, 1)] : List (Nat × Nat))[i]?) [.t (.int .i64 0), .t (.nilSl)] parts := by kernel_rfl
@[go_sem] theorem Try.eqg228 : Program.eqGuardType Try.prog (Program.depth Try.prog) 228 = false := by kernel_rfl
@[go_sem] theorem Try.agg229 : aggO Try.prog 229 = some false := by kernel_rfl
@[go_sem] theorem Try.pln229 : plainO Try.prog 229 = some true := by kernel_rfl
@[go_sem] theorem Try.sz229 : szO Try.prog 229 = some 1 := by kernel_rfl
@[go_sem] theorem Try.zero229 : zeroL Try.prog 229 = some [.nilFn] := by kernel_rfl
@[go_sem] theorem Try.small229 : smallO Try.prog 229 = some (1, 8) := by kernel_rfl
@[go_sem] theorem Try.zt229 : zeroT Try.prog 229 = some (.nilFn) := by kernel_rfl
@[go_sem] theorem Try.agg230 : aggO Try.prog 230 = some false := by kernel_rfl
@[go_sem] theorem Try.pln230 : plainO Try.prog 230 = some true := by kernel_rfl
@[go_sem] theorem Try.sz230 : szO Try.prog 230 = some 1 := by kernel_rfl
@[go_sem] theorem Try.zero230 : zeroL Try.prog 230 = some [.nilFn] := by kernel_rfl
@[go_sem] theorem Try.small230 : smallO Try.prog 230 = some (1, 8) := by kernel_rfl
@[go_sem] theorem Try.zt230 : zeroT Try.prog 230 = some (.nilFn) := by kernel_rfl
@[go_sem] theorem Try.agg231 : aggO Try.prog 231 = some true := by kernel_rfl
@[go_sem] theorem Try.pln231 : plainO Try.prog 231 = some true := by kernel_rfl
@[go_sem] theorem Try.sz231 : szO Try.prog 231 = some 2 := by kernel_rfl
@[go_sem] theorem Try.zero231 : zeroL Try.prog 231 = some [.int .i64 0, .int .i64 0] := by kernel_rfl
@[go_sem] theorem Try.small231 : smallO Try.prog 231 = some (2, 16) := by kernel_rfl
@[go_sem] theorem Try.zt231 : zeroT Try.prog 231 = some (.agg [.int .i64 0, .int .i64 0]) := by kernel_rfl
@[go_sem] theorem Try.bld231 (parts : List (Nat × TV)) : buildO Try.prog 231 parts = (fillT (fun i => some (i * 1, 1)) [.int .i64 0, .int .i64 0] parts).map .agg := by kernel_rfl
@[go_sem] theorem Try.eq231 (a0 b0 : Int) (a1 b1 : Int) : eqT Try.prog 20 231 (.agg [.int .i64 a0, .int .i64 a1]) (.agg [.int .i64 b0, .int .i64 b1]) = some ((a0 == b0) && ((a1 == b1) && true)) := by kernel_rfl
@[go_sem] theorem Try.eqg231 : Program.eqGuardType Try.prog (Program.depth Try.prog) 231 = false := by kernel_rfl
@[go_sem] theorem Try.arr231 : arrayO Try.prog 231 = some (2, 3) := by kernel_rfl
@[go_sem] theorem Try.und231 : Program.underlying Try.prog 231 = some (.array 2 3) := by kernel_rfl
@[go_sem] theorem Try.agg232 : aggO Try.prog 232 = some false := by kernel_rfl
@[go_sem] theorem Try.pln232 : plainO Try.prog 232 = some true := by kernel_rfl
@[go_sem] theorem Try.sz232 : szO Try.prog 232 = some 1 := by kernel_rfl
@[go_sem] theorem Try.zero232 : zeroL Try.prog 232 = some [.nilFn] := by kernel_rfl
@[go_sem] theorem Try.small232 : smallO Try.prog 232 = some (1, 8) := by kernel_rfl
@[go_sem] theorem Try.zt232 : zeroT Try.prog 232 = some (.nilFn) := by kernel_rfl
@[go_sem] theorem Try.agg233 : aggO Try.prog 233 = some false := by kernel_rfl
@[go_sem] theorem Try.pln233 : plainO Try.prog 233 = some true := by kernel_rfl
@[go_sem] theorem Try.sz233 : szO Try.prog 233 = some 1 := by kernel_rfl
@[go_sem] theorem Try.zero233 : zeroL Try.prog 233 = some [.nilFn] := by kernel_rfl
@[go_sem] theorem Try.small233 : smallO Try.prog 233 = some (1, 8) := by kernel_rfl
@[go_sem] theorem Try.zt233 : zeroT Try.prog 233 = some (.nilFn) := by kernel_rfl
@[go_sem] theorem Try.agg234 : aggO Try.prog 234 = some false := by kernel_rfl
@[go_sem] theorem Try.pln234 : plainO Try.prog 234 = some true := by kernel_rfl
@[go_sem] theorem Try.sz234 : szO Try.prog 234 = some 1 := by kernel_rfl
@[go_sem] theorem Try.zero234 : zeroL Try.prog 234 = some [.nilFn] := by kernel_rfl
@[go_sem] theorem Try.small234 : smallO Try.prog 234 = some (1, 8) := by kernel_rfl
@[go_sem] theorem Try.zt234 : zeroT Try.prog 234 = some (.nilFn) := by kernel_rfl
@[go_sem] theorem Try.agg235 : aggO Try.prog 235 = some false := by kernel_rfl
@[go_sem] theorem Try.pln235 : plainO Try.prog 235 = some true := by kernel_rfl
@[go_sem] theorem Try.sz235 : szO Try.prog 235 = some 1 := by kernel_rfl
@[go_sem] theorem Try.zero235 : zeroL Try.prog 235 = some [.nilFn] := by kernel_rfl
@[go_sem] theorem Try.small235 : smallO Try.prog 235 = some (1, 8) := by kernel_rfl
@[go_sem] theorem Try.zt235 : zeroT Try.prog 235 = some (.nilFn) := by kernel_rfl
@[go_sem] theorem Try.agg236 : aggO Try.prog 236 = some false := by kernel_rfl
@[go_sem] theorem Try.pln236 : plainO Try.prog 236 = some true := by kernel_rfl
@[go_sem] theorem Try.sz236 : szO Try.prog 236 = some 1 := by kernel_rfl
@[go_sem] theorem Try.zero236 : zeroL Try.prog 236 = some [.nilFn] := by kernel_rfl
@[go_sem] theorem Try.small236 : smallO Try.prog 236 = some (1, 8) := by kernel_rfl
@[go_sem] theorem Try.zt236 : zeroT Try.prog 236 = some (.nilFn) := by kernel_rfl
@[go_sem] theorem Try.agg237 : aggO Try.prog 237 = some false := by kernel_rfl
@[go_sem] theorem Try.pln237 : plainO Try.prog 237 = some true := by kernel_rfl
@[go_sem] theorem Try.sz237 : szO Try.prog 237 = some 1 := by kernel_rfl
@[go_sem] theorem Try.zero237 : zeroL Try.prog 237 = some [.nilFn] := by kernel_rfl
@[go_sem] theorem Try.small237 : smallO Try.prog 237 = some (1, 8) := by kernel_rfl
@[go_sem] theorem Try.zt237 : zeroT Try.prog 237 = some (.nilFn) := by kernel_rfl
@[go_sem] theorem Try.agg238 : aggO Try.prog 238 = some false := by kernel_rfl
@[go_sem] theorem Try.pln238 : plainO Try.prog 238 = some true := by kernel_rfl
@[go_sem] theorem Try.sz238 : szO Try.prog 238 = some 1 := by kernel_rfl
@[go_sem] theorem Try.zero238 : zeroL Try.prog 238 = some [.nilFn] := by kernel_rfl
@[go_sem] theorem Try.small238 : smallO Try.prog 238 = some (1, 8) := by kernel_rfl
@[go_sem] theorem Try.zt238 : zeroT Try.prog 238 = some (.nilFn) := by kernel_rfl
@[go_sem] theorem Try.agg239 : aggO Try.prog 239 = some false := by kernel_rfl
@[go_sem] theorem Try.pln239 : plainO Try.prog 239 = some true := by kernel_rfl
@[go_sem] theorem Try.sz239 : szO Try.prog 239 = some 1 := by kernel_rfl
@[go_sem] theorem Try.zero239 : zeroL Try.prog 239 = some [.nilFn] := by kernel_rfl
@[go_sem] theorem Try.small239 : smallO Try.prog 239 = some (1, 8) := by kernel_rfl
@[go_sem] theorem Try.zt239 : zeroT Try.prog 239 = some (.nilFn) := by kernel_rfl
@[go_sem] theorem Try.agg240 : aggO Try.prog 240 = some false := by kernel_rfl
@[go_sem] theorem Try.pln240 : plainO Try.prog 240 = some true := by kernel_rfl
@[go_sem] theorem Try.sz240 : szO Try.prog 240 = some 1 := by kernel_rfl
@[go_sem] theorem Try.zero240 : zeroL Try.prog 240 = some [.nilFn] := by kernel_rfl
@[go_sem] theorem Try.small240 : smallO Try.prog 240 = some (1, 8) := by kernel_rfl
@[go_sem] theorem Try.zt240 : zeroT Try.prog 240 = some (.nilFn) := by kernel_rfl
@[go_sem] theorem Try.agg241 : aggO Try.prog 241 = some false := by kernel_rfl
@[go_sem] theorem Try.pln241 : plainO Try.prog 241 = some true := by kernel_rfl
@[go_sem] theorem Try.sz241 : szO Try.prog 241 = some 1 := by kernel_rfl
@[go_sem] theorem Try.zero241 : zeroL Try.prog 241 = some [.nilFn] := by kernel_rfl
@[go_sem] theorem Try.small241 : smallO Try.prog 241 = some (1, 8) := by kernel_rfl
@[go_sem] theorem Try.zt241 : zeroT Try.prog 241 = some (.nilFn) := by kernel_rfl
@[go_sem] theorem Try.agg242 : aggO Try.prog 242 = some false := by kernel_rfl
@[go_sem] theorem Try.pln242 : plainO Try.prog 242 = some false := by kernel_rfl
@[go_sem] theorem Try.sz242 : szO Try.prog 242 = some 1 := by kernel_rfl
@[go_sem] theorem Try.zero242 : zeroL Try.prog 242 = some [.nilIf] := by kernel_rfl
@[go_sem] theorem Try.small242 : smallO Try.prog 242 = some (1, 16) := by kernel_rfl
@[go_sem] theorem Try.zt242 : zeroT Try.prog 242 = some (.nilIf) := by kernel_rfl
@[go_sem] theorem Try.agg243 : aggO Try.prog 243 = some false := by kernel_rfl
@[go_sem] theorem Try.pln243 : plainO Try.prog 243 = some false := by kernel_rfl
@[go_sem] theorem Try.sz243 : szO Try.prog 243 = some 1 := by kernel_rfl
@[go_sem] theorem Try.zero243 : zeroL Try.prog 243 = some [.nilIf] := by kernel_rfl
@[go_sem] theorem Try.small243 : smallO Try.prog 243 = some (1, 16) := by kernel_rfl
@[go_sem] theorem Try.zt243 : zeroT Try.prog 243 = some (.nilIf) := by kernel_rfl
@[go_sem] theorem Try.agg244 : aggO Try.prog 244 = some false := by kernel_rfl
@[go_sem] theorem Try.pln244 : plainO Try.prog 244 = some true := by kernel_rfl
@[go_sem] theorem Try.sz244 : szO Try.prog 244 = some 1 := by kernel_rfl
@[go_sem] theorem Try.zero244 : zeroL Try.prog 244 = some [.nilFn] := by kernel_rfl
@[go_sem] theorem Try.small244 : smallO Try.prog 244 = some (1, 8) := by kernel_rfl
@[go_sem] theorem Try.zt244 : zeroT Try.prog 244 = some (.nilFn) := by kernel_rfl
@[go_sem] theorem Try.agg245 : aggO Try.prog 245 = some false := by kernel_rfl
@[go_sem] theorem Try.pln245 : plainO Try.prog 245 = some true := by kernel_rfl
@[go_sem] theorem Try.sz245 : szO Try.prog 245 = some 1 := by kernel_rfl
@[go_sem] theorem Try.zero245 : zeroL Try.prog 245 = some [.nilFn] := by kernel_rfl
@[go_sem] theorem Try.small245 : smallO Try.prog 245 = some (1, 8) := by kernel_rfl
@[go_sem] theorem Try.zt245 : zeroT Try.prog 245 = some (.nilFn) := by kernel_rfl
@[go_sem] theorem Try.agg246 : aggO Try.prog 246 = some true := by kernel_rfl
@[go_sem] theorem Try.pln246 : plainO Try.prog 246 = some true := by kernel_rfl
@[go_sem] theorem Try.sz246 : szO Try.prog 246 = some 4 := by kernel_rfl
@[go_sem] theorem Try.zero246 : zeroL Try.prog 246 = some [.nilPtr, .nilPtr, .nilPtr, .str ⟨#[]⟩] := by kernel_rfl
@[go_sem] theorem Try.small246 : smallO Try.prog 246 = some (4, 40) := by kernel_rfl
@[go_sem] theorem Try.zt246 : zeroT Try.prog 246 = some (.agg [.nilPtr, .nilPtr, .nilPtr, .str ⟨#[]⟩]) := by kernel_rfl
@[go_sem] theorem Try.fld246_0 : fieldO Try.prog 246 0 = some (0, 17) := by kernel_rfl
@[go_sem] theorem Try.fld246_1 : fieldO Try.prog 246 1 = some (1, 17) := by kernel_rfl
@[go_sem] theorem Try.fld246_2 : fieldO Try.prog 246 2 = some (2, 17) := by kernel_rfl
@[go_sem] theorem Try.fld246_3 : fieldO Try.prog 246 3 = some (3, 9) := by kernel_rfl
@[go_sem] theorem Try.bld246 (parts : List (Nat × TV)) : buildO Try.prog 246 parts = (fillT (fun i => ([(0, 1), (1, 1), (2, 1), (3, 1)] : List (Nat × Nat))[i]?) [.nilPtr, .nilPtr, .nilPtr, .str ⟨#[]⟩] parts).map .agg := by kernel_rfl
@[go_sem] theorem Try.bldp246 (parts : List (Nat × PV)) : buildP Try.prog 246 parts = fillP (fun i => ([(0, 1), (1, 1), (2, 1), (3, 1)] : List (Nat × Nat))[i]?) [.t (.nilPtr), .t (.nilPtr), .t (.nilPtr), .t (.str ⟨#[]⟩)] parts := by kernel_rfl
@[go_sem] theorem Try.eqg246 : Program.eqGuardType Try.prog (Program.depth Try.prog) 246 = false := by kernel_rfl
@[go_sem] theorem Try.agg248 : aggO Try.prog 248 = some true := by kernel_rfl
@[go_sem] theorem Try.pln248 : plainO Try.prog 248 = some true := by kernel_rfl
@[go_sem] theorem Try.sz248 : szO Try.prog 248 = some 0 := by kernel_rfl
@[go_sem] theorem Try.zero248 : zeroL Try.prog 248 = some [] := by kernel_rfl
@[go_sem] theorem Try.zt248 : zeroT Try.prog 248 = some (.agg []) := by kernel_rfl
@[go_sem] theorem Try.arr248 : arrayO Try.prog 248 = some (0, 16) := by kernel_rfl
@[go_sem] theorem Try.und248 : Program.underlying Try.prog 248 = some (.array 0 16) := by kernel_rfl
@[go_sem] theorem Try.agg249 : aggO Try.prog 249 = some true := by kernel_rfl
@[go_sem] theorem Try.pln249 : plainO Try.prog 249 = some true := by kernel_rfl
@[go_sem] theorem Try.sz249 : szO Try.prog 249 = some 0 := by kernel_rfl
@[go_sem] theorem Try.zero249 : zeroL Try.prog 249 = some [] := by kernel_rfl
@[go_sem] theorem Try.zt249 : zeroT Try.prog 249 = some (.agg []) := by kernel_rfl
@[go_sem] theorem Try.fld249_0 : fieldO Try.prog 249 0 = some (0, 248) := by kernel_rfl
@[go_sem] theorem Try.agg251 : aggO Try.prog 251 = some false := by kernel_rfl
@[go_sem] theorem Try.pln251 : plainO Try.prog 251 = some true := by kernel_rfl
@[go_sem] theorem Try.sz251 : szO Try.prog 251 = some 1 := by kernel_rfl
@[go_sem] theorem Try.zero251 : zeroL Try.prog 251 = some [.int .u32 0] := by kernel_rfl
@[go_sem] theorem Try.small251 : smallO Try.prog 251 = some (1, 4) := by kernel_rfl
@[go_sem] theorem Try.zt251 : zeroT Try.prog 251 = some (.int .u32 0) := by kernel_rfl
@[go_sem] theorem Try.knd251 : kindO Try.prog 251 = some .u32 := by kernel_rfl
@[go_sem] theorem Try.und251 : Program.underlying Try.prog 251 = some (.int .u32) := by kernel_rfl
@[go_sem] theorem Try.agg254 : aggO Try.prog 254 = some false := by kernel_rfl
@[go_sem] theorem Try.pln254 : plainO Try.prog 254 = some true := by kernel_rfl
@[go_sem] theorem Try.sz254 : szO Try.prog 254 = some 1 := by kernel_rfl
@[go_sem] theorem Try.zero254 : zeroL Try.prog 254 = some [.nilFn] := by kernel_rfl
@[go_sem] theorem Try.small254 : smallO Try.prog 254 = some (1, 8) := by kernel_rfl
@[go_sem] theorem Try.zt254 : zeroT Try.prog 254 = some (.nilFn) := by kernel_rfl
@[go_sem] theorem Try.agg255 : aggO Try.prog 255 = some false := by kernel_rfl
@[go_sem] theorem Try.pln255 : plainO Try.prog 255 = some true := by kernel_rfl
@[go_sem] theorem Try.sz255 : szO Try.prog 255 = some 1 := by kernel_rfl
@[go_sem] theorem Try.zero255 : zeroL Try.prog 255 = some [.nilPtr] := by kernel_rfl
@[go_sem] theorem Try.small255 : smallO Try.prog 255 = some (1, 8) := by kernel_rfl
@[go_sem] theorem Try.zt255 : zeroT Try.prog 255 = some (.nilPtr) := by kernel_rfl
@[go_sem] theorem Try.agg258 : aggO Try.prog 258 = some true := by kernel_rfl
@[go_sem] theorem Try.pln258 : plainO Try.prog 258 = some true := by kernel_rfl
@[go_sem] theorem Try.sz258 : szO Try.prog 258 = some 11 := by kernel_rfl
@[go_sem] theorem Try.zero258 : zeroL Try.prog 258 = some [.int .u64 0, .int .u64 0, .int .u32 0, .int .u8 0, .int .u8 0, .int .u8 0, .int .u8 0, .nilFn, .nilPtr, .int .i32 0, .int .i32 0] := by kernel_rfl
@[go_sem] theorem Try.small258 : smallO Try.prog 258 = some (11, 48) := by kernel_rfl
@[go_sem] theorem Try.zt258 : zeroT Try.prog 258 = some (.agg [.int .u64 0, .int .u64 0, .int .u32 0, .int .u8 0, .int .u8 0, .int .u8 0, .int .u8 0, .nilFn, .nilPtr, .int .i32 0, .int .i32 0]) := by kernel_rfl
@[go_sem] theorem Try.fld258_0 : fieldO Try.prog 258 0 = some (0, 12) := by kernel_rfl
@[go_sem] theorem Try.fld258_1 : fieldO Try.prog 258 1 = some (1, 12) := by kernel_rfl
@[go_sem] theorem Try.fld258_2 : fieldO Try.prog 258 2 = some (2, 251) := by kernel_rfl
@[go_sem] theorem Try.fld258_3 : fieldO Try.prog 258 3 = some (3, 252) := by kernel_rfl
@[go_sem] theorem Try.fld258_4 : fieldO Try.prog 258 4 = some (4, 5) := by kernel_rfl
@[go_sem] theorem Try.fld258_5 : fieldO Try.prog 258 5 = some (5, 5) := by kernel_rfl
@[go_sem] theorem Try.fld258_6 : fieldO Try.prog 258 6 = some (6, 253) := by kernel_rfl
@[go_sem] theorem Try.fld258_7 : fieldO Try.prog 258 7 = some (7, 254) := by kernel_rfl
@[go_sem] theorem Try.fld258_8 : fieldO Try.prog 258 8 = some (8, 255) := by kernel_rfl
@[go_sem] theorem Try.fld258_9 : fieldO Try.prog 258 9 = some (9, 256) := by kernel_rfl
@[go_sem] theorem Try.fld258_10 : fieldO Try.prog 258 10 = some (10, 257) := by kernel_rfl
@[go_sem] theorem Try.bld258 (parts : List (Nat × TV)) : buildO Try.prog 258 parts = (fillT (fun i => ([(0, 1), (1, 1), (2, 1), (3, 1), (4, 1), (5, 1), (6, 1), (7, 1), (8, 1), (9, 1), (10, 1)] : List (Nat × Nat))[i]?) [.int .u64 0, .int .u64 0, .int .u32 0, .int .u8 0, .int .u8 0, .int .u8 0, .int .u8 0, .nilFn, .nilPtr, .int .i32 0, .int .i32 0] parts).map .agg := by kernel_rfl
@[go_sem] theorem Try.bldp258 (parts : List (Nat × PV)) : buildP Try.prog 258 parts = fillP (fun i => ([(0, 1), (1, 1), (2, 1), (3, 1), (4, 1), (5, 1), (6, 1), (7, 1), (8, 1), (9, 1), (10, 1)] : List (Nat × Nat))[i]?) [.t (.int .u64 0), .t (.int .u64 0), .t (.int .u32 0), .t (.int .u8 0), .t (.int .u8 0), .t (.int .u8 0), .t (.int .u8 0), .t (.nilFn), .t (.nilPtr), .t (.int .i32 0), .t (.int .i32 0)] parts := by kernel_rfl
@[go_sem] theorem Try.eqg258 : Program.eqGuardType Try.prog (Program.depth Try.prog) 258 = false := by kernel_rfl
@[go_sem] theorem Try.agg261 : aggO Try.prog 261 = some false := by kernel_rfl
@[go_sem] theorem Try.pln261 : plainO Try.prog 261 = some true := by kernel_rfl
@[go_sem] theorem Try.sz261 : szO Try.prog 261 = some 1 := by kernel_rfl
@[go_sem] theorem Try.zero261 : zeroL Try.prog 261 = some [.nilFn] := by kernel_rfl
@[go_sem] theorem Try.small261 : smallO Try.prog 261 = some (1, 8) := by kernel_rfl
@[go_sem] theorem Try.zt261 : zeroT Try.prog 261 = some (.nilFn) := by kernel_rfl
theorem Try.mixes : Try.prog.follows .mixedOrders = true := by kernel_rfl
end Go.Proofs.Ytadkjjnnnkfalaa

/- Part Pb. -/
namespace Go.Oc
open Go Go.Pm

/-- A number that an int can hold. -/
def In64 (n : Int) : Prop := -9223372036854775808 ≤ n ∧ n ≤ 9223372036854775807
theorem wrap_id {n : Int} (h : In64 n) : IntKind.i64.wrap n = n := wrap_in h.1 h.2

def inB (n lo hi : Int) : Bool := decide (lo ≤ n) && decide (n ≤ hi)
theorem inB_iff {n lo hi : Int} : inB n lo hi = true ↔ lo ≤ n ∧ n ≤ hi := by simp [inB]

structure Span where
  lo : Int
  hi : Int
  deriving DecidableEq
def Span.cs (s : Span) : List TV := [.int .i64 s.lo, .int .i64 s.hi]
def Span.t (s : Span) : TV := .agg s.cs
def spannedB (s : Span) (lo hi : Int) : Bool := decide (lo ≤ s.lo) && decide (s.lo ≤ s.hi) && decide (s.hi ≤ hi)
def widerS (s : Span) (n : Int) (first : Bool) : Span := if first then ⟨n, n⟩ else ⟨min s.lo n, max s.hi n⟩
def chosen (lo hi n : Int) : Int := if lo ≥ hi then lo else if 9223372036854775807 < hi - lo + 1 then min (max n lo) hi else lo + n % (hi - lo + 1)
theorem chosen_mem {lo hi : Int} (n : Int) (h : lo ≤ hi) : lo ≤ chosen lo hi n ∧ chosen lo hi n ≤ hi := by
  unfold chosen
  split
  · omega
  · split
    · omega
    · have h1 := Int.emod_nonneg n (show hi - lo + 1 ≠ 0 by omega)
      have h2 := Int.emod_lt_of_pos n (show 0 < hi - lo + 1 by omega)
      omega
theorem chosen_low {lo hi : Int} (n : Int) (h : ¬ lo ≤ hi) : chosen lo hi n = lo := by
  unfold chosen; rw [if_pos (by omega)]

/-- A list of ints, as cells. -/
def ints (l : List Int) : List TV := l.map (TV.int .i64)
theorem ints_at {l : List Int} {k : Nat} {x : Int} (h : l[k]? = some x) : (ints l).drop (k * 1) = .int .i64 x :: ints (l.drop (k + 1)) := by
  unfold ints
  rw [Nat.mul_one, ← List.map_drop]
  have hk := (List.getElem?_eq_some_iff.1 h).1
  rw [List.drop_eq_getElem_cons hk, List.map_cons]
  congr 2
  exact (List.getElem?_eq_some_iff.1 h).2
theorem ints_inj : ∀ {a b : List Int}, ints a = ints b → a = b
  | [], [], _ => rfl
  | x :: a, y :: b, h => by
    simp only [ints, List.map_cons, List.cons.injEq, TV.int.injEq, true_and] at h
    rw [h.1, ints_inj (a := a) (b := b) h.2]
  | [], _ :: _, h => by simp [ints] at h
  | _ :: _, [], h => by simp [ints] at h
theorem ints_len (l : List Int) : (ints l).length = l.length := by simp [ints]
noncomputable def unints (cs : List TV) : Option (List Int) := open Classical in if h : ∃ l, cs = ints l then some h.choose else none
theorem unints_eq (l : List Int) : unints (ints l) = some l := by
  have h : ∃ l', ints l = ints l' := ⟨l, rfl⟩
  unfold unints
  rw [dif_pos h]
  congr 1
  exact (ints_inj h.choose_spec).symm

/-- Lists of structs. -/
theorem flat_at {α : Type} (c : α → List TV) {n : Nat} (hc : ∀ x, (c x).length = n) : ∀ {l : List α} {k : Nat} {x : α}, l[k]? = some x → (l.flatMap c).drop (k * n) = c x ++ (l.drop (k + 1)).flatMap c
  | [], k, x, h => by simp at h
  | y :: l, 0, x, h => by simp at h; subst h; simp
  | y :: l, k + 1, x, h => by
    simp at h
    have := flat_at c hc h
    simp only [List.flatMap_cons, List.drop_succ_cons, Nat.add_mul, Nat.one_mul]
    rw [Nat.add_comm, List.drop_append, hc y]
    simp [List.drop_eq_nil_of_le, hc y, this]
theorem flat_len {α : Type} (c : α → List TV) {n : Nat} (hc : ∀ x, (c x).length = n) (l : List α) : (l.flatMap c).length = l.length * n := by
  induction l with
  | nil => simp
  | cons x l ih => simp only [List.flatMap_cons, List.length_append, hc, ih, List.length_cons, Nat.add_mul]; omega
theorem flat_inj {α : Type} {c : α → List TV} {n : Nat} (hc : ∀ x, (c x).length = n) (hn : 0 < n) (hi : ∀ x y, c x = c y → x = y) : ∀ {a b : List α}, a.flatMap c = b.flatMap c → a = b
  | [], [], _ => rfl
  | x :: a, y :: b, h => by
    simp only [List.flatMap_cons] at h
    have h1 := List.append_inj h (by rw [hc, hc])
    rw [hi x y h1.1, flat_inj hc hn hi h1.2]
  | [], y :: b, h => by have := congrArg List.length h; simp [hc] at this; omega
  | x :: a, [], h => by have := congrArg List.length h; simp [hc] at this; omega
noncomputable def unflat {α : Type} (c : α → List TV) (cs : List TV) : Option (List α) := open Classical in if h : ∃ l, cs = l.flatMap c then some h.choose else none
theorem unflat_eq {α : Type} {c : α → List TV} {n : Nat} (hc : ∀ x, (c x).length = n) (hn : 0 < n) (hi : ∀ x y, c x = c y → x = y) (l : List α) : unflat c (l.flatMap c) = some l := by
  have h : ∃ l' : List α, l.flatMap c = l'.flatMap c := ⟨l, rfl⟩
  unfold unflat
  rw [dif_pos h]
  congr 1
  exact (flat_inj hc hn hi h.choose_spec).symm
theorem unflat_some {α : Type} {c : α → List TV} {cs : List TV} {l : List α} (h : unflat c cs = some l) : cs = l.flatMap c := by
  unfold unflat at h
  split at h
  · rename_i hc; cases h; exact hc.choose_spec
  · cases h
theorem unints_some {cs : List TV} {l : List Int} (h : unints cs = some l) : cs = ints l := by
  unfold unints at h
  split at h
  · rename_i hc; cases h; exact hc.choose_spec
  · cases h

/-- A row of structs. -/
def IsRow {α : Type} (c : α → List TV) (s : TV) (l : List α) : Prop := (s = .nilSl ∧ l = []) ∨ ∃ full, s = .sl (l.flatMap c) l.length full
noncomputable def rowL {α : Type} (un : List TV → Option (List α)) : TV → Option (List α)
  | .nilSl => un []
  | .sl cs n _ => match un cs with
    | some l => if n = l.length then some l else none
    | none => none
  | _ => none
attribute [go_sem] rowL
theorem rowL_some {α : Type} {c : α → List TV} {un : List TV → Option (List α)} (h0 : un [] = some []) (hu : ∀ {cs l}, un cs = some l → cs = l.flatMap c) {s : TV} {l : List α} (h : rowL un s = some l) : IsRow c s l := by
  unfold rowL at h
  split at h
  · rw [h0] at h; cases h; exact .inl ⟨rfl, rfl⟩
  · split at h
    · rename_i l' hl
      split at h
      · rename_i hn
        cases h
        have := hu hl
        subst this; subst hn
        exact .inr ⟨_, rfl⟩
      · cases h
    · cases h
  · cases h
theorem IsRow.ne {α : Type} {c : α → List TV} {s : TV} {l : List α} (h : IsRow c s l) (hl : 1 ≤ l.length) : ∃ full, s = .sl (l.flatMap c) l.length full := by
  rcases h with ⟨_, rfl⟩ | h
  · simp at hl
  · exact h

theorem get_lt {α : Type} {l : List α} {k : Nat} (h : (k : Int) < (l.length : Int)) : ∃ x, l[k]? = some x := ⟨l[k]'(by omega), List.getElem?_eq_getElem (by omega)⟩
theorem take_all {α : Type} (p : α → Bool) {l : List α} {k : Nat} {x : α} (h : l[k]? = some x) : (l.take (k + 1)).all p = ((l.take k).all p && p x) := by
  rw [List.take_add_one, h]; simp
theorem take_snoc {α : Type} {l : List α} {k : Nat} {x : α} (h : l[k]? = some x) : l.take (k + 1) = l.take k ++ [x] := by
  rw [List.take_add_one, h]; rfl
theorem all_of_take {α : Type} {p : α → Bool} {l : List α} {k : Nat} (h : (l.take k).all p = false) : l.all p = false := by
  rw [← List.take_append_drop k l, List.all_append, h]; rfl

/-- May the first list stand before the second one? -/
def before : List Int → List Int → Bool
  | [], [] => false
  | [], _ :: _ => true
  | _ :: _, [] => false
  | x :: a, y :: b => if x < y then true else if y < x then false else before a b
def risingB : Int → List Int → Int → Bool
  | _, [], _ => true
  | lo, x :: l, hi => decide (lo ≤ x) && decide (x < hi) && risingB (x + 1) l hi
/-- The numbers of a set, below another one. -/
def members (set below : Nat) : List Int := ((List.range below).filter set.testBit).map Int.ofNat
end Go.Oc

/- Part Bt. -/
namespace Go.Oc.Gl
end Go.Oc.Gl
namespace Go.Proofs.Ytadkjjnnnkfalaa.Gl
end Go.Proofs.Ytadkjjnnnkfalaa.Gl
namespace Go.Proofs.Ytadkjjnnnkfalaa.Gl
open Go.RowKit Go.Pm Go.Oc Go.Oc.Gl
set_option maxRecDepth 100000
set_option maxHeartbeats 1000000

theorem In_c (n lo hi : Int) : PCalls Try.prog 31 [.int .i64 n, .int .i64 lo, .int .i64 hi] (.bool (inB n lo hi)) := by
  refine pcalls_by Try.mixes noSpec_ok (fn := Try.f31) Try.func31 rfl (by kernel_rfl) (by show 3 ≤ _; decide) ?_
  simp (decide := true) (maxSteps := 4000000) only [go_sem, Nat.reduceAdd, Nat.reduceSub, Nat.reduceMul, Nat.reduceDiv, Nat.reduceMod, Nat.reduceLT, Nat.reduceLeDiff, Nat.reduceEqDiff, Nat.reduceBEq, Nat.reduceBNe, Nat.reduceGT, Int.reduceAdd, Int.reduceSub, Int.reduceMul, Int.reduceNeg, Int.reduceLT, Int.reduceLE, Int.reduceEq, Int.reduceNe, Int.reduceBEq, Int.reduceBNe, Int.reduceToNat, Int.reduceGT, Int.reduceGE, ↓reduceIte, decide_true, decide_false, Try.f31, inB, ge_iff_le]
def gIn : List TV → Option TV
  | [.int .i64 n, .int .i64 a, .int .i64 b] => some (.bool (inB n a b))
  | _ => none
theorem gIn_ok : ∀ xs r, gIn xs = some r → PCalls Try.prog 31 xs r := by
  intro xs r h
  unfold gIn at h
  split at h
  · cases h; exact In_c _ _ _
  · cases h
def spIn : Pm.Spec := noSpec.one 31 gIn
attribute [go_sem] gIn
@[go_sem] theorem spIn_p (f : FuncId) (xs : List TV) : spIn.p f xs = Pm.Spec.p (noSpec.one 31 gIn) f xs := rfl
@[go_sem] theorem spIn_h (f : FuncId) (ps : List PV) (hl : List PO) : spIn.h f ps hl = Pm.Spec.h (noSpec.one 31 gIn) f ps hl := rfl
@[go_sem] theorem spIn_y (Y : Pm.YS) (f : FuncId) (ps : List PV) (hl : List PO) : spIn.y Y f ps hl = Pm.Spec.y (noSpec.one 31 gIn) Y f ps hl := rfl
@[go_sem] theorem spIn_fz (f : FuncId) : spIn.fz f = Pm.Spec.fz (noSpec.one 31 gIn) f := rfl
@[go_sem] theorem spIn_fr (f : FuncId) : spIn.fr f = Pm.Spec.fr (noSpec.one 31 gIn) f := rfl
@[go_sem] theorem spIn_yf (f : FuncId) : spIn.yf f = Pm.Spec.yf (noSpec.one 31 gIn) f := rfl
@[go_sem] theorem spIn_mu (t : TypeId) : spIn.mu t = Pm.Spec.mu (noSpec.one 31 gIn) t := rfl
@[go_sem] theorem spIn_nf (t : TypeId) : spIn.nf t = Pm.Spec.nf (noSpec.one 31 gIn) t := rfl
theorem spIn_ok : SpecOk Try.prog spIn := Spec.one_ok gIn_ok noSpec_ok

theorem Holds_c (s : Span) (n : Int) : PCalls Try.prog 36 [s.t, .int .i64 n] (.bool (inB n s.lo s.hi)) := by
  refine pcalls_by Try.mixes spIn_ok (fn := Try.f36) Try.func36 rfl (by kernel_rfl) (by show 2 ≤ _; decide) ?_
  simp (decide := true) (maxSteps := 4000000) only [go_sem, Nat.reduceAdd, Nat.reduceSub, Nat.reduceMul, Nat.reduceDiv, Nat.reduceMod, Nat.reduceLT, Nat.reduceLeDiff, Nat.reduceEqDiff, Nat.reduceBEq, Nat.reduceBNe, Nat.reduceGT, Int.reduceAdd, Int.reduceSub, Int.reduceMul, Int.reduceNeg, Int.reduceLT, Int.reduceLE, Int.reduceEq, Int.reduceNe, Int.reduceBEq, Int.reduceBNe, Int.reduceToNat, Int.reduceGT, Int.reduceGE, ↓reduceIte, decide_true, decide_false, Try.f36, Span.t, Span.cs, spIn, gIn]
theorem Wider_c (s : Span) (n : Int) (b : Bool) : PCalls Try.prog 23 [s.t, .int .i64 n, .bool b] (widerS s n b).t := by
  refine pcalls_by Try.mixes noSpec_ok (fn := Try.f23) Try.func23 rfl (by kernel_rfl) (by show 3 ≤ _; decide) ?_
  cases b <;> simp (decide := true) (maxSteps := 4000000) only [go_sem, Nat.reduceAdd, Nat.reduceSub, Nat.reduceMul, Nat.reduceDiv, Nat.reduceMod, Nat.reduceLT, Nat.reduceLeDiff, Nat.reduceEqDiff, Nat.reduceBEq, Nat.reduceBNe, Nat.reduceGT, Int.reduceAdd, Int.reduceSub, Int.reduceMul, Int.reduceNeg, Int.reduceLT, Int.reduceLE, Int.reduceEq, Int.reduceNe, Int.reduceBEq, Int.reduceBNe, Int.reduceToNat, Int.reduceGT, Int.reduceGE, ↓reduceIte, decide_true, decide_false, Try.f23, Span.t, Span.cs, widerS]
theorem Mod_c (n by_ : Int) (h : 0 < by_) (h2 : by_ ≤ 9223372036854775807) : PCalls Try.prog 22 [.int .i64 n, .int .i64 by_] (.int .i64 (n % by_)) := by
  refine pcalls_by Try.mixes noSpec_ok (fn := Try.f22) Try.func22 rfl (by kernel_rfl) (by show 2 ≤ _; decide) ?_
  have hne : ¬ by_ = 0 := by omega
  simp (decide := true) (maxSteps := 4000000) only [go_sem, Nat.reduceAdd, Nat.reduceSub, Nat.reduceMul, Nat.reduceDiv, Nat.reduceMod, Nat.reduceLT, Nat.reduceLeDiff, Nat.reduceEqDiff, Nat.reduceBEq, Nat.reduceBNe, Nat.reduceGT, Int.reduceAdd, Int.reduceSub, Int.reduceMul, Int.reduceNeg, Int.reduceLT, Int.reduceLE, Int.reduceEq, Int.reduceNe, Int.reduceBEq, Int.reduceBNe, Int.reduceToNat, Int.reduceGT, Int.reduceGE, ↓reduceIte, decide_true, decide_false, Try.f22, hne]
  have e := Int.tmod_eq_emod (a := n) (b := by_)
  have e1 := Int.emod_nonneg n hne
  have e2 := Int.emod_lt_of_pos n h
  by_cases hn : n.tmod by_ < 0
  · simp (decide := true) (maxSteps := 4000000) only [go_sem, Nat.reduceAdd, Nat.reduceSub, Nat.reduceMul, Nat.reduceDiv, Nat.reduceMod, Nat.reduceLT, Nat.reduceLeDiff, Nat.reduceEqDiff, Nat.reduceBEq, Nat.reduceBNe, Nat.reduceGT, Int.reduceAdd, Int.reduceSub, Int.reduceMul, Int.reduceNeg, Int.reduceLT, Int.reduceLE, Int.reduceEq, Int.reduceNe, Int.reduceBEq, Int.reduceBNe, Int.reduceToNat, Int.reduceGT, Int.reduceGE, ↓reduceIte, decide_true, decide_false, hn]
    have e3 : n.tmod by_ + by_ = n % by_ := by
      rw [e] at hn ⊢
      split at hn
      · omega
      · rename_i hc
        rw [if_neg hc]
        have : (by_.natAbs : Int) = by_ := by omega
        omega
    rw [e3, wrap_in (by omega) (by omega)]
  · simp (decide := true) (maxSteps := 4000000) only [go_sem, Nat.reduceAdd, Nat.reduceSub, Nat.reduceMul, Nat.reduceDiv, Nat.reduceMod, Nat.reduceLT, Nat.reduceLeDiff, Nat.reduceEqDiff, Nat.reduceBEq, Nat.reduceBNe, Nat.reduceGT, Int.reduceAdd, Int.reduceSub, Int.reduceMul, Int.reduceNeg, Int.reduceLT, Int.reduceLE, Int.reduceEq, Int.reduceNe, Int.reduceBEq, Int.reduceBNe, Int.reduceToNat, Int.reduceGT, Int.reduceGE, ↓reduceIte, decide_true, decide_false, hn]
    rw [e] at hn ⊢
    split at hn
    · rename_i hc; rw [if_pos hc]; simp
    · rename_i hc
      have : (by_.natAbs : Int) = by_ := by omega
      omega
def gHolds : List TV → Option TV
  | [.agg [.int .i64 x, .int .i64 y], .int .i64 n] => some (.bool (inB n x y))
  | _ => none
theorem gHolds_ok : ∀ xs r, gHolds xs = some r → PCalls Try.prog 36 xs r := by
  intro xs r h
  unfold gHolds at h
  split at h
  · cases h; exact Holds_c ⟨_, _⟩ _
  · cases h
def gWider : List TV → Option TV
  | [.agg [.int .i64 x, .int .i64 y], .int .i64 n, .bool b] => some (widerS ⟨x, y⟩ n b).t
  | _ => none
theorem gWider_ok : ∀ xs r, gWider xs = some r → PCalls Try.prog 23 xs r := by
  intro xs r h
  unfold gWider at h
  split at h
  · cases h; exact Wider_c ⟨_, _⟩ _ _
  · cases h
def gMod : List TV → Option TV
  | [.int .i64 n, .int .i64 b] => if 0 < b ∧ b ≤ 9223372036854775807 then some (.int .i64 (n % b)) else none
  | _ => none
theorem gMod_ok : ∀ xs r, gMod xs = some r → PCalls Try.prog 22 xs r := by
  intro xs r h
  unfold gMod at h
  split at h
  · split at h
    · rename_i hc; cases h; exact Mod_c _ _ hc.1 hc.2
    · cases h
  · cases h
noncomputable def spBs : Pm.Spec := spIn
theorem spBs_ok : SpecOk Try.prog spBs := spIn_ok
@[go_sem] theorem spBs_p (f : FuncId) (xs : List TV) : spBs.p f xs = Pm.Spec.p (spIn) f xs := rfl
@[go_sem] theorem spBs_h (f : FuncId) (ps : List PV) (hl : List PO) : spBs.h f ps hl = Pm.Spec.h (spIn) f ps hl := rfl
@[go_sem] theorem spBs_y (Y : Pm.YS) (f : FuncId) (ps : List PV) (hl : List PO) : spBs.y Y f ps hl = Pm.Spec.y (spIn) Y f ps hl := rfl
@[go_sem] theorem spBs_fz (f : FuncId) : spBs.fz f = Pm.Spec.fz (spIn) f := rfl
@[go_sem] theorem spBs_fr (f : FuncId) : spBs.fr f = Pm.Spec.fr (spIn) f := rfl
@[go_sem] theorem spBs_yf (f : FuncId) : spBs.yf f = Pm.Spec.yf (spIn) f := rfl
@[go_sem] theorem spBs_mu (t : TypeId) : spBs.mu t = Pm.Spec.mu (spIn) t := rfl
@[go_sem] theorem spBs_nf (t : TypeId) : spBs.nf t = Pm.Spec.nf (spIn) t := rfl
noncomputable def spBh : Pm.Spec := spBs.one 36 gHolds
theorem spBh_ok : SpecOk Try.prog spBh := Spec.one_ok gHolds_ok spBs_ok
attribute [go_sem] gHolds
@[go_sem] theorem spBh_p (f : FuncId) (xs : List TV) : spBh.p f xs = Pm.Spec.p (spBs.one 36 gHolds) f xs := rfl
@[go_sem] theorem spBh_h (f : FuncId) (ps : List PV) (hl : List PO) : spBh.h f ps hl = Pm.Spec.h (spBs.one 36 gHolds) f ps hl := rfl
@[go_sem] theorem spBh_y (Y : Pm.YS) (f : FuncId) (ps : List PV) (hl : List PO) : spBh.y Y f ps hl = Pm.Spec.y (spBs.one 36 gHolds) Y f ps hl := rfl
@[go_sem] theorem spBh_fz (f : FuncId) : spBh.fz f = Pm.Spec.fz (spBs.one 36 gHolds) f := rfl
@[go_sem] theorem spBh_fr (f : FuncId) : spBh.fr f = Pm.Spec.fr (spBs.one 36 gHolds) f := rfl
@[go_sem] theorem spBh_yf (f : FuncId) : spBh.yf f = Pm.Spec.yf (spBs.one 36 gHolds) f := rfl
@[go_sem] theorem spBh_mu (t : TypeId) : spBh.mu t = Pm.Spec.mu (spBs.one 36 gHolds) t := rfl
@[go_sem] theorem spBh_nf (t : TypeId) : spBh.nf t = Pm.Spec.nf (spBs.one 36 gHolds) t := rfl
noncomputable def spBw : Pm.Spec := spBh.one 23 gWider
theorem spBw_ok : SpecOk Try.prog spBw := Spec.one_ok gWider_ok spBh_ok
attribute [go_sem] gWider
@[go_sem] theorem spBw_p (f : FuncId) (xs : List TV) : spBw.p f xs = Pm.Spec.p (spBh.one 23 gWider) f xs := rfl
@[go_sem] theorem spBw_h (f : FuncId) (ps : List PV) (hl : List PO) : spBw.h f ps hl = Pm.Spec.h (spBh.one 23 gWider) f ps hl := rfl
@[go_sem] theorem spBw_y (Y : Pm.YS) (f : FuncId) (ps : List PV) (hl : List PO) : spBw.y Y f ps hl = Pm.Spec.y (spBh.one 23 gWider) Y f ps hl := rfl
@[go_sem] theorem spBw_fz (f : FuncId) : spBw.fz f = Pm.Spec.fz (spBh.one 23 gWider) f := rfl
@[go_sem] theorem spBw_fr (f : FuncId) : spBw.fr f = Pm.Spec.fr (spBh.one 23 gWider) f := rfl
@[go_sem] theorem spBw_yf (f : FuncId) : spBw.yf f = Pm.Spec.yf (spBh.one 23 gWider) f := rfl
@[go_sem] theorem spBw_mu (t : TypeId) : spBw.mu t = Pm.Spec.mu (spBh.one 23 gWider) t := rfl
@[go_sem] theorem spBw_nf (t : TypeId) : spBw.nf t = Pm.Spec.nf (spBh.one 23 gWider) t := rfl
noncomputable def spBm : Pm.Spec := spBw.one 22 gMod
theorem spBm_ok : SpecOk Try.prog spBm := Spec.one_ok gMod_ok spBw_ok
attribute [go_sem] gMod
@[go_sem] theorem spBm_p (f : FuncId) (xs : List TV) : spBm.p f xs = Pm.Spec.p (spBw.one 22 gMod) f xs := rfl
@[go_sem] theorem spBm_h (f : FuncId) (ps : List PV) (hl : List PO) : spBm.h f ps hl = Pm.Spec.h (spBw.one 22 gMod) f ps hl := rfl
@[go_sem] theorem spBm_y (Y : Pm.YS) (f : FuncId) (ps : List PV) (hl : List PO) : spBm.y Y f ps hl = Pm.Spec.y (spBw.one 22 gMod) Y f ps hl := rfl
@[go_sem] theorem spBm_fz (f : FuncId) : spBm.fz f = Pm.Spec.fz (spBw.one 22 gMod) f := rfl
@[go_sem] theorem spBm_fr (f : FuncId) : spBm.fr f = Pm.Spec.fr (spBw.one 22 gMod) f := rfl
@[go_sem] theorem spBm_yf (f : FuncId) : spBm.yf f = Pm.Spec.yf (spBw.one 22 gMod) f := rfl
@[go_sem] theorem spBm_mu (t : TypeId) : spBm.mu t = Pm.Spec.mu (spBw.one 22 gMod) t := rfl
@[go_sem] theorem spBm_nf (t : TypeId) : spBm.nf t = Pm.Spec.nf (spBw.one 22 gMod) t := rfl
noncomputable def spB1 : Pm.Spec := spBm
theorem spB1_ok : SpecOk Try.prog spB1 := spBm_ok
@[go_sem] theorem spB1_p (f : FuncId) (xs : List TV) : spB1.p f xs = Pm.Spec.p (spBm) f xs := rfl
@[go_sem] theorem spB1_h (f : FuncId) (ps : List PV) (hl : List PO) : spB1.h f ps hl = Pm.Spec.h (spBm) f ps hl := rfl
@[go_sem] theorem spB1_y (Y : Pm.YS) (f : FuncId) (ps : List PV) (hl : List PO) : spB1.y Y f ps hl = Pm.Spec.y (spBm) Y f ps hl := rfl
@[go_sem] theorem spB1_fz (f : FuncId) : spB1.fz f = Pm.Spec.fz (spBm) f := rfl
@[go_sem] theorem spB1_fr (f : FuncId) : spB1.fr f = Pm.Spec.fr (spBm) f := rfl
@[go_sem] theorem spB1_yf (f : FuncId) : spB1.yf f = Pm.Spec.yf (spBm) f := rfl
@[go_sem] theorem spB1_mu (t : TypeId) : spB1.mu t = Pm.Spec.mu (spBm) t := rfl
@[go_sem] theorem spB1_nf (t : TypeId) : spB1.nf t = Pm.Spec.nf (spBm) t := rfl
theorem Chosen_c (lo hi n : Int) (h1 : In64 lo) (h2 : In64 hi) : PCalls Try.prog 25 [.int .i64 lo, .int .i64 hi, .int .i64 n] (.int .i64 (chosen lo hi n)) := by
  refine pcalls_by Try.mixes spB1_ok (fn := Try.f25) Try.func25 rfl (by kernel_rfl) (by show 3 ≤ _; decide) ?_
  obtain ⟨a1, a2⟩ := h1
  obtain ⟨b1, b2⟩ := h2
  unfold chosen
  by_cases hge : lo ≥ hi
  · simp (decide := true) (maxSteps := 4000000) only [go_sem, Nat.reduceAdd, Nat.reduceSub, Nat.reduceMul, Nat.reduceDiv, Nat.reduceMod, Nat.reduceLT, Nat.reduceLeDiff, Nat.reduceEqDiff, Nat.reduceBEq, Nat.reduceBNe, Nat.reduceGT, Int.reduceAdd, Int.reduceSub, Int.reduceMul, Int.reduceNeg, Int.reduceLT, Int.reduceLE, Int.reduceEq, Int.reduceNe, Int.reduceBEq, Int.reduceBNe, Int.reduceToNat, Int.reduceGT, Int.reduceGE, ↓reduceIte, decide_true, decide_false, Try.f25, hge]
  · by_cases hbig : 9223372036854775807 < hi - lo + 1
    · have e : IntKind.i64.wrap (IntKind.i64.wrap (hi - lo) + 1) < 1 := by simp only [IntKind.wrap_i64]; omega
      simp (decide := true) (maxSteps := 4000000) only [go_sem, Nat.reduceAdd, Nat.reduceSub, Nat.reduceMul, Nat.reduceDiv, Nat.reduceMod, Nat.reduceLT, Nat.reduceLeDiff, Nat.reduceEqDiff, Nat.reduceBEq, Nat.reduceBNe, Nat.reduceGT, Int.reduceAdd, Int.reduceSub, Int.reduceMul, Int.reduceNeg, Int.reduceLT, Int.reduceLE, Int.reduceEq, Int.reduceNe, Int.reduceBEq, Int.reduceBNe, Int.reduceToNat, Int.reduceGT, Int.reduceGE, ↓reduceIte, decide_true, decide_false, Try.f25, hge, e, hbig]
    · have e : IntKind.i64.wrap (IntKind.i64.wrap (hi - lo) + 1) = hi - lo + 1 := by rw [wrap_in (n := hi - lo) (by omega) (by omega), wrap_in (by omega) (by omega)]
      have e2 : ¬ hi - lo + 1 < 1 := by omega
      have e3 : 0 < hi - lo + 1 ∧ hi - lo + 1 ≤ 9223372036854775807 := by omega
      have m1 := Int.emod_nonneg n (show hi - lo + 1 ≠ 0 by omega)
      have m2 := Int.emod_lt_of_pos n (show 0 < hi - lo + 1 by omega)
      simp (decide := true) (maxSteps := 4000000) only [go_sem, Nat.reduceAdd, Nat.reduceSub, Nat.reduceMul, Nat.reduceDiv, Nat.reduceMod, Nat.reduceLT, Nat.reduceLeDiff, Nat.reduceEqDiff, Nat.reduceBEq, Nat.reduceBNe, Nat.reduceGT, Int.reduceAdd, Int.reduceSub, Int.reduceMul, Int.reduceNeg, Int.reduceLT, Int.reduceLE, Int.reduceEq, Int.reduceNe, Int.reduceBEq, Int.reduceBNe, Int.reduceToNat, Int.reduceGT, Int.reduceGE, ↓reduceIte, decide_true, decide_false, Try.f25, hge, hbig, e, e2, spB1, spIn, gMod, if_pos e3]
      rw [wrap_in (by omega) (by omega)]
def gChosen : List TV → Option TV
  | [.int .i64 a, .int .i64 b, .int .i64 n] => if (-9223372036854775808 ≤ a ∧ a ≤ 9223372036854775807) ∧ -9223372036854775808 ≤ b ∧ b ≤ 9223372036854775807 then some (.int .i64 (chosen a b n)) else none
  | _ => none
theorem gChosen_ok : ∀ xs r, gChosen xs = some r → PCalls Try.prog 25 xs r := by
  intro xs r h
  unfold gChosen at h
  split at h
  · split at h
    · rename_i hc; cases h; exact Chosen_c _ _ _ hc.1 hc.2
    · cases h
  · cases h
noncomputable def spB2 : Pm.Spec := spB1.one 25 gChosen
theorem spB2_ok : SpecOk Try.prog spB2 := Spec.one_ok gChosen_ok spB1_ok
attribute [go_sem] gChosen
@[go_sem] theorem spB2_p (f : FuncId) (xs : List TV) : spB2.p f xs = Pm.Spec.p (spB1.one 25 gChosen) f xs := rfl
@[go_sem] theorem spB2_h (f : FuncId) (ps : List PV) (hl : List PO) : spB2.h f ps hl = Pm.Spec.h (spB1.one 25 gChosen) f ps hl := rfl
@[go_sem] theorem spB2_y (Y : Pm.YS) (f : FuncId) (ps : List PV) (hl : List PO) : spB2.y Y f ps hl = Pm.Spec.y (spB1.one 25 gChosen) Y f ps hl := rfl
@[go_sem] theorem spB2_fz (f : FuncId) : spB2.fz f = Pm.Spec.fz (spB1.one 25 gChosen) f := rfl
@[go_sem] theorem spB2_fr (f : FuncId) : spB2.fr f = Pm.Spec.fr (spB1.one 25 gChosen) f := rfl
@[go_sem] theorem spB2_yf (f : FuncId) : spB2.yf f = Pm.Spec.yf (spB1.one 25 gChosen) f := rfl
@[go_sem] theorem spB2_mu (t : TypeId) : spB2.mu t = Pm.Spec.mu (spB1.one 25 gChosen) t := rfl
@[go_sem] theorem spB2_nf (t : TypeId) : spB2.nf t = Pm.Spec.nf (spB1.one 25 gChosen) t := rfl
noncomputable def spB3 : Pm.Spec := spB2
theorem spB3_ok : SpecOk Try.prog spB3 := spB2_ok
@[go_sem] theorem spB3_p (f : FuncId) (xs : List TV) : spB3.p f xs = Pm.Spec.p (spB2) f xs := rfl
@[go_sem] theorem spB3_h (f : FuncId) (ps : List PV) (hl : List PO) : spB3.h f ps hl = Pm.Spec.h (spB2) f ps hl := rfl
@[go_sem] theorem spB3_y (Y : Pm.YS) (f : FuncId) (ps : List PV) (hl : List PO) : spB3.y Y f ps hl = Pm.Spec.y (spB2) Y f ps hl := rfl
@[go_sem] theorem spB3_fz (f : FuncId) : spB3.fz f = Pm.Spec.fz (spB2) f := rfl
@[go_sem] theorem spB3_fr (f : FuncId) : spB3.fr f = Pm.Spec.fr (spB2) f := rfl
@[go_sem] theorem spB3_yf (f : FuncId) : spB3.yf f = Pm.Spec.yf (spB2) f := rfl
@[go_sem] theorem spB3_mu (t : TypeId) : spB3.mu t = Pm.Spec.mu (spB2) t := rfl
@[go_sem] theorem spB3_nf (t : TypeId) : spB3.nf t = Pm.Spec.nf (spB2) t := rfl
theorem Same_c (a b : List Int) (fa fb : Bool) (ha : a.length ≤ 9223372036854775806) : PCalls Try.prog 29 [.sl (ints a) a.length fa, .sl (ints b) b.length fb] (.bool (decide (a = b))) := by
  refine pcalls_by Try.mixes noSpec_ok (fn := Try.f29) Try.func29 rfl (by kernel_rfl) (by show 2 ≤ _; decide) ?_
  by_cases hl : a.length = b.length
  · have hl' : (a.length : Int) = b.length := by omega
    simp (decide := true) (maxSteps := 4000000) only [go_sem, Nat.reduceAdd, Nat.reduceSub, Nat.reduceMul, Nat.reduceDiv, Nat.reduceMod, Nat.reduceLT, Nat.reduceLeDiff, Nat.reduceEqDiff, Nat.reduceBEq, Nat.reduceBNe, Nat.reduceGT, Int.reduceAdd, Int.reduceSub, Int.reduceMul, Int.reduceNeg, Int.reduceLT, Int.reduceLE, Int.reduceEq, Int.reduceNe, Int.reduceBEq, Int.reduceBNe, Int.reduceToNat, Int.reduceGT, Int.reduceGE, ↓reduceIte, decide_true, decide_false, Try.f29, hl', bne_self_eq_false]
    refine pwpC_loop (A := { k : Nat // a.take k = b.take k ∧ k ≤ a.length }) (fun k => { env := [(5, .t (.int .i64 k.1)), (0, .t (.sl (ints a) a.length fa)), (1, .t (.sl (ints b) b.length fb))], heap := [] }) (fun k => a.length - k.1) ⟨0, by simp⟩ ?_ (fun _ => by rfl) fun ⟨k, hk, hka⟩ => ?_
    · simp (decide := true) (maxSteps := 4000000) only [go_sem, Nat.reduceAdd, Nat.reduceSub, Nat.reduceMul, Nat.reduceDiv, Nat.reduceMod, Nat.reduceLT, Nat.reduceLeDiff, Nat.reduceEqDiff, Nat.reduceBEq, Nat.reduceBNe, Nat.reduceGT, Int.reduceAdd, Int.reduceSub, Int.reduceMul, Int.reduceNeg, Int.reduceLT, Int.reduceLE, Int.reduceEq, Int.reduceNe, Int.reduceBEq, Int.reduceBNe, Int.reduceToNat, Int.reduceGT, Int.reduceGE, ↓reduceIte, decide_true, decide_false]
    · by_cases hlt : (k : Int) < a.length
      · have hltb : (k : Int) < b.length := by omega
        obtain ⟨x, hx⟩ := get_lt hlt
        obtain ⟨y, hy⟩ := get_lt hltb
        by_cases hxy : x = y
        · subst hxy
          simp (decide := true) (maxSteps := 4000000) only [go_sem, Nat.reduceAdd, Nat.reduceSub, Nat.reduceMul, Nat.reduceDiv, Nat.reduceMod, Nat.reduceLT, Nat.reduceLeDiff, Nat.reduceEqDiff, Nat.reduceBEq, Nat.reduceBNe, Nat.reduceGT, Int.reduceAdd, Int.reduceSub, Int.reduceMul, Int.reduceNeg, Int.reduceLT, Int.reduceLE, Int.reduceEq, Int.reduceNe, Int.reduceBEq, Int.reduceBNe, Int.reduceToNat, Int.reduceGT, Int.reduceGE, ↓reduceIte, decide_true, decide_false, hlt, hltb, ints_at hx, ints_at hy, hl', bne_self_eq_false]
          refine ⟨⟨k + 1, by rw [take_snoc hx, take_snoc hy, hk], by omega⟩, by rw [wrap_in (by omega) (by omega)]; simp, by simp only; omega⟩
        · have hxy' : (x != y) = true := by simpa using hxy
          simp (decide := true) (maxSteps := 4000000) only [go_sem, Nat.reduceAdd, Nat.reduceSub, Nat.reduceMul, Nat.reduceDiv, Nat.reduceMod, Nat.reduceLT, Nat.reduceLeDiff, Nat.reduceEqDiff, Nat.reduceBEq, Nat.reduceBNe, Nat.reduceGT, Int.reduceAdd, Int.reduceSub, Int.reduceMul, Int.reduceNeg, Int.reduceLT, Int.reduceLE, Int.reduceEq, Int.reduceNe, Int.reduceBEq, Int.reduceBNe, Int.reduceToNat, Int.reduceGT, Int.reduceGE, ↓reduceIte, decide_true, decide_false, hlt, hltb, ints_at hx, ints_at hy, hl', hxy']
          symm
          rw [decide_eq_false_iff_not]
          rintro rfl
          rw [hx] at hy; cases hy; exact hxy rfl
      · have hltb : ¬ (k : Int) < b.length := by omega
        simp (decide := true) (maxSteps := 4000000) only [go_sem, Nat.reduceAdd, Nat.reduceSub, Nat.reduceMul, Nat.reduceDiv, Nat.reduceMod, Nat.reduceLT, Nat.reduceLeDiff, Nat.reduceEqDiff, Nat.reduceBEq, Nat.reduceBNe, Nat.reduceGT, Int.reduceAdd, Int.reduceSub, Int.reduceMul, Int.reduceNeg, Int.reduceLT, Int.reduceLE, Int.reduceEq, Int.reduceNe, Int.reduceBEq, Int.reduceBNe, Int.reduceToNat, Int.reduceGT, Int.reduceGE, ↓reduceIte, decide_true, decide_false, hlt, hltb, hl']
        symm
        rw [decide_eq_true_eq]
        rwa [List.take_of_length_le (by omega), List.take_of_length_le (by omega)] at hk
  · have hl' : ((a.length : Int) != b.length) = true := by simp; omega
    simp (decide := true) (maxSteps := 4000000) only [go_sem, Nat.reduceAdd, Nat.reduceSub, Nat.reduceMul, Nat.reduceDiv, Nat.reduceMod, Nat.reduceLT, Nat.reduceLeDiff, Nat.reduceEqDiff, Nat.reduceBEq, Nat.reduceBNe, Nat.reduceGT, Int.reduceAdd, Int.reduceSub, Int.reduceMul, Int.reduceNeg, Int.reduceLT, Int.reduceLE, Int.reduceEq, Int.reduceNe, Int.reduceBEq, Int.reduceBNe, Int.reduceToNat, Int.reduceGT, Int.reduceGE, ↓reduceIte, decide_true, decide_false, Try.f29, hl']
    symm
    rw [decide_eq_false_iff_not]
    rintro rfl; exact hl rfl
end Go.Proofs.Ytadkjjnnnkfalaa.Gl

/- Part Gp. -/
namespace Go.Oc.Gl
end Go.Oc.Gl
namespace Go.Proofs.Ytadkjjnnnkfalaa.Gl
end Go.Proofs.Ytadkjjnnnkfalaa.Gl
namespace Go.Oc.Gl
open Go Go.Pm

structure Blank where
  i : Span
  c : Span
  pr : Int
  deriving DecidableEq
def Blank.cs (b : Blank) : List TV := [.int .i64 b.i.lo, .int .i64 b.i.hi, .int .i64 b.c.lo, .int .i64 b.c.hi, .int .i64 b.pr]
def unBlanks : List TV → Option (List Blank)
  | [] => some []
  | .int .i64 a :: .int .i64 b :: .int .i64 c :: .int .i64 d :: .int .i64 e :: r => (unBlanks r).map (⟨⟨a, b⟩, ⟨c, d⟩, e⟩ :: ·)
  | _ => none
theorem unBlanks_eq : ∀ l : List Blank, unBlanks (l.flatMap Blank.cs) = some l
  | [] => rfl
  | x :: l => by simp [Blank.cs, unBlanks, unBlanks_eq l]
theorem unBlanks_some : ∀ {cs : List TV} {l : List Blank}, unBlanks cs = some l → cs = l.flatMap Blank.cs := by
  intro cs
  induction cs using unBlanks.induct with
  | case1 => intro l h; simp [unBlanks] at h; subst h; rfl
  | case2 a b c d e r ih =>
    intro l h
    simp only [unBlanks, Option.map_eq_some_iff] at h
    obtain ⟨l', h1, rfl⟩ := h
    rw [ih h1]; rfl
  | case3 r h1 h2 =>
    intro l h
    unfold unBlanks at h
    split at h
    · exact absurd rfl h1
    · exact absurd rfl (h2 _ _ _ _ _ _)
    · cases h
def unSpans : List TV → Option (List Span)
  | [] => some []
  | .int .i64 a :: .int .i64 b :: r => (unSpans r).map (⟨a, b⟩ :: ·)
  | _ => none
theorem unSpans_eq : ∀ l : List Span, unSpans (l.flatMap Span.cs) = some l
  | [] => rfl
  | x :: l => by simp [Span.cs, unSpans, unSpans_eq l]
theorem unSpans_some : ∀ {cs : List TV} {l : List Span}, unSpans cs = some l → cs = l.flatMap Span.cs := by
  intro cs
  induction cs using unSpans.induct with
  | case1 => intro l h; simp [unSpans] at h; subst h; rfl
  | case2 a b r ih =>
    intro l h
    simp only [unSpans, Option.map_eq_some_iff] at h
    obtain ⟨l', h1, rfl⟩ := h
    rw [ih h1]; rfl
  | case3 r h1 h2 =>
    intro l h
    unfold unSpans at h
    split at h
    · exact absurd rfl h1
    · exact absurd rfl (h2 _ _ _)
    · cases h
attribute [go_sem] unBlanks_eq unSpans_eq
/-- A row of numbers, read. -/
def ic (n : Int) : List TV := [.int .i64 n]
theorem ic_ints (l : List Int) : l.flatMap ic = ints l := by
  induction l with
  | nil => rfl
  | cons x l ih => simp only [List.flatMap_cons, ih]; rfl
def unI : List TV → Option (List Int)
  | [] => some []
  | .int .i64 a :: r => (unI r).map (a :: ·)
  | _ => none
theorem unI_eq : ∀ l : List Int, unI (ints l) = some l
  | [] => rfl
  | x :: l => by
    show (unI (ints l)).map (x :: ·) = some (x :: l)
    rw [unI_eq l]; rfl
theorem unI_some : ∀ {cs : List TV} {l : List Int}, unI cs = some l → cs = l.flatMap ic := by
  intro cs
  induction cs using unI.induct with
  | case1 => intro l h; simp [unI] at h; subst h; rfl
  | case2 a r ih =>
    intro l h
    simp only [unI, Option.map_eq_some_iff] at h
    obtain ⟨l', h1, rfl⟩ := h
    rw [ih h1]; rfl
  | case3 r h1 h2 =>
    intro l h
    unfold unI at h
    split at h
    · exact absurd rfl h1
    · exact absurd rfl (h2 _ _)
    · cases h
attribute [go_sem] unI_eq

/-- An objective. -/
structure Ob where
  f : Int
  s : Int
  a : Int
  b : Int
  c : Int
  deriving DecidableEq
def Ob.cs (o : Ob) : List TV := [.int .i64 o.f, .int .i64 o.s, .int .i64 o.a, .int .i64 o.b, .int .i64 o.c]
def Ob.t (o : Ob) : TV := .agg o.cs
/-- A wish. -/
structure Want where
  p : Span
  c : Int
  deriving DecidableEq
def Want.t (w : Want) : TV := .agg [.int .i64 w.p.lo, .int .i64 w.p.hi, .int .i64 w.c]

def blankOk (b : Blank) : Bool := spannedB b.i 1 100000 && spannedB b.c 1 5000 && inB b.pr 0 1000000
def toolOk (t : Span) : Bool := spannedB t (-1000) 1000
def stockOk (B : List Blank) (T : List Span) : Bool := (inB B.length 2 8 && inB T.length 1 6) && B.all blankOk && T.all toolOk
def wantOk (w : Want) : Bool := spannedB w.p (-400000000) 400000000 && inB w.c 0 400000000
/-- Is something an objective of so many blanks and tools? -/
def obOk (n m : Int) (o : Ob) : Bool := inB o.f 0 (n - 1) && inB o.s 0 (n - 1) && (o.f != o.s) && inB o.a 0 (m - 1) && inB o.b 0 (m - 1) && inB o.c 0 (m - 1)
/-- The error of a stock, a wish and an objective. -/
def askedG (B : List Blank) (T : List Span) (w : Want) (o : Ob) : Int := if stockOk B T = false then 40 else if wantOk w = false then 43 else if obOk B.length T.length o = false then 41 else 0

/-- A number of a row. -/
def nth (l : List Int) (i : Int) : Int := l.getD i.toNat 0
/-- What both lenses do: of two numbers, with three curvatures. -/
def pw (n1 n2 f m b : Int) : Int := n1 * (f - m) + n2 * (m - b)
/-- An end of a span. -/
def endS (s : Span) (h : Bool) : Int := if h then s.hi else s.lo
theorem endS_mem {s : Span} (h : s.lo ≤ s.hi) (b : Bool) : s.lo ≤ endS s b ∧ endS s b ≤ s.hi := by
  unfold endS; cases b <;> simp <;> omega
/-- The bit of the second tool, and of the third one. -/
def bit1 (o : Ob) : Nat := if o.a = o.b then 0 else 1
def bit2 (o : Ob) : Nat := if o.a = o.c then 0 else if o.b = o.c then 1 else 2
/-- In a corner: what both lenses do. -/
def cornV (s1 s2 t1 t2 t3 : Span) (o : Ob) (k : Nat) : Int := pw (endS s1 (k.testBit 3)) (endS s2 (k.testBit 4)) (endS t1 (k.testBit 0)) (endS t2 (k.testBit (bit1 o))) (endS t3 (k.testBit (bit2 o)))
/-- The least and the greatest of some numbers. -/
def minmax : List Int → Span
  | [] => ⟨0, 0⟩
  | x :: l => ⟨l.foldl min x, l.foldl max x⟩
def corners (s1 s2 t1 t2 t3 : Span) (o : Ob) (k : Nat) : List Int := (List.range k).map (cornV s1 s2 t1 t2 t3 o)
/-- Between what power and colour lie. -/
structure Sn where
  p : Span
  c : Span
  deriving DecidableEq
def Sn.t (x : Sn) : TV := .agg [.int .i64 x.p.lo, .int .i64 x.p.hi, .int .i64 x.c.lo, .int .i64 x.c.hi]
def blankAt (B : List Blank) (i : Int) : Blank := B.getD i.toNat ⟨⟨0, 0⟩, ⟨0, 0⟩, 0⟩
def toolAt (T : List Span) (i : Int) : Span := T.getD i.toNat ⟨0, 0⟩
/-- Are true numbers within spans? -/
def tOkB (B : List Blank) (ix co : List Int) (k : Nat) : Bool := (List.range k).all fun (i : Nat) => inB (nth ix i) (blankAt B i).i.lo (blankAt B i).i.hi && inB (nth co i) (blankAt B i).c.lo (blankAt B i).c.hi
def tOkT (T : List Span) (cu : List Int) (k : Nat) : Bool := (List.range k).all fun (i : Nat) => inB (nth cu i) (toolAt T i).lo (toolAt T i).hi
theorem tOkB_succ (B : List Blank) (ix co : List Int) (k : Nat) : tOkB B ix co (k + 1) = (tOkB B ix co k && (inB (nth ix k) (blankAt B k).i.lo (blankAt B k).i.hi && inB (nth co k) (blankAt B k).c.lo (blankAt B k).c.hi)) := by
  unfold tOkB; rw [List.range_succ, List.all_append]; simp
theorem tOkT_succ (T : List Span) (cu : List Int) (k : Nat) : tOkT T cu (k + 1) = (tOkT T cu k && inB (nth cu k) (toolAt T k).lo (toolAt T k).hi) := by
  unfold tOkT; rw [List.range_succ, List.all_append]; simp
theorem tOkB_at {B : List Blank} {ix co : List Int} {k i : Nat} (h : tOkB B ix co k = true) (hi : i < k) : (((blankAt B i).i.lo ≤ nth ix i ∧ nth ix i ≤ (blankAt B i).i.hi)) ∧ (blankAt B i).c.lo ≤ nth co i ∧ nth co i ≤ (blankAt B i).c.hi := by
  unfold tOkB at h
  have := List.all_eq_true.1 h i (List.mem_range.2 hi)
  simp only [Bool.and_eq_true, inB_iff] at this
  exact this
theorem tOkT_at {T : List Span} {cu : List Int} {k i : Nat} (h : tOkT T cu k = true) (hi : i < k) : (toolAt T i).lo ≤ nth cu i ∧ nth cu i ≤ (toolAt T i).hi := by
  unfold tOkT at h
  have := List.all_eq_true.1 h i (List.mem_range.2 hi)
  exact inB_iff.1 this
theorem tOkB_no {B : List Blank} {ix co : List Int} {k n : Nat} (h : tOkB B ix co k = false) (hk : k ≤ n) : tOkB B ix co n = false := by
  rw [← Bool.not_eq_true] at h ⊢
  intro h'
  apply h
  unfold tOkB at h' ⊢
  rw [List.all_eq_true] at h' ⊢
  exact fun i hi => h' i (List.mem_range.2 (by have := List.mem_range.1 hi; omega))
theorem tOkT_no {T : List Span} {cu : List Int} {k n : Nat} (h : tOkT T cu k = false) (hk : k ≤ n) : tOkT T cu n = false := by
  rw [← Bool.not_eq_true] at h ⊢
  intro h'
  apply h
  unfold tOkT at h' ⊢
  rw [List.all_eq_true] at h' ⊢
  exact fun i hi => h' i (List.mem_range.2 (by have := List.mem_range.1 hi; omega))
def truthOk (B : List Blank) (T : List Span) (ix co cu : List Int) : Bool := ((ix.length == B.length) && (co.length == B.length) && (cu.length == T.length)) && (tOkB B ix co B.length && tOkT T cu T.length)
theorem nth_eq {l : List Int} {i : Nat} {x : Int} (h : l[i]? = some x) : nth l (i : Int) = x := by
  unfold nth
  rw [Int.toNat_natCast, List.getD_eq_getElem?_getD, h]; rfl
/-- The power and the colour of an objective in a truth, and the error. -/
def seenP (B : List Blank) (T : List Span) (o : Ob) (ix co cu : List Int) : Int × Int × Int :=
  if stockOk B T = false then (0, 0, 40) else if obOk B.length T.length o = false then (0, 0, 41) else if truthOk B T ix co cu = false then (0, 0, 42)
  else (pw (nth ix o.f) (nth ix o.s) (nth cu o.a) (nth cu o.b) (nth cu o.c), pw (nth co o.f) (nth co o.s) (nth cu o.a) (nth cu o.b) (nth cu o.c), 0)

def spansP (B : List Blank) (T : List Span) (o : Ob) : Sn :=
  ⟨minmax (corners (blankAt B o.f).i (blankAt B o.s).i (toolAt T o.a) (toolAt T o.b) (toolAt T o.c) o 32), minmax (corners (blankAt B o.f).c (blankAt B o.s).c (toolAt T o.a) (toolAt T o.b) (toolAt T o.c) o 32)⟩
def spansE (B : List Blank) (T : List Span) (o : Ob) : Sn × Int :=
  if stockOk B T = false then (⟨⟨0, 0⟩, ⟨0, 0⟩⟩, 40) else if obOk B.length T.length o = false then (⟨⟨0, 0⟩, ⟨0, 0⟩⟩, 41) else (spansP B T o, 0)
def worstS (c : Span) : Int := max c.hi (-c.lo)
def goodB (x : Sn) (w : Want) : Bool := decide (x.p.lo ≥ w.p.lo) && decide (x.p.hi ≤ w.p.hi) && decide (worstS x.c ≤ w.c)
def goodE (B : List Blank) (T : List Span) (w : Want) (o : Ob) : Bool × Int := if askedG B T w o = 0 then (goodB (spansP B T o) w, 0) else (false, askedG B T w o)

/-- All objectives of two blanks, and all. -/
def obs2 (m : Nat) (i j : Nat) : List Ob := (List.range (m * m * m)).map fun n => ⟨i, j, ((n / m / m : Nat) : Int), ((n / m % m : Nat) : Int), ((n % m : Nat) : Int)⟩
def obs1 (n m i : Nat) : List Ob := (List.range n).flatMap fun j => if i = j then [] else obs2 m i j
def obsA (n m : Nat) : List Ob := (List.range n).flatMap (obs1 n m)
/-- What the search has found: the objective, its worst colour, its price, and whether there is one. -/
structure Bst where
  o : Ob
  n : Int
  p : Int
  is : Bool
  deriving DecidableEq
def bst0 : Bst := ⟨⟨0, 0, 0, 0, 0⟩, 0, 0, false⟩
def priceO (B : List Blank) (o : Ob) : Int := (blankAt B o.f).pr + (blankAt B o.s).pr
def bstStep (B : List Blank) (T : List Span) (w : Want) (x : Bst) (o : Ob) : Bst :=
  if goodB (spansP B T o) w then
    if x.is = false ∨ worstS (spansP B T o).c < x.n ∨ worstS (spansP B T o).c = x.n ∧ priceO B o < x.p then ⟨o, worstS (spansP B T o).c, priceO B o, true⟩ else x
  else x
def bstTo (B : List Blank) (T : List Span) (w : Want) (k : Nat) : Bst := ((obsA B.length T.length).take k).foldl (bstStep B T w) bst0
def bestP (B : List Blank) (T : List Span) (w : Want) : Ob × Int × Int :=
  if stockOk B T = false then (bst0.o, 0, 40) else if wantOk w = false then (bst0.o, 0, 43) else
  let x := (obsA B.length T.length).foldl (bstStep B T w) bst0
  if x.is then (x.o, x.n, 0) else (bst0.o, 0, 4)
end Go.Oc.Gl
namespace Go.Oc.Gl
open Go Go.Pm
/-- What a check has come to. -/
def accB (B : List Blank) (T : List Span) (k : Nat) : Bool := (inB B.length 2 8 && inB T.length 1 6) && (B.take k).all blankOk
def accT (B : List Blank) (T : List Span) (k : Nat) : Bool := accB B T B.length && (T.take k).all toolOk
theorem accB_succ {B : List Blank} (T : List Span) {k : Nat} {x : Blank} (h : B[k]? = some x) : accB B T (k + 1) = (accB B T k && blankOk x) := by
  unfold accB; rw [take_all _ h, ← Bool.and_assoc]
theorem accT_succ (B : List Blank) {T : List Span} {k : Nat} {x : Span} (h : T[k]? = some x) : accT B T (k + 1) = (accT B T k && toolOk x) := by
  unfold accT; rw [take_all _ h, ← Bool.and_assoc]
theorem accB_zero (B : List Blank) (T : List Span) : accB B T 0 = (inB B.length 2 8 && inB T.length 1 6) := by simp [accB]
theorem accT_zero (B : List Blank) (T : List Span) : accT B T 0 = accB B T B.length := by simp [accT]
theorem accT_all (B : List Blank) (T : List Span) : accT B T T.length = stockOk B T := by
  unfold accT accB stockOk
  rw [List.take_length, List.take_length]
theorem accB_false {B : List Blank} {T : List Span} {k : Nat} (h : accB B T k = false) : stockOk B T = false := by
  unfold accB at h
  unfold stockOk
  rw [Bool.and_eq_false_iff] at h
  rcases h with h | h
  · rw [h]; rfl
  · rw [all_of_take h, Bool.and_false, Bool.false_and]
theorem accT_false {B : List Blank} {T : List Span} {k : Nat} (h : accT B T k = false) : stockOk B T = false := by
  unfold accT at h
  rw [Bool.and_eq_false_iff] at h
  rcases h with h | h
  · exact accB_false h
  · unfold stockOk; rw [all_of_take h, Bool.and_false]
theorem stockOk_iff {B : List Blank} {T : List Span} : stockOk B T = true ↔ (2 ≤ B.length ∧ B.length ≤ 8) ∧ (1 ≤ T.length ∧ T.length ≤ 6) ∧
    (∀ b ∈ B, (1 ≤ b.i.lo ∧ b.i.lo ≤ b.i.hi ∧ b.i.hi ≤ 100000) ∧ (1 ≤ b.c.lo ∧ b.c.lo ≤ b.c.hi ∧ b.c.hi ≤ 5000) ∧ 0 ≤ b.pr ∧ b.pr ≤ 1000000) ∧ ∀ t ∈ T, -1000 ≤ t.lo ∧ t.lo ≤ t.hi ∧ t.hi ≤ 1000 := by
  simp only [stockOk, inB, blankOk, toolOk, spannedB, Bool.and_eq_true, decide_eq_true_eq, List.all_eq_true]
  constructor
  · rintro ⟨⟨⟨⟨a, b⟩, c, d⟩, e⟩, f⟩
    refine ⟨by omega, by omega, fun x hx => ?_, fun x hx => ?_⟩
    · have := e x hx; omega
    · have := f x hx; omega
  · rintro ⟨a, b, c, d⟩
    refine ⟨⟨⟨by omega, by omega⟩, fun x hx => ?_⟩, fun x hx => ?_⟩
    · have := c x hx; omega
    · have := d x hx; omega
end Go.Oc.Gl

/- Part Gu. -/
namespace Go.Oc.Gl
end Go.Oc.Gl
namespace Go.Proofs.Ytadkjjnnnkfalaa.Gl
end Go.Proofs.Ytadkjjnnnkfalaa.Gl
namespace Go.Proofs.Ytadkjjnnnkfalaa.Gl
open Go.RowKit Go.Pm Go.Oc Go.Oc.Gl
set_option maxRecDepth 100000
set_option linter.unusedVariables false
set_option maxHeartbeats 4000000

theorem gWithin_c (n lo hi : Int) : PCalls Try.prog 56 [.int .i64 n, .int .i64 lo, .int .i64 hi] (.bool (inB n lo hi)) := by
  refine pcalls_by Try.mixes noSpec_ok (fn := Try.f56) Try.func56 rfl (by kernel_rfl) (by show 3 ≤ _; decide) ?_
  simp (decide := true) (maxSteps := 4000000) only [go_sem, Nat.reduceAdd, Nat.reduceSub, Nat.reduceMul, Nat.reduceDiv, Nat.reduceMod, Nat.reduceLT, Nat.reduceLeDiff, Nat.reduceEqDiff, Nat.reduceBEq, Nat.reduceBNe, Nat.reduceGT, Int.reduceAdd, Int.reduceSub, Int.reduceMul, Int.reduceNeg, Int.reduceLT, Int.reduceLE, Int.reduceEq, Int.reduceNe, Int.reduceBEq, Int.reduceBNe, Int.reduceToNat, Int.reduceGT, Int.reduceGE, ↓reduceIte, decide_true, decide_false, eq_self, Nat.mul_one, Nat.zero_mul, Nat.one_mul, Int.le_refl, Nat.le_refl, Int.cast_ofNat_Int, Try.f56, inB]
noncomputable def glWithin : List TV → Option TV
  | [.int .i64 n, .int .i64 a, .int .i64 b] => some (.bool (inB n a b))
  | _ => none
theorem glWithin_ok : ∀ xs r, glWithin xs = some r → PCalls Try.prog 56 xs r := by
  intro xs r h
  unfold glWithin at h
  split at h
  · cases h; exact gWithin_c _ _ _
  · cases h
attribute [go_sem] glWithin
noncomputable def spU1 : Pm.Spec := noSpec.one 56 glWithin
@[go_sem] theorem spU1_p (f : FuncId) (xs : List TV) : spU1.p f xs = Pm.Spec.p (noSpec.one 56 glWithin) f xs := rfl
@[go_sem] theorem spU1_h (f : FuncId) (ps : List PV) (hl : List PO) : spU1.h f ps hl = Pm.Spec.h (noSpec.one 56 glWithin) f ps hl := rfl
@[go_sem] theorem spU1_y (Y : Pm.YS) (f : FuncId) (ps : List PV) (hl : List PO) : spU1.y Y f ps hl = Pm.Spec.y (noSpec.one 56 glWithin) Y f ps hl := rfl
@[go_sem] theorem spU1_fz (f : FuncId) : spU1.fz f = Pm.Spec.fz (noSpec.one 56 glWithin) f := rfl
@[go_sem] theorem spU1_fr (f : FuncId) : spU1.fr f = Pm.Spec.fr (noSpec.one 56 glWithin) f := rfl
@[go_sem] theorem spU1_yf (f : FuncId) : spU1.yf f = Pm.Spec.yf (noSpec.one 56 glWithin) f := rfl
@[go_sem] theorem spU1_mu (t : TypeId) : spU1.mu t = Pm.Spec.mu (noSpec.one 56 glWithin) t := rfl
@[go_sem] theorem spU1_nf (t : TypeId) : spU1.nf t = Pm.Spec.nf (noSpec.one 56 glWithin) t := rfl
theorem spU1_ok : SpecOk Try.prog spU1 := Spec.one_ok glWithin_ok noSpec_ok
theorem gValid_c (s : Span) (lo hi : Int) : PCalls Try.prog 57 [s.t, .int .i64 lo, .int .i64 hi] (.bool (spannedB s lo hi)) := by
  refine pcalls_by Try.mixes spU1_ok (fn := Try.f57) Try.func57 rfl (by kernel_rfl) (by show 3 ≤ _; decide) ?_
  simp (decide := true) (maxSteps := 4000000) only [go_sem, Nat.reduceAdd, Nat.reduceSub, Nat.reduceMul, Nat.reduceDiv, Nat.reduceMod, Nat.reduceLT, Nat.reduceLeDiff, Nat.reduceEqDiff, Nat.reduceBEq, Nat.reduceBNe, Nat.reduceGT, Int.reduceAdd, Int.reduceSub, Int.reduceMul, Int.reduceNeg, Int.reduceLT, Int.reduceLE, Int.reduceEq, Int.reduceNe, Int.reduceBEq, Int.reduceBNe, Int.reduceToNat, Int.reduceGT, Int.reduceGE, ↓reduceIte, decide_true, decide_false, eq_self, Nat.mul_one, Nat.zero_mul, Nat.one_mul, Int.le_refl, Nat.le_refl, Int.cast_ofNat_Int, Try.f57, Span.t, Span.cs, spannedB]
theorem gHoldsM_c (s : Span) (n : Int) : PCalls Try.prog 47 [s.t, .int .i64 n] (.bool (inB n s.lo s.hi)) := by
  refine pcalls_by Try.mixes spU1_ok (fn := Try.f47) Try.func47 rfl (by kernel_rfl) (by show 2 ≤ _; decide) ?_
  simp (decide := true) (maxSteps := 4000000) only [go_sem, Nat.reduceAdd, Nat.reduceSub, Nat.reduceMul, Nat.reduceDiv, Nat.reduceMod, Nat.reduceLT, Nat.reduceLeDiff, Nat.reduceEqDiff, Nat.reduceBEq, Nat.reduceBNe, Nat.reduceGT, Int.reduceAdd, Int.reduceSub, Int.reduceMul, Int.reduceNeg, Int.reduceLT, Int.reduceLE, Int.reduceEq, Int.reduceNe, Int.reduceBEq, Int.reduceBNe, Int.reduceToNat, Int.reduceGT, Int.reduceGE, ↓reduceIte, decide_true, decide_false, eq_self, Nat.mul_one, Nat.zero_mul, Nat.one_mul, Int.le_refl, Nat.le_refl, Int.cast_ofNat_Int, Try.f47, Span.t, Span.cs]
theorem gLens_c (n f b : Int) : PCalls Try.prog 48 [.int .i64 n, .int .i64 f, .int .i64 b] (.int .i64 (IntKind.i64.wrap (n * IntKind.i64.wrap (f - b)))) := by
  refine pcalls_by Try.mixes noSpec_ok (fn := Try.f48) Try.func48 rfl (by kernel_rfl) (by show 3 ≤ _; decide) ?_
  simp (decide := true) (maxSteps := 4000000) only [go_sem, Nat.reduceAdd, Nat.reduceSub, Nat.reduceMul, Nat.reduceDiv, Nat.reduceMod, Nat.reduceLT, Nat.reduceLeDiff, Nat.reduceEqDiff, Nat.reduceBEq, Nat.reduceBNe, Nat.reduceGT, Int.reduceAdd, Int.reduceSub, Int.reduceMul, Int.reduceNeg, Int.reduceLT, Int.reduceLE, Int.reduceEq, Int.reduceNe, Int.reduceBEq, Int.reduceBNe, Int.reduceToNat, Int.reduceGT, Int.reduceGE, ↓reduceIte, decide_true, decide_false, eq_self, Nat.mul_one, Nat.zero_mul, Nat.one_mul, Int.le_refl, Nat.le_refl, Int.cast_ofNat_Int, Try.f48]
theorem gEnd_c (s : Span) (b : Bool) : PCalls Try.prog 92 [s.t, .bool b] (.int .i64 (endS s b)) := by
  refine pcalls_by Try.mixes noSpec_ok (fn := Try.f92) Try.func92 rfl (by kernel_rfl) (by show 2 ≤ _; decide) ?_
  cases b <;> simp (decide := true) (maxSteps := 4000000) only [go_sem, Nat.reduceAdd, Nat.reduceSub, Nat.reduceMul, Nat.reduceDiv, Nat.reduceMod, Nat.reduceLT, Nat.reduceLeDiff, Nat.reduceEqDiff, Nat.reduceBEq, Nat.reduceBNe, Nat.reduceGT, Int.reduceAdd, Int.reduceSub, Int.reduceMul, Int.reduceNeg, Int.reduceLT, Int.reduceLE, Int.reduceEq, Int.reduceNe, Int.reduceBEq, Int.reduceBNe, Int.reduceToNat, Int.reduceGT, Int.reduceGE, ↓reduceIte, decide_true, decide_false, eq_self, Nat.mul_one, Nat.zero_mul, Nat.one_mul, Int.le_refl, Nat.le_refl, Int.cast_ofNat_Int, Try.f92, Span.t, Span.cs, endS]
theorem gWorst_c (x : Sn) : PCalls Try.prog 53 [x.t] (.int .i64 (max x.c.hi (IntKind.i64.wrap (0 - x.c.lo)))) := by
  refine pcalls_by Try.mixes noSpec_ok (fn := Try.f53) Try.func53 rfl (by kernel_rfl) (by show 1 ≤ _; decide) ?_
  simp (decide := true) (maxSteps := 4000000) only [go_sem, Nat.reduceAdd, Nat.reduceSub, Nat.reduceMul, Nat.reduceDiv, Nat.reduceMod, Nat.reduceLT, Nat.reduceLeDiff, Nat.reduceEqDiff, Nat.reduceBEq, Nat.reduceBNe, Nat.reduceGT, Int.reduceAdd, Int.reduceSub, Int.reduceMul, Int.reduceNeg, Int.reduceLT, Int.reduceLE, Int.reduceEq, Int.reduceNe, Int.reduceBEq, Int.reduceBNe, Int.reduceToNat, Int.reduceGT, Int.reduceGE, ↓reduceIte, decide_true, decide_false, eq_self, Nat.mul_one, Nat.zero_mul, Nat.one_mul, Int.le_refl, Nat.le_refl, Int.cast_ofNat_Int, Try.f53, Sn.t]
noncomputable def glValid : List TV → Option TV
  | [.agg [.int .i64 x, .int .i64 y], .int .i64 a, .int .i64 b] => some (.bool (spannedB ⟨x, y⟩ a b))
  | _ => none
theorem glValid_ok : ∀ xs r, glValid xs = some r → PCalls Try.prog 57 xs r := by
  intro xs r h
  unfold glValid at h
  split at h
  · cases h; exact gValid_c ⟨_, _⟩ _ _
  · cases h
attribute [go_sem] glValid
noncomputable def glHolds : List TV → Option TV
  | [.agg [.int .i64 x, .int .i64 y], .int .i64 n] => some (.bool (inB n x y))
  | _ => none
theorem glHolds_ok : ∀ xs r, glHolds xs = some r → PCalls Try.prog 47 xs r := by
  intro xs r h
  unfold glHolds at h
  split at h
  · cases h; exact gHoldsM_c ⟨_, _⟩ _
  · cases h
attribute [go_sem] glHolds
noncomputable def glLens : List TV → Option TV
  | [.int .i64 n, .int .i64 a, .int .i64 b] => some (.int .i64 (IntKind.i64.wrap (n * IntKind.i64.wrap (a - b))))
  | _ => none
theorem glLens_ok : ∀ xs r, glLens xs = some r → PCalls Try.prog 48 xs r := by
  intro xs r h
  unfold glLens at h
  split at h
  · cases h; exact gLens_c _ _ _
  · cases h
attribute [go_sem] glLens
noncomputable def glEnd : List TV → Option TV
  | [.agg [.int .i64 x, .int .i64 y], .bool b] => some (.int .i64 (endS ⟨x, y⟩ b))
  | _ => none
theorem glEnd_ok : ∀ xs r, glEnd xs = some r → PCalls Try.prog 92 xs r := by
  intro xs r h
  unfold glEnd at h
  split at h
  · cases h; exact gEnd_c ⟨_, _⟩ _
  · cases h
attribute [go_sem] glEnd
noncomputable def glWorst : List TV → Option TV
  | [.agg [.int .i64 a, .int .i64 b, .int .i64 c, .int .i64 d]] => some (.int .i64 (max d (IntKind.i64.wrap (0 - c))))
  | _ => none
theorem glWorst_ok : ∀ xs r, glWorst xs = some r → PCalls Try.prog 53 xs r := by
  intro xs r h
  unfold glWorst at h
  split at h
  · cases h; exact gWorst_c ⟨⟨_, _⟩, ⟨_, _⟩⟩
  · cases h
attribute [go_sem] glWorst
noncomputable def spU2 : Pm.Spec := ((((spU1.one 57 glValid).one 47 glHolds).one 48 glLens).one 92 glEnd).one 53 glWorst
@[go_sem] theorem spU2_p (f : FuncId) (xs : List TV) : spU2.p f xs = Pm.Spec.p (((((spU1.one 57 glValid).one 47 glHolds).one 48 glLens).one 92 glEnd).one 53 glWorst) f xs := rfl
@[go_sem] theorem spU2_h (f : FuncId) (ps : List PV) (hl : List PO) : spU2.h f ps hl = Pm.Spec.h (((((spU1.one 57 glValid).one 47 glHolds).one 48 glLens).one 92 glEnd).one 53 glWorst) f ps hl := rfl
@[go_sem] theorem spU2_y (Y : Pm.YS) (f : FuncId) (ps : List PV) (hl : List PO) : spU2.y Y f ps hl = Pm.Spec.y (((((spU1.one 57 glValid).one 47 glHolds).one 48 glLens).one 92 glEnd).one 53 glWorst) Y f ps hl := rfl
@[go_sem] theorem spU2_fz (f : FuncId) : spU2.fz f = Pm.Spec.fz (((((spU1.one 57 glValid).one 47 glHolds).one 48 glLens).one 92 glEnd).one 53 glWorst) f := rfl
@[go_sem] theorem spU2_fr (f : FuncId) : spU2.fr f = Pm.Spec.fr (((((spU1.one 57 glValid).one 47 glHolds).one 48 glLens).one 92 glEnd).one 53 glWorst) f := rfl
@[go_sem] theorem spU2_yf (f : FuncId) : spU2.yf f = Pm.Spec.yf (((((spU1.one 57 glValid).one 47 glHolds).one 48 glLens).one 92 glEnd).one 53 glWorst) f := rfl
@[go_sem] theorem spU2_mu (t : TypeId) : spU2.mu t = Pm.Spec.mu (((((spU1.one 57 glValid).one 47 glHolds).one 48 glLens).one 92 glEnd).one 53 glWorst) t := rfl
@[go_sem] theorem spU2_nf (t : TypeId) : spU2.nf t = Pm.Spec.nf (((((spU1.one 57 glValid).one 47 glHolds).one 48 glLens).one 92 glEnd).one 53 glWorst) t := rfl
theorem spU2_ok : SpecOk Try.prog spU2 := Spec.one_ok glWorst_ok (Spec.one_ok glEnd_ok (Spec.one_ok glLens_ok (Spec.one_ok glHolds_ok (Spec.one_ok glValid_ok spU1_ok))))
theorem gIsWish_c (w : Want) : PCalls Try.prog 50 [w.t] (.bool (wantOk w)) := by
  refine pcalls_by Try.mixes spU2_ok (fn := Try.f50) Try.func50 rfl (by kernel_rfl) (by show 1 ≤ _; decide) ?_
  simp (decide := true) (maxSteps := 4000000) only [go_sem, Nat.reduceAdd, Nat.reduceSub, Nat.reduceMul, Nat.reduceDiv, Nat.reduceMod, Nat.reduceLT, Nat.reduceLeDiff, Nat.reduceEqDiff, Nat.reduceBEq, Nat.reduceBNe, Nat.reduceGT, Int.reduceAdd, Int.reduceSub, Int.reduceMul, Int.reduceNeg, Int.reduceLT, Int.reduceLE, Int.reduceEq, Int.reduceNe, Int.reduceBEq, Int.reduceBNe, Int.reduceToNat, Int.reduceGT, Int.reduceGE, ↓reduceIte, decide_true, decide_false, eq_self, Nat.mul_one, Nat.zero_mul, Nat.one_mul, Int.le_refl, Nat.le_refl, Int.cast_ofNat_Int, Try.f50, Want.t, wantOk]
theorem gGood_c (x : Sn) (w : Want) (h1 : -4000000000000000000 ≤ x.c.lo) (h2 : x.c.lo ≤ 4000000000000000000) : PCalls Try.prog 51 [x.t, w.t] (.bool (goodB x w)) := by
  refine pcalls_by Try.mixes spU2_ok (fn := Try.f51) Try.func51 rfl (by kernel_rfl) (by show 2 ≤ _; decide) ?_
  have e : IntKind.i64.wrap (0 - x.c.lo) = -x.c.lo := by rw [wrap_in (by omega) (by omega)]; omega
  simp (decide := true) (maxSteps := 4000000) only [go_sem, Nat.reduceAdd, Nat.reduceSub, Nat.reduceMul, Nat.reduceDiv, Nat.reduceMod, Nat.reduceLT, Nat.reduceLeDiff, Nat.reduceEqDiff, Nat.reduceBEq, Nat.reduceBNe, Nat.reduceGT, Int.reduceAdd, Int.reduceSub, Int.reduceMul, Int.reduceNeg, Int.reduceLT, Int.reduceLE, Int.reduceEq, Int.reduceNe, Int.reduceBEq, Int.reduceBNe, Int.reduceToNat, Int.reduceGT, Int.reduceGE, ↓reduceIte, decide_true, decide_false, eq_self, Nat.mul_one, Nat.zero_mul, Nat.one_mul, Int.le_refl, Nat.le_refl, Int.cast_ofNat_Int, Try.f51, Want.t, Sn.t, goodB, worstS, e]
  rfl
noncomputable def glIsWish : List TV → Option TV
  | [.agg [.int .i64 a, .int .i64 b, .int .i64 c]] => some (.bool (wantOk ⟨⟨a, b⟩, c⟩))
  | _ => none
theorem glIsWish_ok : ∀ xs r, glIsWish xs = some r → PCalls Try.prog 50 xs r := by
  intro xs r h
  unfold glIsWish at h
  split at h
  · cases h; exact gIsWish_c ⟨⟨_, _⟩, _⟩
  · cases h
attribute [go_sem] glIsWish
noncomputable def glGood : List TV → Option TV
  | [.agg [.int .i64 a, .int .i64 b, .int .i64 c, .int .i64 d], .agg [.int .i64 e, .int .i64 f, .int .i64 g]] => if -4000000000000000000 ≤ c ∧ c ≤ 4000000000000000000 then some (.bool (goodB ⟨⟨a, b⟩, ⟨c, d⟩⟩ ⟨⟨e, f⟩, g⟩)) else none
  | _ => none
theorem glGood_ok : ∀ xs r, glGood xs = some r → PCalls Try.prog 51 xs r := by
  intro xs r h
  unfold glGood at h
  split at h
  · split at h
    · rename_i hc; cases h; exact gGood_c ⟨⟨_, _⟩, ⟨_, _⟩⟩ ⟨⟨_, _⟩, _⟩ hc.1 hc.2
    · cases h
  · cases h
attribute [go_sem] glGood
noncomputable def spU3 : Pm.Spec := (spU2.one 50 glIsWish).one 51 glGood
@[go_sem] theorem spU3_p (f : FuncId) (xs : List TV) : spU3.p f xs = Pm.Spec.p ((spU2.one 50 glIsWish).one 51 glGood) f xs := rfl
@[go_sem] theorem spU3_h (f : FuncId) (ps : List PV) (hl : List PO) : spU3.h f ps hl = Pm.Spec.h ((spU2.one 50 glIsWish).one 51 glGood) f ps hl := rfl
@[go_sem] theorem spU3_y (Y : Pm.YS) (f : FuncId) (ps : List PV) (hl : List PO) : spU3.y Y f ps hl = Pm.Spec.y ((spU2.one 50 glIsWish).one 51 glGood) Y f ps hl := rfl
@[go_sem] theorem spU3_fz (f : FuncId) : spU3.fz f = Pm.Spec.fz ((spU2.one 50 glIsWish).one 51 glGood) f := rfl
@[go_sem] theorem spU3_fr (f : FuncId) : spU3.fr f = Pm.Spec.fr ((spU2.one 50 glIsWish).one 51 glGood) f := rfl
@[go_sem] theorem spU3_yf (f : FuncId) : spU3.yf f = Pm.Spec.yf ((spU2.one 50 glIsWish).one 51 glGood) f := rfl
@[go_sem] theorem spU3_mu (t : TypeId) : spU3.mu t = Pm.Spec.mu ((spU2.one 50 glIsWish).one 51 glGood) t := rfl
@[go_sem] theorem spU3_nf (t : TypeId) : spU3.nf t = Pm.Spec.nf ((spU2.one 50 glIsWish).one 51 glGood) t := rfl
theorem spU3_ok : SpecOk Try.prog spU3 := Spec.one_ok glGood_ok (Spec.one_ok glIsWish_ok spU2_ok)

end Go.Proofs.Ytadkjjnnnkfalaa.Gl
