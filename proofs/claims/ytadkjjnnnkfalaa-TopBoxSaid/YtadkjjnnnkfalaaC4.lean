/- What the claim leans on, text 4. -/
import Derived.Test.YtadkjjnnnkfalaaRows
import Derived.Test.YtadkjjnnnkfalaaC3
set_option linter.unusedSimpArgs false
set_option linter.unusedVariables false

/- Part Ty. -/
namespace Go.Proofs.Ytadkjjnnnkfalaa
open Go.Pm
@[go_sem] theorem Try.agg1 : aggO Try.prog 1 = some false := by kernel_rfl
@[go_sem] theorem Try.pln1 : plainO Try.prog 1 = some true := by kernel_rfl
@[go_sem] theorem Try.sz1 : szO Try.prog 1 = some 1 := by kernel_rfl
@[go_sem] theorem Try.zero1 : zeroL Try.prog 1 = some [.nilFn] := by kernel_rfl
@[go_sem] theorem Try.small1 : smallO Try.prog 1 = some (1, 8) := by kernel_rfl
@[go_sem] theorem Try.zt1 : zeroT Try.prog 1 = some (.nilFn) := by kernel_rfl
@[go_sem] theorem Try.agg2 : aggO Try.prog 2 = some false := by kernel_rfl
@[go_sem] theorem Try.pln2 : plainO Try.prog 2 = some true := by kernel_rfl
@[go_sem] theorem Try.sz2 : szO Try.prog 2 = some 1 := by kernel_rfl
@[go_sem] theorem Try.zero2 : zeroL Try.prog 2 = some [.int .i64 0] := by kernel_rfl
@[go_sem] theorem Try.small2 : smallO Try.prog 2 = some (1, 8) := by kernel_rfl
@[go_sem] theorem Try.zt2 : zeroT Try.prog 2 = some (.int .i64 0) := by kernel_rfl
@[go_sem] theorem Try.knd2 : kindO Try.prog 2 = some .i64 := by kernel_rfl
@[go_sem] theorem Try.und2 : Program.underlying Try.prog 2 = some (.int .i64) := by kernel_rfl
@[go_sem] theorem Try.agg3 : aggO Try.prog 3 = some false := by kernel_rfl
@[go_sem] theorem Try.pln3 : plainO Try.prog 3 = some true := by kernel_rfl
@[go_sem] theorem Try.sz3 : szO Try.prog 3 = some 1 := by kernel_rfl
@[go_sem] theorem Try.zero3 : zeroL Try.prog 3 = some [.int .i64 0] := by kernel_rfl
@[go_sem] theorem Try.small3 : smallO Try.prog 3 = some (1, 8) := by kernel_rfl
@[go_sem] theorem Try.zt3 : zeroT Try.prog 3 = some (.int .i64 0) := by kernel_rfl
@[go_sem] theorem Try.knd3 : kindO Try.prog 3 = some .i64 := by kernel_rfl
@[go_sem] theorem Try.und3 : Program.underlying Try.prog 3 = some (.int .i64) := by kernel_rfl
@[go_sem] theorem Try.agg4 : aggO Try.prog 4 = some false := by kernel_rfl
@[go_sem] theorem Try.pln4 : plainO Try.prog 4 = some true := by kernel_rfl
@[go_sem] theorem Try.sz4 : szO Try.prog 4 = some 1 := by kernel_rfl
@[go_sem] theorem Try.zero4 : zeroL Try.prog 4 = some [.bool false] := by kernel_rfl
@[go_sem] theorem Try.small4 : smallO Try.prog 4 = some (1, 1) := by kernel_rfl
@[go_sem] theorem Try.zt4 : zeroT Try.prog 4 = some (.bool false) := by kernel_rfl
@[go_sem] theorem Try.eq4 (a b : Bool) : eqT Try.prog 20 4 (.bool a) (.bool b) = some (a == b) := by kernel_rfl
@[go_sem] theorem Try.und4 : Program.underlying Try.prog 4 = some .bool := by kernel_rfl
@[go_sem] theorem Try.agg5 : aggO Try.prog 5 = some false := by kernel_rfl
@[go_sem] theorem Try.pln5 : plainO Try.prog 5 = some true := by kernel_rfl
@[go_sem] theorem Try.sz5 : szO Try.prog 5 = some 1 := by kernel_rfl
@[go_sem] theorem Try.zero5 : zeroL Try.prog 5 = some [.int .u8 0] := by kernel_rfl
@[go_sem] theorem Try.small5 : smallO Try.prog 5 = some (1, 1) := by kernel_rfl
@[go_sem] theorem Try.zt5 : zeroT Try.prog 5 = some (.int .u8 0) := by kernel_rfl
@[go_sem] theorem Try.knd5 : kindO Try.prog 5 = some .u8 := by kernel_rfl
@[go_sem] theorem Try.und5 : Program.underlying Try.prog 5 = some (.int .u8) := by kernel_rfl
@[go_sem] theorem Try.agg7 : aggO Try.prog 7 = some true := by kernel_rfl
@[go_sem] theorem Try.pln7 : plainO Try.prog 7 = some true := by kernel_rfl
@[go_sem] theorem Try.sz7 : szO Try.prog 7 = some 4 := by kernel_rfl
@[go_sem] theorem Try.zero7 : zeroL Try.prog 7 = some [.int .i64 0, .int .i64 0, .bool false, .int .u8 0] := by kernel_rfl
@[go_sem] theorem Try.small7 : smallO Try.prog 7 = some (4, 24) := by kernel_rfl
@[go_sem] theorem Try.zt7 : zeroT Try.prog 7 = some (.agg [.int .i64 0, .int .i64 0, .bool false, .int .u8 0]) := by kernel_rfl
@[go_sem] theorem Try.fld7_0 : fieldO Try.prog 7 0 = some (0, 2) := by kernel_rfl
@[go_sem] theorem Try.fld7_1 : fieldO Try.prog 7 1 = some (1, 3) := by kernel_rfl
@[go_sem] theorem Try.fld7_2 : fieldO Try.prog 7 2 = some (2, 4) := by kernel_rfl
@[go_sem] theorem Try.fld7_3 : fieldO Try.prog 7 3 = some (3, 6) := by kernel_rfl
@[go_sem] theorem Try.bld7 (parts : List (Nat × TV)) : buildO Try.prog 7 parts = (fillT (fun i => ([(0, 1), (1, 1), (2, 1), (3, 1)] : List (Nat × Nat))[i]?) [.int .i64 0, .int .i64 0, .bool false, .int .u8 0] parts).map .agg := by kernel_rfl
@[go_sem] theorem Try.eqg7 : Program.eqGuardType Try.prog (Program.depth Try.prog) 7 = false := by kernel_rfl
@[go_sem] theorem Try.agg9 : aggO Try.prog 9 = some false := by kernel_rfl
@[go_sem] theorem Try.pln9 : plainO Try.prog 9 = some true := by kernel_rfl
@[go_sem] theorem Try.sz9 : szO Try.prog 9 = some 1 := by kernel_rfl
@[go_sem] theorem Try.zero9 : zeroL Try.prog 9 = some [.str ⟨#[]⟩] := by kernel_rfl
@[go_sem] theorem Try.small9 : smallO Try.prog 9 = some (1, 16) := by kernel_rfl
@[go_sem] theorem Try.zt9 : zeroT Try.prog 9 = some (.str ⟨#[]⟩) := by kernel_rfl
@[go_sem] theorem Try.eq9 (a b : ByteArray) : eqT Try.prog 20 9 (.str a) (.str b) = some (a.toList == b.toList) := by kernel_rfl
@[go_sem] theorem Try.und9 : Program.underlying Try.prog 9 = some .string := by kernel_rfl
@[go_sem] theorem Try.agg12 : aggO Try.prog 12 = some false := by kernel_rfl
@[go_sem] theorem Try.pln12 : plainO Try.prog 12 = some true := by kernel_rfl
@[go_sem] theorem Try.sz12 : szO Try.prog 12 = some 1 := by kernel_rfl
@[go_sem] theorem Try.zero12 : zeroL Try.prog 12 = some [.int .u64 0] := by kernel_rfl
@[go_sem] theorem Try.small12 : smallO Try.prog 12 = some (1, 8) := by kernel_rfl
@[go_sem] theorem Try.zt12 : zeroT Try.prog 12 = some (.int .u64 0) := by kernel_rfl
@[go_sem] theorem Try.knd12 : kindO Try.prog 12 = some .u64 := by kernel_rfl
@[go_sem] theorem Try.und12 : Program.underlying Try.prog 12 = some (.int .u64) := by kernel_rfl
@[go_sem] theorem Try.agg13 : aggO Try.prog 13 = some true := by kernel_rfl
@[go_sem] theorem Try.pln13 : plainO Try.prog 13 = some true := by kernel_rfl
@[go_sem] theorem Try.sz13 : szO Try.prog 13 = some 2 := by kernel_rfl
@[go_sem] theorem Try.zero13 : zeroL Try.prog 13 = some [.str ⟨#[]⟩, .int .u64 0] := by kernel_rfl
@[go_sem] theorem Try.small13 : smallO Try.prog 13 = some (2, 24) := by kernel_rfl
@[go_sem] theorem Try.zt13 : zeroT Try.prog 13 = some (.agg [.str ⟨#[]⟩, .int .u64 0]) := by kernel_rfl
@[go_sem] theorem Try.fld13_0 : fieldO Try.prog 13 0 = some (0, 9) := by kernel_rfl
@[go_sem] theorem Try.fld13_1 : fieldO Try.prog 13 1 = some (1, 12) := by kernel_rfl
@[go_sem] theorem Try.bld13 (parts : List (Nat × TV)) : buildO Try.prog 13 parts = (fillT (fun i => ([(0, 1), (1, 1)] : List (Nat × Nat))[i]?) [.str ⟨#[]⟩, .int .u64 0] parts).map .agg := by kernel_rfl
@[go_sem] theorem Try.eqg13 : Program.eqGuardType Try.prog (Program.depth Try.prog) 13 = false := by kernel_rfl
@[go_sem] theorem Try.agg15 : aggO Try.prog 15 = some false := by kernel_rfl
@[go_sem] theorem Try.pln15 : plainO Try.prog 15 = some true := by kernel_rfl
@[go_sem] theorem Try.sz15 : szO Try.prog 15 = some 1 := by kernel_rfl
@[go_sem] theorem Try.zero15 : zeroL Try.prog 15 = some [.nilPtr] := by kernel_rfl
@[go_sem] theorem Try.small15 : smallO Try.prog 15 = some (1, 8) := by kernel_rfl
@[go_sem] theorem Try.zt15 : zeroT Try.prog 15 = some (.nilPtr) := by kernel_rfl
@[go_sem] theorem Try.agg16 : aggO Try.prog 16 = some false := by kernel_rfl
@[go_sem] theorem Try.pln16 : plainO Try.prog 16 = some true := by kernel_rfl
@[go_sem] theorem Try.sz16 : szO Try.prog 16 = some 1 := by kernel_rfl
@[go_sem] theorem Try.zero16 : zeroL Try.prog 16 = some [.nilPtr] := by kernel_rfl
@[go_sem] theorem Try.small16 : smallO Try.prog 16 = some (1, 8) := by kernel_rfl
@[go_sem] theorem Try.zt16 : zeroT Try.prog 16 = some (.nilPtr) := by kernel_rfl
@[go_sem] theorem Try.agg17 : aggO Try.prog 17 = some false := by kernel_rfl
@[go_sem] theorem Try.pln17 : plainO Try.prog 17 = some true := by kernel_rfl
@[go_sem] theorem Try.sz17 : szO Try.prog 17 = some 1 := by kernel_rfl
@[go_sem] theorem Try.zero17 : zeroL Try.prog 17 = some [.nilPtr] := by kernel_rfl
@[go_sem] theorem Try.small17 : smallO Try.prog 17 = some (1, 8) := by kernel_rfl
@[go_sem] theorem Try.zt17 : zeroT Try.prog 17 = some (.nilPtr) := by kernel_rfl
@[go_sem] theorem Try.agg18 : aggO Try.prog 18 = some true := by kernel_rfl
@[go_sem] theorem Try.pln18 : plainO Try.prog 18 = some true := by kernel_rfl
@[go_sem] theorem Try.sz18 : szO Try.prog 18 = some 1 := by kernel_rfl
@[go_sem] theorem Try.zero18 : zeroL Try.prog 18 = some [.nilPtr] := by kernel_rfl
@[go_sem] theorem Try.small18 : smallO Try.prog 18 = some (1, 8) := by kernel_rfl
@[go_sem] theorem Try.zt18 : zeroT Try.prog 18 = some (.agg [.nilPtr]) := by kernel_rfl
@[go_sem] theorem Try.fld18_0 : fieldO Try.prog 18 0 = some (0, 17) := by kernel_rfl
@[go_sem] theorem Try.bld18 (parts : List (Nat × TV)) : buildO Try.prog 18 parts = (fillT (fun i => ([(0, 1)] : List (Nat × Nat))[i]?) [.nilPtr] parts).map .agg := by kernel_rfl
@[go_sem] theorem Try.bldp18 (parts : List (Nat × PV)) : buildP Try.prog 18 parts = fillP (fun i => ([(0, 1)] : List (Nat × Nat))[i]?) [.t (.nilPtr)] parts := by kernel_rfl
@[go_sem] theorem Try.eqg18 : Program.eqGuardType Try.prog (Program.depth Try.prog) 18 = false := by kernel_rfl
@[go_sem] theorem Try.agg20 : aggO Try.prog 20 = some false := by kernel_rfl
@[go_sem] theorem Try.pln20 : plainO Try.prog 20 = some false := by kernel_rfl
@[go_sem] theorem Try.sz20 : szO Try.prog 20 = some 1 := by kernel_rfl
@[go_sem] theorem Try.zero20 : zeroL Try.prog 20 = some [.nilIf] := by kernel_rfl
@[go_sem] theorem Try.small20 : smallO Try.prog 20 = some (1, 16) := by kernel_rfl
@[go_sem] theorem Try.zt20 : zeroT Try.prog 20 = some (.nilIf) := by kernel_rfl
@[go_sem] theorem Try.agg21 : aggO Try.prog 21 = some false := by kernel_rfl
@[go_sem] theorem Try.pln21 : plainO Try.prog 21 = some true := by kernel_rfl
@[go_sem] theorem Try.sz21 : szO Try.prog 21 = some 1 := by kernel_rfl
@[go_sem] theorem Try.zero21 : zeroL Try.prog 21 = some [.int .i32 0] := by kernel_rfl
@[go_sem] theorem Try.small21 : smallO Try.prog 21 = some (1, 4) := by kernel_rfl
@[go_sem] theorem Try.zt21 : zeroT Try.prog 21 = some (.int .i32 0) := by kernel_rfl
@[go_sem] theorem Try.knd21 : kindO Try.prog 21 = some .i32 := by kernel_rfl
@[go_sem] theorem Try.und21 : Program.underlying Try.prog 21 = some (.int .i32) := by kernel_rfl
@[go_sem] theorem Try.agg22 : aggO Try.prog 22 = some false := by kernel_rfl
@[go_sem] theorem Try.pln22 : plainO Try.prog 22 = some true := by kernel_rfl
@[go_sem] theorem Try.sz22 : szO Try.prog 22 = some 1 := by kernel_rfl
@[go_sem] theorem Try.zero22 : zeroL Try.prog 22 = some [.nilSl] := by kernel_rfl
@[go_sem] theorem Try.small22 : smallO Try.prog 22 = some (1, 24) := by kernel_rfl
@[go_sem] theorem Try.zt22 : zeroT Try.prog 22 = some (.nilSl) := by kernel_rfl
@[go_sem] theorem Try.eqn22 : eqT Try.prog 20 22 .nilSl .nilSl = some true := by kernel_rfl
@[go_sem] theorem Try.eqs22 (cs : List TV) (n : Nat) (f : Bool) : eqT Try.prog 20 22 (.sl cs n f) .nilSl = some false := by kernel_rfl
@[go_sem] theorem Try.eqt22 (cs : List TV) (n : Nat) (f : Bool) : eqT Try.prog 20 22 .nilSl (.sl cs n f) = some false := by kernel_rfl
@[go_sem] theorem Try.sl22 : sliceO Try.prog 22 = some 32 := by kernel_rfl
@[go_sem] theorem Try.und22 : Program.underlying Try.prog 22 = some (.slice 32) := by kernel_rfl
@[go_sem] theorem Try.agg23 : aggO Try.prog 23 = some false := by kernel_rfl
@[go_sem] theorem Try.pln23 : plainO Try.prog 23 = some true := by kernel_rfl
@[go_sem] theorem Try.sz23 : szO Try.prog 23 = some 1 := by kernel_rfl
@[go_sem] theorem Try.zero23 : zeroL Try.prog 23 = some [.nilSl] := by kernel_rfl
@[go_sem] theorem Try.small23 : smallO Try.prog 23 = some (1, 24) := by kernel_rfl
@[go_sem] theorem Try.zt23 : zeroT Try.prog 23 = some (.nilSl) := by kernel_rfl
@[go_sem] theorem Try.eqn23 : eqT Try.prog 20 23 .nilSl .nilSl = some true := by kernel_rfl
@[go_sem] theorem Try.eqs23 (cs : List TV) (n : Nat) (f : Bool) : eqT Try.prog 20 23 (.sl cs n f) .nilSl = some false := by kernel_rfl
@[go_sem] theorem Try.eqt23 (cs : List TV) (n : Nat) (f : Bool) : eqT Try.prog 20 23 .nilSl (.sl cs n f) = some false := by kernel_rfl
@[go_sem] theorem Try.sl23 : sliceO Try.prog 23 = some 29 := by kernel_rfl
@[go_sem] theorem Try.und23 : Program.underlying Try.prog 23 = some (.slice 29) := by kernel_rfl
@[go_sem] theorem Try.agg24 : aggO Try.prog 24 = some true := by kernel_rfl
@[go_sem] theorem Try.pln24 : plainO Try.prog 24 = some true := by kernel_rfl
@[go_sem] theorem Try.sz24 : szO Try.prog 24 = some 2 := by kernel_rfl
@[go_sem] theorem Try.zero24 : zeroL Try.prog 24 = some [.nilSl, .nilSl] := by kernel_rfl
@[go_sem] theorem Try.small24 : smallO Try.prog 24 = some (2, 48) := by kernel_rfl
@[go_sem] theorem Try.zt24 : zeroT Try.prog 24 = some (.agg [.nilSl, .nilSl]) := by kernel_rfl
@[go_sem] theorem Try.fld24_0 : fieldO Try.prog 24 0 = some (0, 22) := by kernel_rfl
@[go_sem] theorem Try.fld24_1 : fieldO Try.prog 24 1 = some (1, 23) := by kernel_rfl
@[go_sem] theorem Try.bld24 (parts : List (Nat × TV)) : buildO Try.prog 24 parts = (fillT (fun i => ([(0, 1), (1, 1)] : List (Nat × Nat))[i]?) [.nilSl, .nilSl] parts).map .agg := by kernel_rfl
@[go_sem] theorem Try.bldp24 (parts : List (Nat × PV)) : buildP Try.prog 24 parts = fillP (fun i => ([(0, 1), (1, 1)] : List (Nat × Nat))[i]?) [.t (.nilSl), .t (.nilSl)] parts := by kernel_rfl
@[go_sem] theorem Try.eqg24 : Program.eqGuardType Try.prog (Program.depth Try.prog) 24 = false := by kernel_rfl
@[go_sem] theorem Try.agg25 : aggO Try.prog 25 = some true := by kernel_rfl
@[go_sem] theorem Try.pln25 : plainO Try.prog 25 = some true := by kernel_rfl
@[go_sem] theorem Try.sz25 : szO Try.prog 25 = some 2 := by kernel_rfl
@[go_sem] theorem Try.zero25 : zeroL Try.prog 25 = some [.nilSl, .nilSl] := by kernel_rfl
@[go_sem] theorem Try.small25 : smallO Try.prog 25 = some (2, 48) := by kernel_rfl
@[go_sem] theorem Try.zt25 : zeroT Try.prog 25 = some (.agg [.nilSl, .nilSl]) := by kernel_rfl
@[go_sem] theorem Try.fld25_0 : fieldO Try.prog 25 0 = some (0, 22) := by kernel_rfl
@[go_sem] theorem Try.fld25_1 : fieldO Try.prog 25 1 = some (1, 23) := by kernel_rfl
@[go_sem] theorem Try.bld25 (parts : List (Nat × TV)) : buildO Try.prog 25 parts = (fillT (fun i => ([(0, 1), (1, 1)] : List (Nat × Nat))[i]?) [.nilSl, .nilSl] parts).map .agg := by kernel_rfl
@[go_sem] theorem Try.bldp25 (parts : List (Nat × PV)) : buildP Try.prog 25 parts = fillP (fun i => ([(0, 1), (1, 1)] : List (Nat × Nat))[i]?) [.t (.nilSl), .t (.nilSl)] parts := by kernel_rfl
@[go_sem] theorem Try.eqg25 : Program.eqGuardType Try.prog (Program.depth Try.prog) 25 = false := by kernel_rfl
@[go_sem] theorem Try.agg26 : aggO Try.prog 26 = some false := by kernel_rfl
@[go_sem] theorem Try.pln26 : plainO Try.prog 26 = some true := by kernel_rfl
@[go_sem] theorem Try.sz26 : szO Try.prog 26 = some 1 := by kernel_rfl
@[go_sem] theorem Try.zero26 : zeroL Try.prog 26 = some [.nilFn] := by kernel_rfl
@[go_sem] theorem Try.small26 : smallO Try.prog 26 = some (1, 8) := by kernel_rfl
@[go_sem] theorem Try.zt26 : zeroT Try.prog 26 = some (.nilFn) := by kernel_rfl
@[go_sem] theorem Try.agg27 : aggO Try.prog 27 = some false := by kernel_rfl
@[go_sem] theorem Try.pln27 : plainO Try.prog 27 = some true := by kernel_rfl
@[go_sem] theorem Try.sz27 : szO Try.prog 27 = some 1 := by kernel_rfl
@[go_sem] theorem Try.zero27 : zeroL Try.prog 27 = some [.nilSl] := by kernel_rfl
@[go_sem] theorem Try.small27 : smallO Try.prog 27 = some (1, 24) := by kernel_rfl
@[go_sem] theorem Try.zt27 : zeroT Try.prog 27 = some (.nilSl) := by kernel_rfl
@[go_sem] theorem Try.eqn27 : eqT Try.prog 20 27 .nilSl .nilSl = some true := by kernel_rfl
@[go_sem] theorem Try.eqs27 (cs : List TV) (n : Nat) (f : Bool) : eqT Try.prog 20 27 (.sl cs n f) .nilSl = some false := by kernel_rfl
@[go_sem] theorem Try.eqt27 (cs : List TV) (n : Nat) (f : Bool) : eqT Try.prog 20 27 .nilSl (.sl cs n f) = some false := by kernel_rfl
@[go_sem] theorem Try.sl27 : sliceO Try.prog 27 = some 25 := by kernel_rfl
@[go_sem] theorem Try.und27 : Program.underlying Try.prog 27 = some (.slice 25) := by kernel_rfl
@[go_sem] theorem Try.agg28 : aggO Try.prog 28 = some true := by kernel_rfl
@[go_sem] theorem Try.pln28 : plainO Try.prog 28 = some true := by kernel_rfl
@[go_sem] theorem Try.sz28 : szO Try.prog 28 = some 2 := by kernel_rfl
@[go_sem] theorem Try.zero28 : zeroL Try.prog 28 = some [.int .i64 0, .int .i64 0] := by kernel_rfl
@[go_sem] theorem Try.small28 : smallO Try.prog 28 = some (2, 16) := by kernel_rfl
@[go_sem] theorem Try.zt28 : zeroT Try.prog 28 = some (.agg [.int .i64 0, .int .i64 0]) := by kernel_rfl
@[go_sem] theorem Try.fld28_0 : fieldO Try.prog 28 0 = some (0, 3) := by kernel_rfl
@[go_sem] theorem Try.fld28_1 : fieldO Try.prog 28 1 = some (1, 3) := by kernel_rfl
@[go_sem] theorem Try.bld28 (parts : List (Nat × TV)) : buildO Try.prog 28 parts = (fillT (fun i => ([(0, 1), (1, 1)] : List (Nat × Nat))[i]?) [.int .i64 0, .int .i64 0] parts).map .agg := by kernel_rfl
@[go_sem] theorem Try.eqg28 : Program.eqGuardType Try.prog (Program.depth Try.prog) 28 = false := by kernel_rfl
@[go_sem] theorem Try.agg29 : aggO Try.prog 29 = some true := by kernel_rfl
@[go_sem] theorem Try.pln29 : plainO Try.prog 29 = some true := by kernel_rfl
@[go_sem] theorem Try.sz29 : szO Try.prog 29 = some 2 := by kernel_rfl
@[go_sem] theorem Try.zero29 : zeroL Try.prog 29 = some [.int .i64 0, .int .i64 0] := by kernel_rfl
@[go_sem] theorem Try.small29 : smallO Try.prog 29 = some (2, 16) := by kernel_rfl
@[go_sem] theorem Try.zt29 : zeroT Try.prog 29 = some (.agg [.int .i64 0, .int .i64 0]) := by kernel_rfl
@[go_sem] theorem Try.fld29_0 : fieldO Try.prog 29 0 = some (0, 3) := by kernel_rfl
@[go_sem] theorem Try.fld29_1 : fieldO Try.prog 29 1 = some (1, 3) := by kernel_rfl
@[go_sem] theorem Try.bld29 (parts : List (Nat × TV)) : buildO Try.prog 29 parts = (fillT (fun i => ([(0, 1), (1, 1)] : List (Nat × Nat))[i]?) [.int .i64 0, .int .i64 0] parts).map .agg := by kernel_rfl
@[go_sem] theorem Try.eq29 (a0 b0 : Int) (a1 b1 : Int) : eqT Try.prog 20 29 (.agg [.int .i64 a0, .int .i64 a1]) (.agg [.int .i64 b0, .int .i64 b1]) = some ((a0 == b0) && ((a1 == b1) && true)) := by kernel_rfl
@[go_sem] theorem Try.eqg29 : Program.eqGuardType Try.prog (Program.depth Try.prog) 29 = false := by kernel_rfl
@[go_sem] theorem Try.agg30 : aggO Try.prog 30 = some false := by kernel_rfl
@[go_sem] theorem Try.pln30 : plainO Try.prog 30 = some true := by kernel_rfl
@[go_sem] theorem Try.sz30 : szO Try.prog 30 = some 1 := by kernel_rfl
@[go_sem] theorem Try.zero30 : zeroL Try.prog 30 = some [.nilFn] := by kernel_rfl
@[go_sem] theorem Try.small30 : smallO Try.prog 30 = some (1, 8) := by kernel_rfl
@[go_sem] theorem Try.zt30 : zeroT Try.prog 30 = some (.nilFn) := by kernel_rfl
@[go_sem] theorem Try.agg31 : aggO Try.prog 31 = some true := by kernel_rfl
@[go_sem] theorem Try.pln31 : plainO Try.prog 31 = some true := by kernel_rfl
@[go_sem] theorem Try.sz31 : szO Try.prog 31 = some 5 := by kernel_rfl
@[go_sem] theorem Try.zero31 : zeroL Try.prog 31 = some [.int .i64 0, .int .i64 0, .int .i64 0, .int .i64 0, .int .i64 0] := by kernel_rfl
@[go_sem] theorem Try.small31 : smallO Try.prog 31 = some (5, 40) := by kernel_rfl
@[go_sem] theorem Try.zt31 : zeroT Try.prog 31 = some (.agg [.int .i64 0, .int .i64 0, .int .i64 0, .int .i64 0, .int .i64 0]) := by kernel_rfl
@[go_sem] theorem Try.fld31_0 : fieldO Try.prog 31 0 = some (0, 29) := by kernel_rfl
@[go_sem] theorem Try.fld31_1 : fieldO Try.prog 31 1 = some (2, 29) := by kernel_rfl
@[go_sem] theorem Try.fld31_2 : fieldO Try.prog 31 2 = some (4, 3) := by kernel_rfl
@[go_sem] theorem Try.bld31 (parts : List (Nat × TV)) : buildO Try.prog 31 parts = (fillT (fun i => ([(0, 2), (2, 2), (4, 1)] : List (Nat × Nat))[i]?) [.int .i64 0, .int .i64 0, .int .i64 0, .int .i64 0, .int .i64 0] parts).map .agg := by kernel_rfl
@[go_sem] theorem Try.eqg31 : Program.eqGuardType Try.prog (Program.depth Try.prog) 31 = false := by kernel_rfl
@[go_sem] theorem Try.agg32 : aggO Try.prog 32 = some true := by kernel_rfl
@[go_sem] theorem Try.pln32 : plainO Try.prog 32 = some true := by kernel_rfl
@[go_sem] theorem Try.sz32 : szO Try.prog 32 = some 5 := by kernel_rfl
@[go_sem] theorem Try.zero32 : zeroL Try.prog 32 = some [.int .i64 0, .int .i64 0, .int .i64 0, .int .i64 0, .int .i64 0] := by kernel_rfl
@[go_sem] theorem Try.small32 : smallO Try.prog 32 = some (5, 40) := by kernel_rfl
@[go_sem] theorem Try.zt32 : zeroT Try.prog 32 = some (.agg [.int .i64 0, .int .i64 0, .int .i64 0, .int .i64 0, .int .i64 0]) := by kernel_rfl
@[go_sem] theorem Try.fld32_0 : fieldO Try.prog 32 0 = some (0, 29) := by kernel_rfl
@[go_sem] theorem Try.fld32_1 : fieldO Try.prog 32 1 = some (2, 29) := by kernel_rfl
@[go_sem] theorem Try.fld32_2 : fieldO Try.prog 32 2 = some (4, 3) := by kernel_rfl
@[go_sem] theorem Try.bld32 (parts : List (Nat × TV)) : buildO Try.prog 32 parts = (fillT (fun i => ([(0, 2), (2, 2), (4, 1)] : List (Nat × Nat))[i]?) [.int .i64 0, .int .i64 0, .int .i64 0, .int .i64 0, .int .i64 0] parts).map .agg := by kernel_rfl
@[go_sem] theorem Try.eq32 (a0 b0 : Int) (a1 b1 : Int) (a2 b2 : Int) (a3 b3 : Int) (a4 b4 : Int) : eqT Try.prog 20 32 (.agg [.int .i64 a0, .int .i64 a1, .int .i64 a2, .int .i64 a3, .int .i64 a4]) (.agg [.int .i64 b0, .int .i64 b1, .int .i64 b2, .int .i64 b3, .int .i64 b4]) = some (((a0 == b0) && ((a1 == b1) && true)) && (((a2 == b2) && ((a3 == b3) && true)) && ((a4 == b4) && true))) := by kernel_rfl
@[go_sem] theorem Try.eqg32 : Program.eqGuardType Try.prog (Program.depth Try.prog) 32 = false := by kernel_rfl
@[go_sem] theorem Try.agg33 : aggO Try.prog 33 = some false := by kernel_rfl
@[go_sem] theorem Try.pln33 : plainO Try.prog 33 = some true := by kernel_rfl
@[go_sem] theorem Try.sz33 : szO Try.prog 33 = some 1 := by kernel_rfl
@[go_sem] theorem Try.zero33 : zeroL Try.prog 33 = some [.int .i64 0] := by kernel_rfl
@[go_sem] theorem Try.small33 : smallO Try.prog 33 = some (1, 8) := by kernel_rfl
@[go_sem] theorem Try.zt33 : zeroT Try.prog 33 = some (.int .i64 0) := by kernel_rfl
@[go_sem] theorem Try.knd33 : kindO Try.prog 33 = some .i64 := by kernel_rfl
@[go_sem] theorem Try.und33 : Program.underlying Try.prog 33 = some (.int .i64) := by kernel_rfl
@[go_sem] theorem Try.agg35 : aggO Try.prog 35 = some false := by kernel_rfl
@[go_sem] theorem Try.pln35 : plainO Try.prog 35 = some true := by kernel_rfl
@[go_sem] theorem Try.sz35 : szO Try.prog 35 = some 1 := by kernel_rfl
@[go_sem] theorem Try.zero35 : zeroL Try.prog 35 = some [.nilFn] := by kernel_rfl
@[go_sem] theorem Try.small35 : smallO Try.prog 35 = some (1, 8) := by kernel_rfl
@[go_sem] theorem Try.zt35 : zeroT Try.prog 35 = some (.nilFn) := by kernel_rfl
@[go_sem] theorem Try.agg36 : aggO Try.prog 36 = some true := by kernel_rfl
@[go_sem] theorem Try.pln36 : plainO Try.prog 36 = some true := by kernel_rfl
@[go_sem] theorem Try.sz36 : szO Try.prog 36 = some 3 := by kernel_rfl
@[go_sem] theorem Try.zero36 : zeroL Try.prog 36 = some [.int .i64 0, .int .i64 0, .int .i64 0] := by kernel_rfl
@[go_sem] theorem Try.small36 : smallO Try.prog 36 = some (3, 24) := by kernel_rfl
@[go_sem] theorem Try.zt36 : zeroT Try.prog 36 = some (.agg [.int .i64 0, .int .i64 0, .int .i64 0]) := by kernel_rfl
@[go_sem] theorem Try.bld36 (parts : List (Nat × TV)) : buildO Try.prog 36 parts = (fillT (fun i => some (i * 1, 1)) [.int .i64 0, .int .i64 0, .int .i64 0] parts).map .agg := by kernel_rfl
@[go_sem] theorem Try.eq36 (a0 b0 : Int) (a1 b1 : Int) (a2 b2 : Int) : eqT Try.prog 20 36 (.agg [.int .i64 a0, .int .i64 a1, .int .i64 a2]) (.agg [.int .i64 b0, .int .i64 b1, .int .i64 b2]) = some ((a0 == b0) && ((a1 == b1) && ((a2 == b2) && true))) := by kernel_rfl
@[go_sem] theorem Try.eqg36 : Program.eqGuardType Try.prog (Program.depth Try.prog) 36 = false := by kernel_rfl
@[go_sem] theorem Try.arr36 : arrayO Try.prog 36 = some (3, 3) := by kernel_rfl
@[go_sem] theorem Try.und36 : Program.underlying Try.prog 36 = some (.array 3 3) := by kernel_rfl
@[go_sem] theorem Try.agg37 : aggO Try.prog 37 = some true := by kernel_rfl
@[go_sem] theorem Try.pln37 : plainO Try.prog 37 = some true := by kernel_rfl
@[go_sem] theorem Try.sz37 : szO Try.prog 37 = some 5 := by kernel_rfl
@[go_sem] theorem Try.zero37 : zeroL Try.prog 37 = some [.int .i64 0, .int .i64 0, .int .i64 0, .int .i64 0, .int .i64 0] := by kernel_rfl
@[go_sem] theorem Try.small37 : smallO Try.prog 37 = some (5, 40) := by kernel_rfl
@[go_sem] theorem Try.zt37 : zeroT Try.prog 37 = some (.agg [.int .i64 0, .int .i64 0, .int .i64 0, .int .i64 0, .int .i64 0]) := by kernel_rfl
@[go_sem] theorem Try.fld37_0 : fieldO Try.prog 37 0 = some (0, 3) := by kernel_rfl
@[go_sem] theorem Try.fld37_1 : fieldO Try.prog 37 1 = some (1, 3) := by kernel_rfl
@[go_sem] theorem Try.fld37_2 : fieldO Try.prog 37 2 = some (2, 36) := by kernel_rfl
@[go_sem] theorem Try.bld37 (parts : List (Nat × TV)) : buildO Try.prog 37 parts = (fillT (fun i => ([(0, 1), (1, 1), (2, 3)] : List (Nat × Nat))[i]?) [.int .i64 0, .int .i64 0, .int .i64 0, .int .i64 0, .int .i64 0] parts).map .agg := by kernel_rfl
@[go_sem] theorem Try.eqg37 : Program.eqGuardType Try.prog (Program.depth Try.prog) 37 = false := by kernel_rfl
@[go_sem] theorem Try.agg38 : aggO Try.prog 38 = some true := by kernel_rfl
@[go_sem] theorem Try.pln38 : plainO Try.prog 38 = some true := by kernel_rfl
@[go_sem] theorem Try.sz38 : szO Try.prog 38 = some 5 := by kernel_rfl
@[go_sem] theorem Try.zero38 : zeroL Try.prog 38 = some [.int .i64 0, .int .i64 0, .int .i64 0, .int .i64 0, .int .i64 0] := by kernel_rfl
@[go_sem] theorem Try.small38 : smallO Try.prog 38 = some (5, 40) := by kernel_rfl
@[go_sem] theorem Try.zt38 : zeroT Try.prog 38 = some (.agg [.int .i64 0, .int .i64 0, .int .i64 0, .int .i64 0, .int .i64 0]) := by kernel_rfl
@[go_sem] theorem Try.fld38_0 : fieldO Try.prog 38 0 = some (0, 3) := by kernel_rfl
@[go_sem] theorem Try.fld38_1 : fieldO Try.prog 38 1 = some (1, 3) := by kernel_rfl
@[go_sem] theorem Try.fld38_2 : fieldO Try.prog 38 2 = some (2, 36) := by kernel_rfl
@[go_sem] theorem Try.bld38 (parts : List (Nat × TV)) : buildO Try.prog 38 parts = (fillT (fun i => ([(0, 1), (1, 1), (2, 3)] : List (Nat × Nat))[i]?) [.int .i64 0, .int .i64 0, .int .i64 0, .int .i64 0, .int .i64 0] parts).map .agg := by kernel_rfl
@[go_sem] theorem Try.eq38 (a0 b0 : Int) (a1 b1 : Int) (a2 b2 : Int) (a3 b3 : Int) (a4 b4 : Int) : eqT Try.prog 20 38 (.agg [.int .i64 a0, .int .i64 a1, .int .i64 a2, .int .i64 a3, .int .i64 a4]) (.agg [.int .i64 b0, .int .i64 b1, .int .i64 b2, .int .i64 b3, .int .i64 b4]) = some ((a0 == b0) && ((a1 == b1) && (((a2 == b2) && ((a3 == b3) && ((a4 == b4) && true))) && true))) := by kernel_rfl
@[go_sem] theorem Try.eqg38 : Program.eqGuardType Try.prog (Program.depth Try.prog) 38 = false := by kernel_rfl
@[go_sem] theorem Try.agg39 : aggO Try.prog 39 = some false := by kernel_rfl
@[go_sem] theorem Try.pln39 : plainO Try.prog 39 = some true := by kernel_rfl
@[go_sem] theorem Try.sz39 : szO Try.prog 39 = some 1 := by kernel_rfl
@[go_sem] theorem Try.zero39 : zeroL Try.prog 39 = some [.nilSl] := by kernel_rfl
@[go_sem] theorem Try.small39 : smallO Try.prog 39 = some (1, 24) := by kernel_rfl
@[go_sem] theorem Try.zt39 : zeroT Try.prog 39 = some (.nilSl) := by kernel_rfl
@[go_sem] theorem Try.eqn39 : eqT Try.prog 20 39 .nilSl .nilSl = some true := by kernel_rfl
@[go_sem] theorem Try.eqs39 (cs : List TV) (n : Nat) (f : Bool) : eqT Try.prog 20 39 (.sl cs n f) .nilSl = some false := by kernel_rfl
@[go_sem] theorem Try.eqt39 (cs : List TV) (n : Nat) (f : Bool) : eqT Try.prog 20 39 .nilSl (.sl cs n f) = some false := by kernel_rfl
@[go_sem] theorem Try.sl39 : sliceO Try.prog 39 = some 3 := by kernel_rfl
@[go_sem] theorem Try.und39 : Program.underlying Try.prog 39 = some (.slice 3) := by kernel_rfl
@[go_sem] theorem Try.agg40 : aggO Try.prog 40 = some true := by kernel_rfl
@[go_sem] theorem Try.pln40 : plainO Try.prog 40 = some true := by kernel_rfl
@[go_sem] theorem Try.sz40 : szO Try.prog 40 = some 3 := by kernel_rfl
@[go_sem] theorem Try.zero40 : zeroL Try.prog 40 = some [.nilSl, .nilSl, .nilSl] := by kernel_rfl
@[go_sem] theorem Try.small40 : smallO Try.prog 40 = some (3, 72) := by kernel_rfl
@[go_sem] theorem Try.zt40 : zeroT Try.prog 40 = some (.agg [.nilSl, .nilSl, .nilSl]) := by kernel_rfl
@[go_sem] theorem Try.fld40_0 : fieldO Try.prog 40 0 = some (0, 39) := by kernel_rfl
@[go_sem] theorem Try.fld40_1 : fieldO Try.prog 40 1 = some (1, 39) := by kernel_rfl
@[go_sem] theorem Try.fld40_2 : fieldO Try.prog 40 2 = some (2, 39) := by kernel_rfl
@[go_sem] theorem Try.bld40 (parts : List (Nat × TV)) : buildO Try.prog 40 parts = (fillT (fun i => ([(0, 1), (1, 1), (2, 1)] : List (Nat × Nat))[i]?) [.nilSl, .nilSl, .nilSl] parts).map .agg := by kernel_rfl
@[go_sem] theorem Try.bldp40 (parts : List (Nat × PV)) : buildP Try.prog 40 parts = fillP (fun i => ([(0, 1), (1, 1), (2, 1)] : List (Nat × Nat))[i]?) [.t (.nilSl), .t (.nilSl), .t (.nilSl)] parts := by kernel_rfl
@[go_sem] theorem Try.eqg40 : Program.eqGuardType Try.prog (Program.depth Try.prog) 40 = false := by kernel_rfl
@[go_sem] theorem Try.agg41 : aggO Try.prog 41 = some true := by kernel_rfl
@[go_sem] theorem Try.pln41 : plainO Try.prog 41 = some true := by kernel_rfl
@[go_sem] theorem Try.sz41 : szO Try.prog 41 = some 3 := by kernel_rfl
@[go_sem] theorem Try.zero41 : zeroL Try.prog 41 = some [.nilSl, .nilSl, .nilSl] := by kernel_rfl
@[go_sem] theorem Try.small41 : smallO Try.prog 41 = some (3, 72) := by kernel_rfl
@[go_sem] theorem Try.zt41 : zeroT Try.prog 41 = some (.agg [.nilSl, .nilSl, .nilSl]) := by kernel_rfl
@[go_sem] theorem Try.fld41_0 : fieldO Try.prog 41 0 = some (0, 39) := by kernel_rfl
@[go_sem] theorem Try.fld41_1 : fieldO Try.prog 41 1 = some (1, 39) := by kernel_rfl
@[go_sem] theorem Try.fld41_2 : fieldO Try.prog 41 2 = some (2, 39) := by kernel_rfl
@[go_sem] theorem Try.bld41 (parts : List (Nat × TV)) : buildO Try.prog 41 parts = (fillT (fun i => ([(0, 1), (1, 1), (2, 1)] : List (Nat × Nat))[i]?) [.nilSl, .nilSl, .nilSl] parts).map .agg := by kernel_rfl
@[go_sem] theorem Try.bldp41 (parts : List (Nat × PV)) : buildP Try.prog 41 parts = fillP (fun i => ([(0, 1), (1, 1), (2, 1)] : List (Nat × Nat))[i]?) [.t (.nilSl), .t (.nilSl), .t (.nilSl)] parts := by kernel_rfl
@[go_sem] theorem Try.eqg41 : Program.eqGuardType Try.prog (Program.depth Try.prog) 41 = false := by kernel_rfl
@[go_sem] theorem Try.agg43 : aggO Try.prog 43 = some false := by kernel_rfl
@[go_sem] theorem Try.pln43 : plainO Try.prog 43 = some true := by kernel_rfl
@[go_sem] theorem Try.sz43 : szO Try.prog 43 = some 1 := by kernel_rfl
@[go_sem] theorem Try.zero43 : zeroL Try.prog 43 = some [.nilFn] := by kernel_rfl
@[go_sem] theorem Try.small43 : smallO Try.prog 43 = some (1, 8) := by kernel_rfl
@[go_sem] theorem Try.zt43 : zeroT Try.prog 43 = some (.nilFn) := by kernel_rfl
@[go_sem] theorem Try.agg45 : aggO Try.prog 45 = some false := by kernel_rfl
@[go_sem] theorem Try.pln45 : plainO Try.prog 45 = some true := by kernel_rfl
@[go_sem] theorem Try.sz45 : szO Try.prog 45 = some 1 := by kernel_rfl
@[go_sem] theorem Try.zero45 : zeroL Try.prog 45 = some [.nilFn] := by kernel_rfl
@[go_sem] theorem Try.small45 : smallO Try.prog 45 = some (1, 8) := by kernel_rfl
@[go_sem] theorem Try.zt45 : zeroT Try.prog 45 = some (.nilFn) := by kernel_rfl
@[go_sem] theorem Try.agg46 : aggO Try.prog 46 = some true := by kernel_rfl
@[go_sem] theorem Try.pln46 : plainO Try.prog 46 = some true := by kernel_rfl
@[go_sem] theorem Try.sz46 : szO Try.prog 46 = some 3 := by kernel_rfl
@[go_sem] theorem Try.zero46 : zeroL Try.prog 46 = some [.int .i64 0, .int .i64 0, .int .i64 0] := by kernel_rfl
@[go_sem] theorem Try.small46 : smallO Try.prog 46 = some (3, 24) := by kernel_rfl
@[go_sem] theorem Try.zt46 : zeroT Try.prog 46 = some (.agg [.int .i64 0, .int .i64 0, .int .i64 0]) := by kernel_rfl
@[go_sem] theorem Try.fld46_0 : fieldO Try.prog 46 0 = some (0, 29) := by kernel_rfl
@[go_sem] theorem Try.fld46_1 : fieldO Try.prog 46 1 = some (2, 3) := by kernel_rfl
@[go_sem] theorem Try.bld46 (parts : List (Nat × TV)) : buildO Try.prog 46 parts = (fillT (fun i => ([(0, 2), (2, 1)] : List (Nat × Nat))[i]?) [.int .i64 0, .int .i64 0, .int .i64 0] parts).map .agg := by kernel_rfl
@[go_sem] theorem Try.eqg46 : Program.eqGuardType Try.prog (Program.depth Try.prog) 46 = false := by kernel_rfl
@[go_sem] theorem Try.agg47 : aggO Try.prog 47 = some true := by kernel_rfl
@[go_sem] theorem Try.pln47 : plainO Try.prog 47 = some true := by kernel_rfl
@[go_sem] theorem Try.sz47 : szO Try.prog 47 = some 3 := by kernel_rfl
@[go_sem] theorem Try.zero47 : zeroL Try.prog 47 = some [.int .i64 0, .int .i64 0, .int .i64 0] := by kernel_rfl
@[go_sem] theorem Try.small47 : smallO Try.prog 47 = some (3, 24) := by kernel_rfl
@[go_sem] theorem Try.zt47 : zeroT Try.prog 47 = some (.agg [.int .i64 0, .int .i64 0, .int .i64 0]) := by kernel_rfl
@[go_sem] theorem Try.fld47_0 : fieldO Try.prog 47 0 = some (0, 29) := by kernel_rfl
@[go_sem] theorem Try.fld47_1 : fieldO Try.prog 47 1 = some (2, 3) := by kernel_rfl
@[go_sem] theorem Try.bld47 (parts : List (Nat × TV)) : buildO Try.prog 47 parts = (fillT (fun i => ([(0, 2), (2, 1)] : List (Nat × Nat))[i]?) [.int .i64 0, .int .i64 0, .int .i64 0] parts).map .agg := by kernel_rfl
@[go_sem] theorem Try.eq47 (a0 b0 : Int) (a1 b1 : Int) (a2 b2 : Int) : eqT Try.prog 20 47 (.agg [.int .i64 a0, .int .i64 a1, .int .i64 a2]) (.agg [.int .i64 b0, .int .i64 b1, .int .i64 b2]) = some (((a0 == b0) && ((a1 == b1) && true)) && ((a2 == b2) && true)) := by kernel_rfl
@[go_sem] theorem Try.eqg47 : Program.eqGuardType Try.prog (Program.depth Try.prog) 47 = false := by kernel_rfl
@[go_sem] theorem Try.agg49 : aggO Try.prog 49 = some false := by kernel_rfl
@[go_sem] theorem Try.pln49 : plainO Try.prog 49 = some true := by kernel_rfl
@[go_sem] theorem Try.sz49 : szO Try.prog 49 = some 1 := by kernel_rfl
@[go_sem] theorem Try.zero49 : zeroL Try.prog 49 = some [.nilFn] := by kernel_rfl
@[go_sem] theorem Try.small49 : smallO Try.prog 49 = some (1, 8) := by kernel_rfl
@[go_sem] theorem Try.zt49 : zeroT Try.prog 49 = some (.nilFn) := by kernel_rfl
@[go_sem] theorem Try.agg50 : aggO Try.prog 50 = some false := by kernel_rfl
@[go_sem] theorem Try.pln50 : plainO Try.prog 50 = some true := by kernel_rfl
@[go_sem] theorem Try.sz50 : szO Try.prog 50 = some 1 := by kernel_rfl
@[go_sem] theorem Try.zero50 : zeroL Try.prog 50 = some [.nilSl] := by kernel_rfl
@[go_sem] theorem Try.small50 : smallO Try.prog 50 = some (1, 24) := by kernel_rfl
@[go_sem] theorem Try.zt50 : zeroT Try.prog 50 = some (.nilSl) := by kernel_rfl
@[go_sem] theorem Try.eqn50 : eqT Try.prog 20 50 .nilSl .nilSl = some true := by kernel_rfl
@[go_sem] theorem Try.eqs50 (cs : List TV) (n : Nat) (f : Bool) : eqT Try.prog 20 50 (.sl cs n f) .nilSl = some false := by kernel_rfl
@[go_sem] theorem Try.eqt50 (cs : List TV) (n : Nat) (f : Bool) : eqT Try.prog 20 50 .nilSl (.sl cs n f) = some false := by kernel_rfl
@[go_sem] theorem Try.sl50 : sliceO Try.prog 50 = some 38 := by kernel_rfl
@[go_sem] theorem Try.und50 : Program.underlying Try.prog 50 = some (.slice 38) := by kernel_rfl
@[go_sem] theorem Try.agg52 : aggO Try.prog 52 = some false := by kernel_rfl
@[go_sem] theorem Try.pln52 : plainO Try.prog 52 = some true := by kernel_rfl
@[go_sem] theorem Try.sz52 : szO Try.prog 52 = some 1 := by kernel_rfl
@[go_sem] theorem Try.zero52 : zeroL Try.prog 52 = some [.nilFn] := by kernel_rfl
@[go_sem] theorem Try.small52 : smallO Try.prog 52 = some (1, 8) := by kernel_rfl
@[go_sem] theorem Try.zt52 : zeroT Try.prog 52 = some (.nilFn) := by kernel_rfl
@[go_sem] theorem Try.agg53 : aggO Try.prog 53 = some false := by kernel_rfl
@[go_sem] theorem Try.pln53 : plainO Try.prog 53 = some true := by kernel_rfl
@[go_sem] theorem Try.sz53 : szO Try.prog 53 = some 1 := by kernel_rfl
@[go_sem] theorem Try.zero53 : zeroL Try.prog 53 = some [.nilFn] := by kernel_rfl
@[go_sem] theorem Try.small53 : smallO Try.prog 53 = some (1, 8) := by kernel_rfl
@[go_sem] theorem Try.zt53 : zeroT Try.prog 53 = some (.nilFn) := by kernel_rfl
@[go_sem] theorem Try.agg54 : aggO Try.prog 54 = some false := by kernel_rfl
@[go_sem] theorem Try.pln54 : plainO Try.prog 54 = some true := by kernel_rfl
@[go_sem] theorem Try.sz54 : szO Try.prog 54 = some 1 := by kernel_rfl
@[go_sem] theorem Try.zero54 : zeroL Try.prog 54 = some [.nilFn] := by kernel_rfl
@[go_sem] theorem Try.small54 : smallO Try.prog 54 = some (1, 8) := by kernel_rfl
@[go_sem] theorem Try.zt54 : zeroT Try.prog 54 = some (.nilFn) := by kernel_rfl
@[go_sem] theorem Try.agg55 : aggO Try.prog 55 = some false := by kernel_rfl
@[go_sem] theorem Try.pln55 : plainO Try.prog 55 = some true := by kernel_rfl
@[go_sem] theorem Try.sz55 : szO Try.prog 55 = some 1 := by kernel_rfl
@[go_sem] theorem Try.zero55 : zeroL Try.prog 55 = some [.nilFn] := by kernel_rfl
@[go_sem] theorem Try.small55 : smallO Try.prog 55 = some (1, 8) := by kernel_rfl
@[go_sem] theorem Try.zt55 : zeroT Try.prog 55 = some (.nilFn) := by kernel_rfl
@[go_sem] theorem Try.agg57 : aggO Try.prog 57 = some false := by kernel_rfl
@[go_sem] theorem Try.pln57 : plainO Try.prog 57 = some true := by kernel_rfl
@[go_sem] theorem Try.sz57 : szO Try.prog 57 = some 1 := by kernel_rfl
@[go_sem] theorem Try.zero57 : zeroL Try.prog 57 = some [.nilFn] := by kernel_rfl
@[go_sem] theorem Try.small57 : smallO Try.prog 57 = some (1, 8) := by kernel_rfl
@[go_sem] theorem Try.zt57 : zeroT Try.prog 57 = some (.nilFn) := by kernel_rfl
@[go_sem] theorem Try.agg58 : aggO Try.prog 58 = some false := by kernel_rfl
@[go_sem] theorem Try.pln58 : plainO Try.prog 58 = some true := by kernel_rfl
@[go_sem] theorem Try.sz58 : szO Try.prog 58 = some 1 := by kernel_rfl
@[go_sem] theorem Try.zero58 : zeroL Try.prog 58 = some [.nilSl] := by kernel_rfl
@[go_sem] theorem Try.small58 : smallO Try.prog 58 = some (1, 24) := by kernel_rfl
@[go_sem] theorem Try.zt58 : zeroT Try.prog 58 = some (.nilSl) := by kernel_rfl
@[go_sem] theorem Try.eqn58 : eqT Try.prog 20 58 .nilSl .nilSl = some true := by kernel_rfl
@[go_sem] theorem Try.eqs58 (cs : List TV) (n : Nat) (f : Bool) : eqT Try.prog 20 58 (.sl cs n f) .nilSl = some false := by kernel_rfl
@[go_sem] theorem Try.eqt58 (cs : List TV) (n : Nat) (f : Bool) : eqT Try.prog 20 58 .nilSl (.sl cs n f) = some false := by kernel_rfl
@[go_sem] theorem Try.sl58 : sliceO Try.prog 58 = some 60 := by kernel_rfl
@[go_sem] theorem Try.und58 : Program.underlying Try.prog 58 = some (.slice 60) := by kernel_rfl
@[go_sem] theorem Try.agg59 : aggO Try.prog 59 = some true := by kernel_rfl
@[go_sem] theorem Try.pln59 : plainO Try.prog 59 = some true := by kernel_rfl
@[go_sem] theorem Try.sz59 : szO Try.prog 59 = some 5 := by kernel_rfl
@[go_sem] theorem Try.zero59 : zeroL Try.prog 59 = some [.int .i64 0, .int .i64 0, .int .i64 0, .int .i64 0, .int .i64 0] := by kernel_rfl
@[go_sem] theorem Try.small59 : smallO Try.prog 59 = some (5, 40) := by kernel_rfl
@[go_sem] theorem Try.zt59 : zeroT Try.prog 59 = some (.agg [.int .i64 0, .int .i64 0, .int .i64 0, .int .i64 0, .int .i64 0]) := by kernel_rfl
@[go_sem] theorem Try.fld59_0 : fieldO Try.prog 59 0 = some (0, 29) := by kernel_rfl
@[go_sem] theorem Try.fld59_1 : fieldO Try.prog 59 1 = some (2, 29) := by kernel_rfl
@[go_sem] theorem Try.fld59_2 : fieldO Try.prog 59 2 = some (4, 3) := by kernel_rfl
@[go_sem] theorem Try.bld59 (parts : List (Nat × TV)) : buildO Try.prog 59 parts = (fillT (fun i => ([(0, 2), (2, 2), (4, 1)] : List (Nat × Nat))[i]?) [.int .i64 0, .int .i64 0, .int .i64 0, .int .i64 0, .int .i64 0] parts).map .agg := by kernel_rfl
@[go_sem] theorem Try.eqg59 : Program.eqGuardType Try.prog (Program.depth Try.prog) 59 = false := by kernel_rfl
@[go_sem] theorem Try.agg60 : aggO Try.prog 60 = some true := by kernel_rfl
@[go_sem] theorem Try.pln60 : plainO Try.prog 60 = some true := by kernel_rfl
@[go_sem] theorem Try.sz60 : szO Try.prog 60 = some 5 := by kernel_rfl
@[go_sem] theorem Try.zero60 : zeroL Try.prog 60 = some [.int .i64 0, .int .i64 0, .int .i64 0, .int .i64 0, .int .i64 0] := by kernel_rfl
@[go_sem] theorem Try.small60 : smallO Try.prog 60 = some (5, 40) := by kernel_rfl
@[go_sem] theorem Try.zt60 : zeroT Try.prog 60 = some (.agg [.int .i64 0, .int .i64 0, .int .i64 0, .int .i64 0, .int .i64 0]) := by kernel_rfl
@[go_sem] theorem Try.fld60_0 : fieldO Try.prog 60 0 = some (0, 29) := by kernel_rfl
@[go_sem] theorem Try.fld60_1 : fieldO Try.prog 60 1 = some (2, 29) := by kernel_rfl
@[go_sem] theorem Try.fld60_2 : fieldO Try.prog 60 2 = some (4, 3) := by kernel_rfl
@[go_sem] theorem Try.bld60 (parts : List (Nat × TV)) : buildO Try.prog 60 parts = (fillT (fun i => ([(0, 2), (2, 2), (4, 1)] : List (Nat × Nat))[i]?) [.int .i64 0, .int .i64 0, .int .i64 0, .int .i64 0, .int .i64 0] parts).map .agg := by kernel_rfl
@[go_sem] theorem Try.eq60 (a0 b0 : Int) (a1 b1 : Int) (a2 b2 : Int) (a3 b3 : Int) (a4 b4 : Int) : eqT Try.prog 20 60 (.agg [.int .i64 a0, .int .i64 a1, .int .i64 a2, .int .i64 a3, .int .i64 a4]) (.agg [.int .i64 b0, .int .i64 b1, .int .i64 b2, .int .i64 b3, .int .i64 b4]) = some (((a0 == b0) && ((a1 == b1) && true)) && (((a2 == b2) && ((a3 == b3) && true)) && ((a4 == b4) && true))) := by kernel_rfl
@[go_sem] theorem Try.eqg60 : Program.eqGuardType Try.prog (Program.depth Try.prog) 60 = false := by kernel_rfl
@[go_sem] theorem Try.agg61 : aggO Try.prog 61 = some false := by kernel_rfl
@[go_sem] theorem Try.pln61 : plainO Try.prog 61 = some true := by kernel_rfl
@[go_sem] theorem Try.sz61 : szO Try.prog 61 = some 1 := by kernel_rfl
@[go_sem] theorem Try.zero61 : zeroL Try.prog 61 = some [.nilFn] := by kernel_rfl
@[go_sem] theorem Try.small61 : smallO Try.prog 61 = some (1, 8) := by kernel_rfl
@[go_sem] theorem Try.zt61 : zeroT Try.prog 61 = some (.nilFn) := by kernel_rfl
@[go_sem] theorem Try.agg62 : aggO Try.prog 62 = some false := by kernel_rfl
@[go_sem] theorem Try.pln62 : plainO Try.prog 62 = some true := by kernel_rfl
@[go_sem] theorem Try.sz62 : szO Try.prog 62 = some 1 := by kernel_rfl
@[go_sem] theorem Try.zero62 : zeroL Try.prog 62 = some [.nilFn] := by kernel_rfl
@[go_sem] theorem Try.small62 : smallO Try.prog 62 = some (1, 8) := by kernel_rfl
@[go_sem] theorem Try.zt62 : zeroT Try.prog 62 = some (.nilFn) := by kernel_rfl
@[go_sem] theorem Try.agg63 : aggO Try.prog 63 = some true := by kernel_rfl
@[go_sem] theorem Try.pln63 : plainO Try.prog 63 = some true := by kernel_rfl
@[go_sem] theorem Try.sz63 : szO Try.prog 63 = some 6 := by kernel_rfl
@[go_sem] theorem Try.zero63 : zeroL Try.prog 63 = some [.nilSl, .nilSl, .int .i64 0, .int .i64 0, .int .i64 0, .int .i64 0] := by kernel_rfl
@[go_sem] theorem Try.small63 : smallO Try.prog 63 = some (6, 80) := by kernel_rfl
@[go_sem] theorem Try.zt63 : zeroT Try.prog 63 = some (.agg [.nilSl, .nilSl, .int .i64 0, .int .i64 0, .int .i64 0, .int .i64 0]) := by kernel_rfl
@[go_sem] theorem Try.fld63_0 : fieldO Try.prog 63 0 = some (0, 39) := by kernel_rfl
@[go_sem] theorem Try.fld63_1 : fieldO Try.prog 63 1 = some (1, 23) := by kernel_rfl
@[go_sem] theorem Try.fld63_2 : fieldO Try.prog 63 2 = some (2, 29) := by kernel_rfl
@[go_sem] theorem Try.fld63_3 : fieldO Try.prog 63 3 = some (4, 29) := by kernel_rfl
@[go_sem] theorem Try.bld63 (parts : List (Nat × TV)) : buildO Try.prog 63 parts = (fillT (fun i => ([(0, 1), (1, 1), (2, 2), (4, 2)] : List (Nat × Nat))[i]?) [.nilSl, .nilSl, .int .i64 0, .int .i64 0, .int .i64 0, .int .i64 0] parts).map .agg := by kernel_rfl
@[go_sem] theorem Try.bldp63 (parts : List (Nat × PV)) : buildP Try.prog 63 parts = fillP (fun i => ([(0, 1), (1, 1), (2, 2), (4, 2)] : List (Nat × Nat))[i]?) [.t (.nilSl), .t (.nilSl), .t (.int .i64 0), .t (.int .i64 0), .t (.int .i64 0), .t (.int .i64 0)] parts := by kernel_rfl
@[go_sem] theorem Try.eqg63 : Program.eqGuardType Try.prog (Program.depth Try.prog) 63 = false := by kernel_rfl
@[go_sem] theorem Try.agg64 : aggO Try.prog 64 = some true := by kernel_rfl
@[go_sem] theorem Try.pln64 : plainO Try.prog 64 = some true := by kernel_rfl
@[go_sem] theorem Try.sz64 : szO Try.prog 64 = some 6 := by kernel_rfl
@[go_sem] theorem Try.zero64 : zeroL Try.prog 64 = some [.nilSl, .nilSl, .int .i64 0, .int .i64 0, .int .i64 0, .int .i64 0] := by kernel_rfl
@[go_sem] theorem Try.small64 : smallO Try.prog 64 = some (6, 80) := by kernel_rfl
@[go_sem] theorem Try.zt64 : zeroT Try.prog 64 = some (.agg [.nilSl, .nilSl, .int .i64 0, .int .i64 0, .int .i64 0, .int .i64 0]) := by kernel_rfl
@[go_sem] theorem Try.fld64_0 : fieldO Try.prog 64 0 = some (0, 39) := by kernel_rfl
@[go_sem] theorem Try.fld64_1 : fieldO Try.prog 64 1 = some (1, 23) := by kernel_rfl
@[go_sem] theorem Try.fld64_2 : fieldO Try.prog 64 2 = some (2, 29) := by kernel_rfl
@[go_sem] theorem Try.fld64_3 : fieldO Try.prog 64 3 = some (4, 29) := by kernel_rfl
@[go_sem] theorem Try.bld64 (parts : List (Nat × TV)) : buildO Try.prog 64 parts = (fillT (fun i => ([(0, 1), (1, 1), (2, 2), (4, 2)] : List (Nat × Nat))[i]?) [.nilSl, .nilSl, .int .i64 0, .int .i64 0, .int .i64 0, .int .i64 0] parts).map .agg := by kernel_rfl
@[go_sem] theorem Try.bldp64 (parts : List (Nat × PV)) : buildP Try.prog 64 parts = fillP (fun i => ([(0, 1), (1, 1), (2, 2), (4, 2)] : List (Nat × Nat))[i]?) [.t (.nilSl), .t (.nilSl), .t (.int .i64 0), .t (.int .i64 0), .t (.int .i64 0), .t (.int .i64 0)] parts := by kernel_rfl
@[go_sem] theorem Try.eqg64 : Program.eqGuardType Try.prog (Program.depth Try.prog) 64 = false := by kernel_rfl
@[go_sem] theorem Try.agg65 : aggO Try.prog 65 = some false := by kernel_rfl
@[go_sem] theorem Try.pln65 : plainO Try.prog 65 = some true := by kernel_rfl
@[go_sem] theorem Try.sz65 : szO Try.prog 65 = some 1 := by kernel_rfl
@[go_sem] theorem Try.zero65 : zeroL Try.prog 65 = some [.nilFn] := by kernel_rfl
@[go_sem] theorem Try.small65 : smallO Try.prog 65 = some (1, 8) := by kernel_rfl
@[go_sem] theorem Try.zt65 : zeroT Try.prog 65 = some (.nilFn) := by kernel_rfl
@[go_sem] theorem Try.agg66 : aggO Try.prog 66 = some false := by kernel_rfl
@[go_sem] theorem Try.pln66 : plainO Try.prog 66 = some true := by kernel_rfl
@[go_sem] theorem Try.sz66 : szO Try.prog 66 = some 1 := by kernel_rfl
@[go_sem] theorem Try.zero66 : zeroL Try.prog 66 = some [.nilFn] := by kernel_rfl
@[go_sem] theorem Try.small66 : smallO Try.prog 66 = some (1, 8) := by kernel_rfl
@[go_sem] theorem Try.zt66 : zeroT Try.prog 66 = some (.nilFn) := by kernel_rfl
@[go_sem] theorem Try.agg67 : aggO Try.prog 67 = some false := by kernel_rfl
@[go_sem] theorem Try.pln67 : plainO Try.prog 67 = some true := by kernel_rfl
@[go_sem] theorem Try.sz67 : szO Try.prog 67 = some 1 := by kernel_rfl
@[go_sem] theorem Try.zero67 : zeroL Try.prog 67 = some [.nilFn] := by kernel_rfl
@[go_sem] theorem Try.small67 : smallO Try.prog 67 = some (1, 8) := by kernel_rfl
@[go_sem] theorem Try.zt67 : zeroT Try.prog 67 = some (.nilFn) := by kernel_rfl
@[go_sem] theorem Try.agg68 : aggO Try.prog 68 = some false := by kernel_rfl
@[go_sem] theorem Try.pln68 : plainO Try.prog 68 = some true := by kernel_rfl
@[go_sem] theorem Try.sz68 : szO Try.prog 68 = some 1 := by kernel_rfl
@[go_sem] theorem Try.zero68 : zeroL Try.prog 68 = some [.nilSl] := by kernel_rfl
@[go_sem] theorem Try.small68 : smallO Try.prog 68 = some (1, 24) := by kernel_rfl
@[go_sem] theorem Try.zt68 : zeroT Try.prog 68 = some (.nilSl) := by kernel_rfl
@[go_sem] theorem Try.eqn68 : eqT Try.prog 20 68 .nilSl .nilSl = some true := by kernel_rfl
@[go_sem] theorem Try.eqs68 (cs : List TV) (n : Nat) (f : Bool) : eqT Try.prog 20 68 (.sl cs n f) .nilSl = some false := by kernel_rfl
@[go_sem] theorem Try.eqt68 (cs : List TV) (n : Nat) (f : Bool) : eqT Try.prog 20 68 .nilSl (.sl cs n f) = some false := by kernel_rfl
@[go_sem] theorem Try.sl68 : sliceO Try.prog 68 = some 39 := by kernel_rfl
@[go_sem] theorem Try.und68 : Program.underlying Try.prog 68 = some (.slice 39) := by kernel_rfl
@[go_sem] theorem Try.agg70 : aggO Try.prog 70 = some false := by kernel_rfl
@[go_sem] theorem Try.pln70 : plainO Try.prog 70 = some true := by kernel_rfl
@[go_sem] theorem Try.sz70 : szO Try.prog 70 = some 1 := by kernel_rfl
@[go_sem] theorem Try.zero70 : zeroL Try.prog 70 = some [.nilFn] := by kernel_rfl
@[go_sem] theorem Try.small70 : smallO Try.prog 70 = some (1, 8) := by kernel_rfl
@[go_sem] theorem Try.zt70 : zeroT Try.prog 70 = some (.nilFn) := by kernel_rfl
@[go_sem] theorem Try.agg71 : aggO Try.prog 71 = some true := by kernel_rfl
@[go_sem] theorem Try.pln71 : plainO Try.prog 71 = some true := by kernel_rfl
@[go_sem] theorem Try.sz71 : szO Try.prog 71 = some 6 := by kernel_rfl
@[go_sem] theorem Try.zero71 : zeroL Try.prog 71 = some [.int .i64 0, .int .i64 0, .int .i64 0, .int .i64 0, .int .i64 0, .int .i64 0] := by kernel_rfl
@[go_sem] theorem Try.small71 : smallO Try.prog 71 = some (6, 48) := by kernel_rfl
@[go_sem] theorem Try.zt71 : zeroT Try.prog 71 = some (.agg [.int .i64 0, .int .i64 0, .int .i64 0, .int .i64 0, .int .i64 0, .int .i64 0]) := by kernel_rfl
@[go_sem] theorem Try.bld71 (parts : List (Nat × TV)) : buildO Try.prog 71 parts = (fillT (fun i => some (i * 2, 2)) [.int .i64 0, .int .i64 0, .int .i64 0, .int .i64 0, .int .i64 0, .int .i64 0] parts).map .agg := by kernel_rfl
@[go_sem] theorem Try.eq71 (a0 b0 : Int) (a1 b1 : Int) (a2 b2 : Int) (a3 b3 : Int) (a4 b4 : Int) (a5 b5 : Int) : eqT Try.prog 20 71 (.agg [.int .i64 a0, .int .i64 a1, .int .i64 a2, .int .i64 a3, .int .i64 a4, .int .i64 a5]) (.agg [.int .i64 b0, .int .i64 b1, .int .i64 b2, .int .i64 b3, .int .i64 b4, .int .i64 b5]) = some (((a0 == b0) && ((a1 == b1) && true)) && (((a2 == b2) && ((a3 == b3) && true)) && (((a4 == b4) && ((a5 == b5) && true)) && true))) := by kernel_rfl
@[go_sem] theorem Try.eqg71 : Program.eqGuardType Try.prog (Program.depth Try.prog) 71 = false := by kernel_rfl
@[go_sem] theorem Try.arr71 : arrayO Try.prog 71 = some (3, 29) := by kernel_rfl
@[go_sem] theorem Try.und71 : Program.underlying Try.prog 71 = some (.array 3 29) := by kernel_rfl
@[go_sem] theorem Try.agg72 : aggO Try.prog 72 = some true := by kernel_rfl
@[go_sem] theorem Try.pln72 : plainO Try.prog 72 = some true := by kernel_rfl
@[go_sem] theorem Try.sz72 : szO Try.prog 72 = some 9 := by kernel_rfl
@[go_sem] theorem Try.zero72 : zeroL Try.prog 72 = some [.nilSl, .nilSl, .int .i64 0, .int .i64 0, .int .i64 0, .int .i64 0, .int .i64 0, .int .i64 0, .int .i64 0] := by kernel_rfl
@[go_sem] theorem Try.small72 : smallO Try.prog 72 = some (9, 104) := by kernel_rfl
@[go_sem] theorem Try.zt72 : zeroT Try.prog 72 = some (.agg [.nilSl, .nilSl, .int .i64 0, .int .i64 0, .int .i64 0, .int .i64 0, .int .i64 0, .int .i64 0, .int .i64 0]) := by kernel_rfl
@[go_sem] theorem Try.fld72_0 : fieldO Try.prog 72 0 = some (0, 39) := by kernel_rfl
@[go_sem] theorem Try.fld72_1 : fieldO Try.prog 72 1 = some (1, 39) := by kernel_rfl
@[go_sem] theorem Try.fld72_2 : fieldO Try.prog 72 2 = some (2, 3) := by kernel_rfl
@[go_sem] theorem Try.fld72_3 : fieldO Try.prog 72 3 = some (3, 71) := by kernel_rfl
@[go_sem] theorem Try.bld72 (parts : List (Nat × TV)) : buildO Try.prog 72 parts = (fillT (fun i => ([(0, 1), (1, 1), (2, 1), (3, 6)] : List (Nat × Nat))[i]?) [.nilSl, .nilSl, .int .i64 0, .int .i64 0, .int .i64 0, .int .i64 0, .int .i64 0, .int .i64 0, .int .i64 0] parts).map .agg := by kernel_rfl
@[go_sem] theorem Try.bldp72 (parts : List (Nat × PV)) : buildP Try.prog 72 parts = fillP (fun i => ([(0, 1), (1, 1), (2, 1), (3, 6)] : List (Nat × Nat))[i]?) [.t (.nilSl), .t (.nilSl), .t (.int .i64 0), .t (.int .i64 0), .t (.int .i64 0), .t (.int .i64 0), .t (.int .i64 0), .t (.int .i64 0), .t (.int .i64 0)] parts := by kernel_rfl
@[go_sem] theorem Try.eqg72 : Program.eqGuardType Try.prog (Program.depth Try.prog) 72 = false := by kernel_rfl
@[go_sem] theorem Try.agg73 : aggO Try.prog 73 = some true := by kernel_rfl
@[go_sem] theorem Try.pln73 : plainO Try.prog 73 = some true := by kernel_rfl
@[go_sem] theorem Try.sz73 : szO Try.prog 73 = some 9 := by kernel_rfl
@[go_sem] theorem Try.zero73 : zeroL Try.prog 73 = some [.nilSl, .nilSl, .int .i64 0, .int .i64 0, .int .i64 0, .int .i64 0, .int .i64 0, .int .i64 0, .int .i64 0] := by kernel_rfl
@[go_sem] theorem Try.small73 : smallO Try.prog 73 = some (9, 104) := by kernel_rfl
@[go_sem] theorem Try.zt73 : zeroT Try.prog 73 = some (.agg [.nilSl, .nilSl, .int .i64 0, .int .i64 0, .int .i64 0, .int .i64 0, .int .i64 0, .int .i64 0, .int .i64 0]) := by kernel_rfl
@[go_sem] theorem Try.fld73_0 : fieldO Try.prog 73 0 = some (0, 39) := by kernel_rfl
@[go_sem] theorem Try.fld73_1 : fieldO Try.prog 73 1 = some (1, 39) := by kernel_rfl
@[go_sem] theorem Try.fld73_2 : fieldO Try.prog 73 2 = some (2, 3) := by kernel_rfl
@[go_sem] theorem Try.fld73_3 : fieldO Try.prog 73 3 = some (3, 71) := by kernel_rfl
@[go_sem] theorem Try.bld73 (parts : List (Nat × TV)) : buildO Try.prog 73 parts = (fillT (fun i => ([(0, 1), (1, 1), (2, 1), (3, 6)] : List (Nat × Nat))[i]?) [.nilSl, .nilSl, .int .i64 0, .int .i64 0, .int .i64 0, .int .i64 0, .int .i64 0, .int .i64 0, .int .i64 0] parts).map .agg := by kernel_rfl
@[go_sem] theorem Try.bldp73 (parts : List (Nat × PV)) : buildP Try.prog 73 parts = fillP (fun i => ([(0, 1), (1, 1), (2, 1), (3, 6)] : List (Nat × Nat))[i]?) [.t (.nilSl), .t (.nilSl), .t (.int .i64 0), .t (.int .i64 0), .t (.int .i64 0), .t (.int .i64 0), .t (.int .i64 0), .t (.int .i64 0), .t (.int .i64 0)] parts := by kernel_rfl
@[go_sem] theorem Try.eqg73 : Program.eqGuardType Try.prog (Program.depth Try.prog) 73 = false := by kernel_rfl
@[go_sem] theorem Try.agg74 : aggO Try.prog 74 = some false := by kernel_rfl
@[go_sem] theorem Try.pln74 : plainO Try.prog 74 = some true := by kernel_rfl
@[go_sem] theorem Try.sz74 : szO Try.prog 74 = some 1 := by kernel_rfl
@[go_sem] theorem Try.zero74 : zeroL Try.prog 74 = some [.nilFn] := by kernel_rfl
@[go_sem] theorem Try.small74 : smallO Try.prog 74 = some (1, 8) := by kernel_rfl
@[go_sem] theorem Try.zt74 : zeroT Try.prog 74 = some (.nilFn) := by kernel_rfl
@[go_sem] theorem Try.agg75 : aggO Try.prog 75 = some false := by kernel_rfl
@[go_sem] theorem Try.pln75 : plainO Try.prog 75 = some true := by kernel_rfl
@[go_sem] theorem Try.sz75 : szO Try.prog 75 = some 1 := by kernel_rfl
@[go_sem] theorem Try.zero75 : zeroL Try.prog 75 = some [.nilFn] := by kernel_rfl
@[go_sem] theorem Try.small75 : smallO Try.prog 75 = some (1, 8) := by kernel_rfl
@[go_sem] theorem Try.zt75 : zeroT Try.prog 75 = some (.nilFn) := by kernel_rfl
@[go_sem] theorem Try.agg77 : aggO Try.prog 77 = some false := by kernel_rfl
@[go_sem] theorem Try.pln77 : plainO Try.prog 77 = some true := by kernel_rfl
@[go_sem] theorem Try.sz77 : szO Try.prog 77 = some 1 := by kernel_rfl
@[go_sem] theorem Try.zero77 : zeroL Try.prog 77 = some [.nilFn] := by kernel_rfl
@[go_sem] theorem Try.small77 : smallO Try.prog 77 = some (1, 8) := by kernel_rfl
@[go_sem] theorem Try.zt77 : zeroT Try.prog 77 = some (.nilFn) := by kernel_rfl
@[go_sem] theorem Try.agg79 : aggO Try.prog 79 = some false := by kernel_rfl
@[go_sem] theorem Try.pln79 : plainO Try.prog 79 = some true := by kernel_rfl
@[go_sem] theorem Try.sz79 : szO Try.prog 79 = some 1 := by kernel_rfl
@[go_sem] theorem Try.zero79 : zeroL Try.prog 79 = some [.nilFn] := by kernel_rfl
@[go_sem] theorem Try.small79 : smallO Try.prog 79 = some (1, 8) := by kernel_rfl
@[go_sem] theorem Try.zt79 : zeroT Try.prog 79 = some (.nilFn) := by kernel_rfl
@[go_sem] theorem Try.agg80 : aggO Try.prog 80 = some false := by kernel_rfl
@[go_sem] theorem Try.pln80 : plainO Try.prog 80 = some true := by kernel_rfl
@[go_sem] theorem Try.sz80 : szO Try.prog 80 = some 1 := by kernel_rfl
@[go_sem] theorem Try.zero80 : zeroL Try.prog 80 = some [.nilFn] := by kernel_rfl
@[go_sem] theorem Try.small80 : smallO Try.prog 80 = some (1, 8) := by kernel_rfl
@[go_sem] theorem Try.zt80 : zeroT Try.prog 80 = some (.nilFn) := by kernel_rfl
@[go_sem] theorem Try.agg81 : aggO Try.prog 81 = some false := by kernel_rfl
@[go_sem] theorem Try.pln81 : plainO Try.prog 81 = some true := by kernel_rfl
@[go_sem] theorem Try.sz81 : szO Try.prog 81 = some 1 := by kernel_rfl
@[go_sem] theorem Try.zero81 : zeroL Try.prog 81 = some [.nilFn] := by kernel_rfl
@[go_sem] theorem Try.small81 : smallO Try.prog 81 = some (1, 8) := by kernel_rfl
@[go_sem] theorem Try.zt81 : zeroT Try.prog 81 = some (.nilFn) := by kernel_rfl
@[go_sem] theorem Try.agg82 : aggO Try.prog 82 = some false := by kernel_rfl
@[go_sem] theorem Try.pln82 : plainO Try.prog 82 = some true := by kernel_rfl
@[go_sem] theorem Try.sz82 : szO Try.prog 82 = some 1 := by kernel_rfl
@[go_sem] theorem Try.zero82 : zeroL Try.prog 82 = some [.nilFn] := by kernel_rfl
@[go_sem] theorem Try.small82 : smallO Try.prog 82 = some (1, 8) := by kernel_rfl
@[go_sem] theorem Try.zt82 : zeroT Try.prog 82 = some (.nilFn) := by kernel_rfl
@[go_sem] theorem Try.agg83 : aggO Try.prog 83 = some true := by kernel_rfl
@[go_sem] theorem Try.pln83 : plainO Try.prog 83 = some true := by kernel_rfl
@[go_sem] theorem Try.sz83 : szO Try.prog 83 = some 8 := by kernel_rfl
@[go_sem] theorem Try.zero83 : zeroL Try.prog 83 = some [.int .i64 0, .int .i64 0, .int .i64 0, .int .i64 0, .int .i64 0, .int .i64 0, .int .i64 0, .int .i64 0] := by kernel_rfl
@[go_sem] theorem Try.small83 : smallO Try.prog 83 = some (8, 64) := by kernel_rfl
@[go_sem] theorem Try.zt83 : zeroT Try.prog 83 = some (.agg [.int .i64 0, .int .i64 0, .int .i64 0, .int .i64 0, .int .i64 0, .int .i64 0, .int .i64 0, .int .i64 0]) := by kernel_rfl
@[go_sem] theorem Try.fld83_0 : fieldO Try.prog 83 0 = some (0, 3) := by kernel_rfl
@[go_sem] theorem Try.fld83_1 : fieldO Try.prog 83 1 = some (1, 29) := by kernel_rfl
@[go_sem] theorem Try.fld83_2 : fieldO Try.prog 83 2 = some (3, 29) := by kernel_rfl
@[go_sem] theorem Try.fld83_3 : fieldO Try.prog 83 3 = some (5, 29) := by kernel_rfl
@[go_sem] theorem Try.fld83_4 : fieldO Try.prog 83 4 = some (7, 3) := by kernel_rfl
@[go_sem] theorem Try.bld83 (parts : List (Nat × TV)) : buildO Try.prog 83 parts = (fillT (fun i => ([(0, 1), (1, 2), (3, 2), (5, 2), (7, 1)] : List (Nat × Nat))[i]?) [.int .i64 0, .int .i64 0, .int .i64 0, .int .i64 0, .int .i64 0, .int .i64 0, .int .i64 0, .int .i64 0] parts).map .agg := by kernel_rfl
@[go_sem] theorem Try.eqg83 : Program.eqGuardType Try.prog (Program.depth Try.prog) 83 = false := by kernel_rfl
@[go_sem] theorem Try.agg84 : aggO Try.prog 84 = some true := by kernel_rfl
@[go_sem] theorem Try.pln84 : plainO Try.prog 84 = some true := by kernel_rfl
@[go_sem] theorem Try.sz84 : szO Try.prog 84 = some 8 := by kernel_rfl
@[go_sem] theorem Try.zero84 : zeroL Try.prog 84 = some [.int .i64 0, .int .i64 0, .int .i64 0, .int .i64 0, .int .i64 0, .int .i64 0, .int .i64 0, .int .i64 0] := by kernel_rfl
@[go_sem] theorem Try.small84 : smallO Try.prog 84 = some (8, 64) := by kernel_rfl
@[go_sem] theorem Try.zt84 : zeroT Try.prog 84 = some (.agg [.int .i64 0, .int .i64 0, .int .i64 0, .int .i64 0, .int .i64 0, .int .i64 0, .int .i64 0, .int .i64 0]) := by kernel_rfl
@[go_sem] theorem Try.fld84_0 : fieldO Try.prog 84 0 = some (0, 3) := by kernel_rfl
@[go_sem] theorem Try.fld84_1 : fieldO Try.prog 84 1 = some (1, 29) := by kernel_rfl
@[go_sem] theorem Try.fld84_2 : fieldO Try.prog 84 2 = some (3, 29) := by kernel_rfl
@[go_sem] theorem Try.fld84_3 : fieldO Try.prog 84 3 = some (5, 29) := by kernel_rfl
@[go_sem] theorem Try.fld84_4 : fieldO Try.prog 84 4 = some (7, 3) := by kernel_rfl
@[go_sem] theorem Try.bld84 (parts : List (Nat × TV)) : buildO Try.prog 84 parts = (fillT (fun i => ([(0, 1), (1, 2), (3, 2), (5, 2), (7, 1)] : List (Nat × Nat))[i]?) [.int .i64 0, .int .i64 0, .int .i64 0, .int .i64 0, .int .i64 0, .int .i64 0, .int .i64 0, .int .i64 0] parts).map .agg := by kernel_rfl
@[go_sem] theorem Try.eq84 (a0 b0 : Int) (a1 b1 : Int) (a2 b2 : Int) (a3 b3 : Int) (a4 b4 : Int) (a5 b5 : Int) (a6 b6 : Int) (a7 b7 : Int) : eqT Try.prog 20 84 (.agg [.int .i64 a0, .int .i64 a1, .int .i64 a2, .int .i64 a3, .int .i64 a4, .int .i64 a5, .int .i64 a6, .int .i64 a7]) (.agg [.int .i64 b0, .int .i64 b1, .int .i64 b2, .int .i64 b3, .int .i64 b4, .int .i64 b5, .int .i64 b6, .int .i64 b7]) = some ((a0 == b0) && (((a1 == b1) && ((a2 == b2) && true)) && (((a3 == b3) && ((a4 == b4) && true)) && (((a5 == b5) && ((a6 == b6) && true)) && ((a7 == b7) && true))))) := by kernel_rfl
@[go_sem] theorem Try.eqg84 : Program.eqGuardType Try.prog (Program.depth Try.prog) 84 = false := by kernel_rfl
@[go_sem] theorem Try.agg85 : aggO Try.prog 85 = some false := by kernel_rfl
@[go_sem] theorem Try.pln85 : plainO Try.prog 85 = some true := by kernel_rfl
@[go_sem] theorem Try.sz85 : szO Try.prog 85 = some 1 := by kernel_rfl
@[go_sem] theorem Try.zero85 : zeroL Try.prog 85 = some [.nilSl] := by kernel_rfl
@[go_sem] theorem Try.small85 : smallO Try.prog 85 = some (1, 24) := by kernel_rfl
@[go_sem] theorem Try.zt85 : zeroT Try.prog 85 = some (.nilSl) := by kernel_rfl
@[go_sem] theorem Try.eqn85 : eqT Try.prog 20 85 .nilSl .nilSl = some true := by kernel_rfl
@[go_sem] theorem Try.eqs85 (cs : List TV) (n : Nat) (f : Bool) : eqT Try.prog 20 85 (.sl cs n f) .nilSl = some false := by kernel_rfl
@[go_sem] theorem Try.eqt85 (cs : List TV) (n : Nat) (f : Bool) : eqT Try.prog 20 85 .nilSl (.sl cs n f) = some false := by kernel_rfl
@[go_sem] theorem Try.sl85 : sliceO Try.prog 85 = some 218 := by kernel_rfl
@[go_sem] theorem Try.und85 : Program.underlying Try.prog 85 = some (.slice 218) := by kernel_rfl
@[go_sem] theorem Try.agg86 : aggO Try.prog 86 = some true := by kernel_rfl
@[go_sem] theorem Try.pln86 : plainO Try.prog 86 = some true := by kernel_rfl
@[go_sem] theorem Try.sz86 : szO Try.prog 86 = some 3 := by kernel_rfl
@[go_sem] theorem Try.zero86 : zeroL Try.prog 86 = some [.int .i64 0, .int .i64 0, .int .i64 0] := by kernel_rfl
@[go_sem] theorem Try.small86 : smallO Try.prog 86 = some (3, 24) := by kernel_rfl
@[go_sem] theorem Try.zt86 : zeroT Try.prog 86 = some (.agg [.int .i64 0, .int .i64 0, .int .i64 0]) := by kernel_rfl
@[go_sem] theorem Try.fld86_0 : fieldO Try.prog 86 0 = some (0, 3) := by kernel_rfl
@[go_sem] theorem Try.fld86_1 : fieldO Try.prog 86 1 = some (1, 3) := by kernel_rfl
@[go_sem] theorem Try.fld86_2 : fieldO Try.prog 86 2 = some (2, 3) := by kernel_rfl
@[go_sem] theorem Try.bld86 (parts : List (Nat × TV)) : buildO Try.prog 86 parts = (fillT (fun i => ([(0, 1), (1, 1), (2, 1)] : List (Nat × Nat))[i]?) [.int .i64 0, .int .i64 0, .int .i64 0] parts).map .agg := by kernel_rfl
@[go_sem] theorem Try.eqg86 : Program.eqGuardType Try.prog (Program.depth Try.prog) 86 = false := by kernel_rfl
@[go_sem] theorem Try.agg87 : aggO Try.prog 87 = some true := by kernel_rfl
@[go_sem] theorem Try.pln87 : plainO Try.prog 87 = some true := by kernel_rfl
@[go_sem] theorem Try.sz87 : szO Try.prog 87 = some 3 := by kernel_rfl
@[go_sem] theorem Try.zero87 : zeroL Try.prog 87 = some [.int .i64 0, .int .i64 0, .int .i64 0] := by kernel_rfl
@[go_sem] theorem Try.small87 : smallO Try.prog 87 = some (3, 24) := by kernel_rfl
@[go_sem] theorem Try.zt87 : zeroT Try.prog 87 = some (.agg [.int .i64 0, .int .i64 0, .int .i64 0]) := by kernel_rfl
@[go_sem] theorem Try.fld87_0 : fieldO Try.prog 87 0 = some (0, 3) := by kernel_rfl
@[go_sem] theorem Try.fld87_1 : fieldO Try.prog 87 1 = some (1, 3) := by kernel_rfl
@[go_sem] theorem Try.fld87_2 : fieldO Try.prog 87 2 = some (2, 3) := by kernel_rfl
@[go_sem] theorem Try.bld87 (parts : List (Nat × TV)) : buildO Try.prog 87 parts = (fillT (fun i => ([(0, 1), (1, 1), (2, 1)] : List (Nat × Nat))[i]?) [.int .i64 0, .int .i64 0, .int .i64 0] parts).map .agg := by kernel_rfl
@[go_sem] theorem Try.eq87 (a0 b0 : Int) (a1 b1 : Int) (a2 b2 : Int) : eqT Try.prog 20 87 (.agg [.int .i64 a0, .int .i64 a1, .int .i64 a2]) (.agg [.int .i64 b0, .int .i64 b1, .int .i64 b2]) = some ((a0 == b0) && ((a1 == b1) && ((a2 == b2) && true))) := by kernel_rfl
@[go_sem] theorem Try.eqg87 : Program.eqGuardType Try.prog (Program.depth Try.prog) 87 = false := by kernel_rfl
@[go_sem] theorem Try.agg88 : aggO Try.prog 88 = some true := by kernel_rfl
@[go_sem] theorem Try.pln88 : plainO Try.prog 88 = some true := by kernel_rfl
@[go_sem] theorem Try.sz88 : szO Try.prog 88 = some 14 := by kernel_rfl
@[go_sem] theorem Try.zero88 : zeroL Try.prog 88 = some [.int .i64 0, .int .i64 0, .int .i64 0, .int .i64 0, .int .i64 0, .int .i64 0, .int .i64 0, .int .i64 0, .nilSl, .int .i64 0, .int .i64 0, .int .i64 0, .int .i64 0, .int .i64 0] := by kernel_rfl
@[go_sem] theorem Try.small88 : smallO Try.prog 88 = some (14, 128) := by kernel_rfl
@[go_sem] theorem Try.zt88 : zeroT Try.prog 88 = some (.agg [.int .i64 0, .int .i64 0, .int .i64 0, .int .i64 0, .int .i64 0, .int .i64 0, .int .i64 0, .int .i64 0, .nilSl, .int .i64 0, .int .i64 0, .int .i64 0, .int .i64 0, .int .i64 0]) := by kernel_rfl
@[go_sem] theorem Try.fld88_0 : fieldO Try.prog 88 0 = some (0, 84) := by kernel_rfl
@[go_sem] theorem Try.fld88_1 : fieldO Try.prog 88 1 = some (8, 85) := by kernel_rfl
@[go_sem] theorem Try.fld88_2 : fieldO Try.prog 88 2 = some (9, 87) := by kernel_rfl
@[go_sem] theorem Try.fld88_3 : fieldO Try.prog 88 3 = some (12, 3) := by kernel_rfl
@[go_sem] theorem Try.fld88_4 : fieldO Try.prog 88 4 = some (13, 3) := by kernel_rfl
@[go_sem] theorem Try.bld88 (parts : List (Nat × TV)) : buildO Try.prog 88 parts = (fillT (fun i => ([(0, 8), (8, 1), (9, 3), (12, 1), (13, 1)] : List (Nat × Nat))[i]?) [.int .i64 0, .int .i64 0, .int .i64 0, .int .i64 0, .int .i64 0, .int .i64 0, .int .i64 0, .int .i64 0, .nilSl, .int .i64 0, .int .i64 0, .int .i64 0, .int .i64 0, .int .i64 0] parts).map .agg := by kernel_rfl
@[go_sem] theorem Try.bldp88 (parts : List (Nat × PV)) : buildP Try.prog 88 parts = fillP (fun i => ([(0, 8), (8, 1), (9, 3), (12, 1), (13, 1)] : List (Nat × Nat))[i]?) [.t (.int .i64 0), .t (.int .i64 0), .t (.int .i64 0), .t (.int .i64 0), .t (.int .i64 0), .t (.int .i64 0), .t (.int .i64 0), .t (.int .i64 0), .t (.nilSl), .t (.int .i64 0), .t (.int .i64 0), .t (.int .i64 0), .t (.int .i64 0), .t (.int .i64 0)] parts := by kernel_rfl
@[go_sem] theorem Try.eqg88 : Program.eqGuardType Try.prog (Program.depth Try.prog) 88 = false := by kernel_rfl
@[go_sem] theorem Try.agg89 : aggO Try.prog 89 = some true := by kernel_rfl
@[go_sem] theorem Try.pln89 : plainO Try.prog 89 = some true := by kernel_rfl
@[go_sem] theorem Try.sz89 : szO Try.prog 89 = some 14 := by kernel_rfl
@[go_sem] theorem Try.zero89 : zeroL Try.prog 89 = some [.int .i64 0, .int .i64 0, .int .i64 0, .int .i64 0, .int .i64 0, .int .i64 0, .int .i64 0, .int .i64 0, .nilSl, .int .i64 0, .int .i64 0, .int .i64 0, .int .i64 0, .int .i64 0] := by kernel_rfl
@[go_sem] theorem Try.small89 : smallO Try.prog 89 = some (14, 128) := by kernel_rfl
@[go_sem] theorem Try.zt89 : zeroT Try.prog 89 = some (.agg [.int .i64 0, .int .i64 0, .int .i64 0, .int .i64 0, .int .i64 0, .int .i64 0, .int .i64 0, .int .i64 0, .nilSl, .int .i64 0, .int .i64 0, .int .i64 0, .int .i64 0, .int .i64 0]) := by kernel_rfl
@[go_sem] theorem Try.fld89_0 : fieldO Try.prog 89 0 = some (0, 84) := by kernel_rfl
@[go_sem] theorem Try.fld89_1 : fieldO Try.prog 89 1 = some (8, 85) := by kernel_rfl
@[go_sem] theorem Try.fld89_2 : fieldO Try.prog 89 2 = some (9, 87) := by kernel_rfl
@[go_sem] theorem Try.fld89_3 : fieldO Try.prog 89 3 = some (12, 3) := by kernel_rfl
@[go_sem] theorem Try.fld89_4 : fieldO Try.prog 89 4 = some (13, 3) := by kernel_rfl
@[go_sem] theorem Try.bld89 (parts : List (Nat × TV)) : buildO Try.prog 89 parts = (fillT (fun i => ([(0, 8), (8, 1), (9, 3), (12, 1), (13, 1)] : List (Nat × Nat))[i]?) [.int .i64 0, .int .i64 0, .int .i64 0, .int .i64 0, .int .i64 0, .int .i64 0, .int .i64 0, .int .i64 0, .nilSl, .int .i64 0, .int .i64 0, .int .i64 0, .int .i64 0, .int .i64 0] parts).map .agg := by kernel_rfl
@[go_sem] theorem Try.bldp89 (parts : List (Nat × PV)) : buildP Try.prog 89 parts = fillP (fun i => ([(0, 8), (8, 1), (9, 3), (12, 1), (13, 1)] : List (Nat × Nat))[i]?) [.t (.int .i64 0), .t (.int .i64 0), .t (.int .i64 0), .t (.int .i64 0), .t (.int .i64 0), .t (.int .i64 0), .t (.int .i64 0), .t (.int .i64 0), .t (.nilSl), .t (.int .i64 0), .t (.int .i64 0), .t (.int .i64 0), .t (.int .i64 0), .t (.int .i64 0)] parts := by kernel_rfl
@[go_sem] theorem Try.eqg89 : Program.eqGuardType Try.prog (Program.depth Try.prog) 89 = false := by kernel_rfl
@[go_sem] theorem Try.agg90 : aggO Try.prog 90 = some true := by kernel_rfl
@[go_sem] theorem Try.pln90 : plainO Try.prog 90 = some true := by kernel_rfl
@[go_sem] theorem Try.sz90 : szO Try.prog 90 = some 6 := by kernel_rfl
@[go_sem] theorem Try.zero90 : zeroL Try.prog 90 = some [.int .i64 0, .nilSl, .int .i64 0, .int .i64 0, .int .i64 0, .nilSl] := by kernel_rfl
@[go_sem] theorem Try.small90 : smallO Try.prog 90 = some (6, 80) := by kernel_rfl
@[go_sem] theorem Try.zt90 : zeroT Try.prog 90 = some (.agg [.int .i64 0, .nilSl, .int .i64 0, .int .i64 0, .int .i64 0, .nilSl]) := by kernel_rfl
@[go_sem] theorem Try.fld90_0 : fieldO Try.prog 90 0 = some (0, 3) := by kernel_rfl
@[go_sem] theorem Try.fld90_1 : fieldO Try.prog 90 1 = some (1, 23) := by kernel_rfl
@[go_sem] theorem Try.fld90_2 : fieldO Try.prog 90 2 = some (2, 29) := by kernel_rfl
@[go_sem] theorem Try.fld90_3 : fieldO Try.prog 90 3 = some (4, 3) := by kernel_rfl
@[go_sem] theorem Try.fld90_4 : fieldO Try.prog 90 4 = some (5, 23) := by kernel_rfl
@[go_sem] theorem Try.bld90 (parts : List (Nat × TV)) : buildO Try.prog 90 parts = (fillT (fun i => ([(0, 1), (1, 1), (2, 2), (4, 1), (5, 1)] : List (Nat × Nat))[i]?) [.int .i64 0, .nilSl, .int .i64 0, .int .i64 0, .int .i64 0, .nilSl] parts).map .agg := by kernel_rfl
@[go_sem] theorem Try.bldp90 (parts : List (Nat × PV)) : buildP Try.prog 90 parts = fillP (fun i => ([(0, 1), (1, 1), (2, 2), (4, 1), (5, 1)] : List (Nat × Nat))[i]?) [.t (.int .i64 0), .t (.nilSl), .t (.int .i64 0), .t (.int .i64 0), .t (.int .i64 0), .t (.nilSl)] parts := by kernel_rfl
@[go_sem] theorem Try.eqg90 : Program.eqGuardType Try.prog (Program.depth Try.prog) 90 = false := by kernel_rfl
@[go_sem] theorem Try.agg91 : aggO Try.prog 91 = some true := by kernel_rfl
@[go_sem] theorem Try.pln91 : plainO Try.prog 91 = some true := by kernel_rfl
@[go_sem] theorem Try.sz91 : szO Try.prog 91 = some 6 := by kernel_rfl
@[go_sem] theorem Try.zero91 : zeroL Try.prog 91 = some [.int .i64 0, .nilSl, .int .i64 0, .int .i64 0, .int .i64 0, .nilSl] := by kernel_rfl
@[go_sem] theorem Try.small91 : smallO Try.prog 91 = some (6, 80) := by kernel_rfl
@[go_sem] theorem Try.zt91 : zeroT Try.prog 91 = some (.agg [.int .i64 0, .nilSl, .int .i64 0, .int .i64 0, .int .i64 0, .nilSl]) := by kernel_rfl
@[go_sem] theorem Try.fld91_0 : fieldO Try.prog 91 0 = some (0, 3) := by kernel_rfl
@[go_sem] theorem Try.fld91_1 : fieldO Try.prog 91 1 = some (1, 23) := by kernel_rfl
@[go_sem] theorem Try.fld91_2 : fieldO Try.prog 91 2 = some (2, 29) := by kernel_rfl
@[go_sem] theorem Try.fld91_3 : fieldO Try.prog 91 3 = some (4, 3) := by kernel_rfl
@[go_sem] theorem Try.fld91_4 : fieldO Try.prog 91 4 = some (5, 23) := by kernel_rfl
@[go_sem] theorem Try.bld91 (parts : List (Nat × TV)) : buildO Try.prog 91 parts = (fillT (fun i => ([(0, 1), (1, 1), (2, 2), (4, 1), (5, 1)] : List (Nat × Nat))[i]?) [.int .i64 0, .nilSl, .int .i64 0, .int .i64 0, .int .i64 0, .nilSl] parts).map .agg := by kernel_rfl
@[go_sem] theorem Try.bldp91 (parts : List (Nat × PV)) : buildP Try.prog 91 parts = fillP (fun i => ([(0, 1), (1, 1), (2, 2), (4, 1), (5, 1)] : List (Nat × Nat))[i]?) [.t (.int .i64 0), .t (.nilSl), .t (.int .i64 0), .t (.int .i64 0), .t (.int .i64 0), .t (.nilSl)] parts := by kernel_rfl
@[go_sem] theorem Try.eqg91 : Program.eqGuardType Try.prog (Program.depth Try.prog) 91 = false := by kernel_rfl
@[go_sem] theorem Try.agg92 : aggO Try.prog 92 = some true := by kernel_rfl
@[go_sem] theorem Try.pln92 : plainO Try.prog 92 = some true := by kernel_rfl
@[go_sem] theorem Try.sz92 : szO Try.prog 92 = some 2 := by kernel_rfl
@[go_sem] theorem Try.zero92 : zeroL Try.prog 92 = some [.int .i64 0, .int .i64 0] := by kernel_rfl
@[go_sem] theorem Try.small92 : smallO Try.prog 92 = some (2, 16) := by kernel_rfl
@[go_sem] theorem Try.zt92 : zeroT Try.prog 92 = some (.agg [.int .i64 0, .int .i64 0]) := by kernel_rfl
@[go_sem] theorem Try.fld92_0 : fieldO Try.prog 92 0 = some (0, 3) := by kernel_rfl
@[go_sem] theorem Try.fld92_1 : fieldO Try.prog 92 1 = some (1, 3) := by kernel_rfl
@[go_sem] theorem Try.bld92 (parts : List (Nat × TV)) : buildO Try.prog 92 parts = (fillT (fun i => ([(0, 1), (1, 1)] : List (Nat × Nat))[i]?) [.int .i64 0, .int .i64 0] parts).map .agg := by kernel_rfl
@[go_sem] theorem Try.eqg92 : Program.eqGuardType Try.prog (Program.depth Try.prog) 92 = false := by kernel_rfl
@[go_sem] theorem Try.agg93 : aggO Try.prog 93 = some true := by kernel_rfl
@[go_sem] theorem Try.pln93 : plainO Try.prog 93 = some true := by kernel_rfl
@[go_sem] theorem Try.sz93 : szO Try.prog 93 = some 2 := by kernel_rfl
@[go_sem] theorem Try.zero93 : zeroL Try.prog 93 = some [.int .i64 0, .int .i64 0] := by kernel_rfl
@[go_sem] theorem Try.small93 : smallO Try.prog 93 = some (2, 16) := by kernel_rfl
@[go_sem] theorem Try.zt93 : zeroT Try.prog 93 = some (.agg [.int .i64 0, .int .i64 0]) := by kernel_rfl
@[go_sem] theorem Try.fld93_0 : fieldO Try.prog 93 0 = some (0, 3) := by kernel_rfl
@[go_sem] theorem Try.fld93_1 : fieldO Try.prog 93 1 = some (1, 3) := by kernel_rfl
@[go_sem] theorem Try.bld93 (parts : List (Nat × TV)) : buildO Try.prog 93 parts = (fillT (fun i => ([(0, 1), (1, 1)] : List (Nat × Nat))[i]?) [.int .i64 0, .int .i64 0] parts).map .agg := by kernel_rfl
@[go_sem] theorem Try.eq93 (a0 b0 : Int) (a1 b1 : Int) : eqT Try.prog 20 93 (.agg [.int .i64 a0, .int .i64 a1]) (.agg [.int .i64 b0, .int .i64 b1]) = some ((a0 == b0) && ((a1 == b1) && true)) := by kernel_rfl
@[go_sem] theorem Try.eqg93 : Program.eqGuardType Try.prog (Program.depth Try.prog) 93 = false := by kernel_rfl
@[go_sem] theorem Try.agg94 : aggO Try.prog 94 = some true := by kernel_rfl
@[go_sem] theorem Try.pln94 : plainO Try.prog 94 = some true := by kernel_rfl
@[go_sem] theorem Try.sz94 : szO Try.prog 94 = some 6 := by kernel_rfl
@[go_sem] theorem Try.zero94 : zeroL Try.prog 94 = some [.int .i64 0, .int .i64 0, .int .i64 0, .int .i64 0, .int .i64 0, .int .i64 0] := by kernel_rfl
@[go_sem] theorem Try.small94 : smallO Try.prog 94 = some (6, 48) := by kernel_rfl
@[go_sem] theorem Try.zt94 : zeroT Try.prog 94 = some (.agg [.int .i64 0, .int .i64 0, .int .i64 0, .int .i64 0, .int .i64 0, .int .i64 0]) := by kernel_rfl
@[go_sem] theorem Try.fld94_0 : fieldO Try.prog 94 0 = some (0, 3) := by kernel_rfl
@[go_sem] theorem Try.fld94_1 : fieldO Try.prog 94 1 = some (1, 3) := by kernel_rfl
@[go_sem] theorem Try.fld94_2 : fieldO Try.prog 94 2 = some (2, 3) := by kernel_rfl
@[go_sem] theorem Try.fld94_3 : fieldO Try.prog 94 3 = some (3, 29) := by kernel_rfl
@[go_sem] theorem Try.fld94_4 : fieldO Try.prog 94 4 = some (5, 3) := by kernel_rfl
@[go_sem] theorem Try.bld94 (parts : List (Nat × TV)) : buildO Try.prog 94 parts = (fillT (fun i => ([(0, 1), (1, 1), (2, 1), (3, 2), (5, 1)] : List (Nat × Nat))[i]?) [.int .i64 0, .int .i64 0, .int .i64 0, .int .i64 0, .int .i64 0, .int .i64 0] parts).map .agg := by kernel_rfl
@[go_sem] theorem Try.eqg94 : Program.eqGuardType Try.prog (Program.depth Try.prog) 94 = false := by kernel_rfl
@[go_sem] theorem Try.agg95 : aggO Try.prog 95 = some true := by kernel_rfl
@[go_sem] theorem Try.pln95 : plainO Try.prog 95 = some true := by kernel_rfl
@[go_sem] theorem Try.sz95 : szO Try.prog 95 = some 6 := by kernel_rfl
@[go_sem] theorem Try.zero95 : zeroL Try.prog 95 = some [.int .i64 0, .int .i64 0, .int .i64 0, .int .i64 0, .int .i64 0, .int .i64 0] := by kernel_rfl
@[go_sem] theorem Try.small95 : smallO Try.prog 95 = some (6, 48) := by kernel_rfl
@[go_sem] theorem Try.zt95 : zeroT Try.prog 95 = some (.agg [.int .i64 0, .int .i64 0, .int .i64 0, .int .i64 0, .int .i64 0, .int .i64 0]) := by kernel_rfl
@[go_sem] theorem Try.fld95_0 : fieldO Try.prog 95 0 = some (0, 3) := by kernel_rfl
@[go_sem] theorem Try.fld95_1 : fieldO Try.prog 95 1 = some (1, 3) := by kernel_rfl
@[go_sem] theorem Try.fld95_2 : fieldO Try.prog 95 2 = some (2, 3) := by kernel_rfl
@[go_sem] theorem Try.fld95_3 : fieldO Try.prog 95 3 = some (3, 29) := by kernel_rfl
@[go_sem] theorem Try.fld95_4 : fieldO Try.prog 95 4 = some (5, 3) := by kernel_rfl
@[go_sem] theorem Try.bld95 (parts : List (Nat × TV)) : buildO Try.prog 95 parts = (fillT (fun i => ([(0, 1), (1, 1), (2, 1), (3, 2), (5, 1)] : List (Nat × Nat))[i]?) [.int .i64 0, .int .i64 0, .int .i64 0, .int .i64 0, .int .i64 0, .int .i64 0] parts).map .agg := by kernel_rfl
@[go_sem] theorem Try.eq95 (a0 b0 : Int) (a1 b1 : Int) (a2 b2 : Int) (a3 b3 : Int) (a4 b4 : Int) (a5 b5 : Int) : eqT Try.prog 20 95 (.agg [.int .i64 a0, .int .i64 a1, .int .i64 a2, .int .i64 a3, .int .i64 a4, .int .i64 a5]) (.agg [.int .i64 b0, .int .i64 b1, .int .i64 b2, .int .i64 b3, .int .i64 b4, .int .i64 b5]) = some ((a0 == b0) && ((a1 == b1) && ((a2 == b2) && (((a3 == b3) && ((a4 == b4) && true)) && ((a5 == b5) && true))))) := by kernel_rfl
@[go_sem] theorem Try.eqg95 : Program.eqGuardType Try.prog (Program.depth Try.prog) 95 = false := by kernel_rfl
@[go_sem] theorem Try.agg96 : aggO Try.prog 96 = some true := by kernel_rfl
@[go_sem] theorem Try.pln96 : plainO Try.prog 96 = some true := by kernel_rfl
@[go_sem] theorem Try.sz96 : szO Try.prog 96 = some 16 := by kernel_rfl
@[go_sem] theorem Try.zero96 : zeroL Try.prog 96 = some [.int .i64 0, .nilSl, .int .i64 0, .int .i64 0, .int .i64 0, .nilSl, .int .i64 0, .int .i64 0, .int .i64 0, .int .i64 0, .int .i64 0, .int .i64 0, .int .i64 0, .int .i64 0, .int .i64 0, .int .i64 0] := by kernel_rfl
@[go_sem] theorem Try.small96 : smallO Try.prog 96 = some (16, 160) := by kernel_rfl
@[go_sem] theorem Try.zt96 : zeroT Try.prog 96 = some (.agg [.int .i64 0, .nilSl, .int .i64 0, .int .i64 0, .int .i64 0, .nilSl, .int .i64 0, .int .i64 0, .int .i64 0, .int .i64 0, .int .i64 0, .int .i64 0, .int .i64 0, .int .i64 0, .int .i64 0, .int .i64 0]) := by kernel_rfl
@[go_sem] theorem Try.fld96_0 : fieldO Try.prog 96 0 = some (0, 91) := by kernel_rfl
@[go_sem] theorem Try.fld96_1 : fieldO Try.prog 96 1 = some (6, 93) := by kernel_rfl
@[go_sem] theorem Try.fld96_2 : fieldO Try.prog 96 2 = some (8, 93) := by kernel_rfl
@[go_sem] theorem Try.fld96_3 : fieldO Try.prog 96 3 = some (10, 95) := by kernel_rfl
@[go_sem] theorem Try.bld96 (parts : List (Nat × TV)) : buildO Try.prog 96 parts = (fillT (fun i => ([(0, 6), (6, 2), (8, 2), (10, 6)] : List (Nat × Nat))[i]?) [.int .i64 0, .nilSl, .int .i64 0, .int .i64 0, .int .i64 0, .nilSl, .int .i64 0, .int .i64 0, .int .i64 0, .int .i64 0, .int .i64 0, .int .i64 0, .int .i64 0, .int .i64 0, .int .i64 0, .int .i64 0] parts).map .agg := by kernel_rfl
@[go_sem] theorem Try.bldp96 (parts : List (Nat × PV)) : buildP Try.prog 96 parts = fillP (fun i => ([(0, 6), (6, 2), (8, 2), (10, 6)] : List (Nat × Nat))[i]?) [.t (.int .i64 0), .t (.nilSl), .t (.int .i64 0), .t (.int .i64 0), .t (.int .i64 0), .t (.nilSl), .t (.int .i64 0), .t (.int .i64 0), .t (.int .i64 0), .t (.int .i64 0), .t (.int .i64 0), .t (.int .i64 0), .t (.int .i64 0), .t (.int .i64 0), .t (.int .i64 0), .t (.int .i64 0)] parts := by kernel_rfl
@[go_sem] theorem Try.eqg96 : Program.eqGuardType Try.prog (Program.depth Try.prog) 96 = false := by kernel_rfl
@[go_sem] theorem Try.agg97 : aggO Try.prog 97 = some true := by kernel_rfl
@[go_sem] theorem Try.pln97 : plainO Try.prog 97 = some true := by kernel_rfl
@[go_sem] theorem Try.sz97 : szO Try.prog 97 = some 16 := by kernel_rfl
@[go_sem] theorem Try.zero97 : zeroL Try.prog 97 = some [.int .i64 0, .nilSl, .int .i64 0, .int .i64 0, .int .i64 0, .nilSl, .int .i64 0, .int .i64 0, .int .i64 0, .int .i64 0, .int .i64 0, .int .i64 0, .int .i64 0, .int .i64 0, .int .i64 0, .int .i64 0] := by kernel_rfl
@[go_sem] theorem Try.small97 : smallO Try.prog 97 = some (16, 160) := by kernel_rfl
@[go_sem] theorem Try.zt97 : zeroT Try.prog 97 = some (.agg [.int .i64 0, .nilSl, .int .i64 0, .int .i64 0, .int .i64 0, .nilSl, .int .i64 0, .int .i64 0, .int .i64 0, .int .i64 0, .int .i64 0, .int .i64 0, .int .i64 0, .int .i64 0, .int .i64 0, .int .i64 0]) := by kernel_rfl
@[go_sem] theorem Try.fld97_0 : fieldO Try.prog 97 0 = some (0, 91) := by kernel_rfl
@[go_sem] theorem Try.fld97_1 : fieldO Try.prog 97 1 = some (6, 93) := by kernel_rfl
@[go_sem] theorem Try.fld97_2 : fieldO Try.prog 97 2 = some (8, 93) := by kernel_rfl
@[go_sem] theorem Try.fld97_3 : fieldO Try.prog 97 3 = some (10, 95) := by kernel_rfl
@[go_sem] theorem Try.bld97 (parts : List (Nat × TV)) : buildO Try.prog 97 parts = (fillT (fun i => ([(0, 6), (6, 2), (8, 2), (10, 6)] : List (Nat × Nat))[i]?) [.int .i64 0, .nilSl, .int .i64 0, .int .i64 0, .int .i64 0, .nilSl, .int .i64 0, .int .i64 0, .int .i64 0, .int .i64 0, .int .i64 0, .int .i64 0, .int .i64 0, .int .i64 0, .int .i64 0, .int .i64 0] parts).map .agg := by kernel_rfl
@[go_sem] theorem Try.bldp97 (parts : List (Nat × PV)) : buildP Try.prog 97 parts = fillP (fun i => ([(0, 6), (6, 2), (8, 2), (10, 6)] : List (Nat × Nat))[i]?) [.t (.int .i64 0), .t (.nilSl), .t (.int .i64 0), .t (.int .i64 0), .t (.int .i64 0), .t (.nilSl), .t (.int .i64 0), .t (.int .i64 0), .t (.int .i64 0), .t (.int .i64 0), .t (.int .i64 0), .t (.int .i64 0), .t (.int .i64 0), .t (.int .i64 0), .t (.int .i64 0), .t (.int .i64 0)] parts := by kernel_rfl
@[go_sem] theorem Try.eqg97 : Program.eqGuardType Try.prog (Program.depth Try.prog) 97 = false := by kernel_rfl
@[go_sem] theorem Try.agg98 : aggO Try.prog 98 = some false := by kernel_rfl
@[go_sem] theorem Try.pln98 : plainO Try.prog 98 = some true := by kernel_rfl
@[go_sem] theorem Try.sz98 : szO Try.prog 98 = some 1 := by kernel_rfl
@[go_sem] theorem Try.zero98 : zeroL Try.prog 98 = some [.nilFn] := by kernel_rfl
@[go_sem] theorem Try.small98 : smallO Try.prog 98 = some (1, 8) := by kernel_rfl
@[go_sem] theorem Try.zt98 : zeroT Try.prog 98 = some (.nilFn) := by kernel_rfl
@[go_sem] theorem Try.agg99 : aggO Try.prog 99 = some false := by kernel_rfl
@[go_sem] theorem Try.pln99 : plainO Try.prog 99 = some true := by kernel_rfl
@[go_sem] theorem Try.sz99 : szO Try.prog 99 = some 1 := by kernel_rfl
@[go_sem] theorem Try.zero99 : zeroL Try.prog 99 = some [.nilFn] := by kernel_rfl
@[go_sem] theorem Try.small99 : smallO Try.prog 99 = some (1, 8) := by kernel_rfl
@[go_sem] theorem Try.zt99 : zeroT Try.prog 99 = some (.nilFn) := by kernel_rfl
@[go_sem] theorem Try.agg101 : aggO Try.prog 101 = some false := by kernel_rfl
@[go_sem] theorem Try.pln101 : plainO Try.prog 101 = some true := by kernel_rfl
@[go_sem] theorem Try.sz101 : szO Try.prog 101 = some 1 := by kernel_rfl
@[go_sem] theorem Try.zero101 : zeroL Try.prog 101 = some [.nilFn] := by kernel_rfl
@[go_sem] theorem Try.small101 : smallO Try.prog 101 = some (1, 8) := by kernel_rfl
@[go_sem] theorem Try.zt101 : zeroT Try.prog 101 = some (.nilFn) := by kernel_rfl
@[go_sem] theorem Try.agg102 : aggO Try.prog 102 = some false := by kernel_rfl
@[go_sem] theorem Try.pln102 : plainO Try.prog 102 = some true := by kernel_rfl
@[go_sem] theorem Try.sz102 : szO Try.prog 102 = some 1 := by kernel_rfl
@[go_sem] theorem Try.zero102 : zeroL Try.prog 102 = some [.nilFn] := by kernel_rfl
@[go_sem] theorem Try.small102 : smallO Try.prog 102 = some (1, 8) := by kernel_rfl
@[go_sem] theorem Try.zt102 : zeroT Try.prog 102 = some (.nilFn) := by kernel_rfl
@[go_sem] theorem Try.agg103 : aggO Try.prog 103 = some false := by kernel_rfl
@[go_sem] theorem Try.pln103 : plainO Try.prog 103 = some true := by kernel_rfl
@[go_sem] theorem Try.sz103 : szO Try.prog 103 = some 1 := by kernel_rfl
@[go_sem] theorem Try.zero103 : zeroL Try.prog 103 = some [.nilFn] := by kernel_rfl
@[go_sem] theorem Try.small103 : smallO Try.prog 103 = some (1, 8) := by kernel_rfl
@[go_sem] theorem Try.zt103 : zeroT Try.prog 103 = some (.nilFn) := by kernel_rfl
@[go_sem] theorem Try.agg104 : aggO Try.prog 104 = some false := by kernel_rfl
@[go_sem] theorem Try.pln104 : plainO Try.prog 104 = some true := by kernel_rfl
@[go_sem] theorem Try.sz104 : szO Try.prog 104 = some 1 := by kernel_rfl
@[go_sem] theorem Try.zero104 : zeroL Try.prog 104 = some [.nilFn] := by kernel_rfl
@[go_sem] theorem Try.small104 : smallO Try.prog 104 = some (1, 8) := by kernel_rfl
@[go_sem] theorem Try.zt104 : zeroT Try.prog 104 = some (.nilFn) := by kernel_rfl
@[go_sem] theorem Try.agg105 : aggO Try.prog 105 = some true := by kernel_rfl
@[go_sem] theorem Try.pln105 : plainO Try.prog 105 = some true := by kernel_rfl
@[go_sem] theorem Try.sz105 : szO Try.prog 105 = some 2 := by kernel_rfl
@[go_sem] theorem Try.zero105 : zeroL Try.prog 105 = some [.int .i64 0, .nilSl] := by kernel_rfl
@[go_sem] theorem Try.small105 : smallO Try.prog 105 = some (2, 32) := by kernel_rfl
@[go_sem] theorem Try.zt105 : zeroT Try.prog 105 = some (.agg [.int .i64 0, .nilSl]) := by kernel_rfl
@[go_sem] theorem Try.fld105_0 : fieldO Try.prog 105 0 = some (0, 3) := by kernel_rfl
@[go_sem] theorem Try.fld105_1 : fieldO Try.prog 105 1 = some (1, 39) := by kernel_rfl
@[go_sem] theorem Try.bld105 (parts : List (Nat × TV)) : buildO Try.prog 105 parts = (fillT (fun i => ([(0, 1), (1, 1)] : List (Nat × Nat))[i]?) [.int .i64 0, .nilSl] parts).map .agg := by kernel_rfl
@[go_sem] theorem Try.bldp105 (parts : List (Nat × PV)) : buildP Try.prog 105 parts = fillP (fun i => ([(0, 1), (1, 1)] : List (Nat × Nat))[i]?) [.t (.int .i64 0), .t (.nilSl)] parts := by kernel_rfl
@[go_sem] theorem Try.eqg105 : Program.eqGuardType Try.prog (Program.depth Try.prog) 105 = false := by kernel_rfl
@[go_sem] theorem Try.agg106 : aggO Try.prog 106 = some true := by kernel_rfl
@[go_sem] theorem Try.pln106 : plainO Try.prog 106 = some true := by kernel_rfl
@[go_sem] theorem Try.sz106 : szO Try.prog 106 = some 2 := by kernel_rfl
@[go_sem] theorem Try.zero106 : zeroL Try.prog 106 = some [.int .i64 0, .nilSl] := by kernel_rfl
@[go_sem] theorem Try.small106 : smallO Try.prog 106 = some (2, 32) := by kernel_rfl
@[go_sem] theorem Try.zt106 : zeroT Try.prog 106 = some (.agg [.int .i64 0, .nilSl]) := by kernel_rfl
@[go_sem] theorem Try.fld106_0 : fieldO Try.prog 106 0 = some (0, 3) := by kernel_rfl
@[go_sem] theorem Try.fld106_1 : fieldO Try.prog 106 1 = some (1, 39) := by kernel_rfl
@[go_sem] theorem Try.bld106 (parts : List (Nat × TV)) : buildO Try.prog 106 parts = (fillT (fun i => ([(0, 1), (1, 1)] : List (Nat × Nat))[i]?) [.int .i64 0, .nilSl] parts).map .agg := by kernel_rfl
@[go_sem] theorem Try.bldp106 (parts : List (Nat × PV)) : buildP Try.prog 106 parts = fillP (fun i => ([(0, 1), (1, 1)] : List (Nat × Nat))[i]?) [.t (.int .i64 0), .t (.nilSl)] parts := by kernel_rfl
@[go_sem] theorem Try.eqg106 : Program.eqGuardType Try.prog (Program.depth Try.prog) 106 = false := by kernel_rfl
@[go_sem] theorem Try.agg107 : aggO Try.prog 107 = some true := by kernel_rfl
@[go_sem] theorem Try.pln107 : plainO Try.prog 107 = some true := by kernel_rfl
@[go_sem] theorem Try.sz107 : szO Try.prog 107 = some 2 := by kernel_rfl
@[go_sem] theorem Try.zero107 : zeroL Try.prog 107 = some [.int .i64 0, .int .i64 0] := by kernel_rfl
@[go_sem] theorem Try.small107 : smallO Try.prog 107 = some (2, 16) := by kernel_rfl
@[go_sem] theorem Try.zt107 : zeroT Try.prog 107 = some (.agg [.int .i64 0, .int .i64 0]) := by kernel_rfl
@[go_sem] theorem Try.bld107 (parts : List (Nat × TV)) : buildO Try.prog 107 parts = (fillT (fun i => some (i * 1, 1)) [.int .i64 0, .int .i64 0] parts).map .agg := by kernel_rfl
@[go_sem] theorem Try.eq107 (a0 b0 : Int) (a1 b1 : Int) : eqT Try.prog 20 107 (.agg [.int .i64 a0, .int .i64 a1]) (.agg [.int .i64 b0, .int .i64 b1]) = some ((a0 == b0) && ((a1 == b1) && true)) := by kernel_rfl
@[go_sem] theorem Try.eqg107 : Program.eqGuardType Try.prog (Program.depth Try.prog) 107 = false := by kernel_rfl
@[go_sem] theorem Try.arr107 : arrayO Try.prog 107 = some (2, 3) := by kernel_rfl
@[go_sem] theorem Try.und107 : Program.underlying Try.prog 107 = some (.array 2 3) := by kernel_rfl
@[go_sem] theorem Try.agg108 : aggO Try.prog 108 = some false := by kernel_rfl
@[go_sem] theorem Try.pln108 : plainO Try.prog 108 = some true := by kernel_rfl
@[go_sem] theorem Try.sz108 : szO Try.prog 108 = some 1 := by kernel_rfl
@[go_sem] theorem Try.zero108 : zeroL Try.prog 108 = some [.nilFn] := by kernel_rfl
@[go_sem] theorem Try.small108 : smallO Try.prog 108 = some (1, 8) := by kernel_rfl
@[go_sem] theorem Try.zt108 : zeroT Try.prog 108 = some (.nilFn) := by kernel_rfl
@[go_sem] theorem Try.agg109 : aggO Try.prog 109 = some false := by kernel_rfl
@[go_sem] theorem Try.pln109 : plainO Try.prog 109 = some true := by kernel_rfl
@[go_sem] theorem Try.sz109 : szO Try.prog 109 = some 1 := by kernel_rfl
@[go_sem] theorem Try.zero109 : zeroL Try.prog 109 = some [.nilFn] := by kernel_rfl
@[go_sem] theorem Try.small109 : smallO Try.prog 109 = some (1, 8) := by kernel_rfl
@[go_sem] theorem Try.zt109 : zeroT Try.prog 109 = some (.nilFn) := by kernel_rfl
@[go_sem] theorem Try.agg111 : aggO Try.prog 111 = some false := by kernel_rfl
@[go_sem] theorem Try.pln111 : plainO Try.prog 111 = some true := by kernel_rfl
@[go_sem] theorem Try.sz111 : szO Try.prog 111 = some 1 := by kernel_rfl
@[go_sem] theorem Try.zero111 : zeroL Try.prog 111 = some [.nilFn] := by kernel_rfl
@[go_sem] theorem Try.small111 : smallO Try.prog 111 = some (1, 8) := by kernel_rfl
@[go_sem] theorem Try.zt111 : zeroT Try.prog 111 = some (.nilFn) := by kernel_rfl
@[go_sem] theorem Try.agg112 : aggO Try.prog 112 = some false := by kernel_rfl
@[go_sem] theorem Try.pln112 : plainO Try.prog 112 = some true := by kernel_rfl
@[go_sem] theorem Try.sz112 : szO Try.prog 112 = some 1 := by kernel_rfl
@[go_sem] theorem Try.zero112 : zeroL Try.prog 112 = some [.nilFn] := by kernel_rfl
@[go_sem] theorem Try.small112 : smallO Try.prog 112 = some (1, 8) := by kernel_rfl
@[go_sem] theorem Try.zt112 : zeroT Try.prog 112 = some (.nilFn) := by kernel_rfl
@[go_sem] theorem Try.agg113 : aggO Try.prog 113 = some false := by kernel_rfl
@[go_sem] theorem Try.pln113 : plainO Try.prog 113 = some true := by kernel_rfl
@[go_sem] theorem Try.sz113 : szO Try.prog 113 = some 1 := by kernel_rfl
@[go_sem] theorem Try.zero113 : zeroL Try.prog 113 = some [.nilSl] := by kernel_rfl
@[go_sem] theorem Try.small113 : smallO Try.prog 113 = some (1, 24) := by kernel_rfl
@[go_sem] theorem Try.zt113 : zeroT Try.prog 113 = some (.nilSl) := by kernel_rfl
@[go_sem] theorem Try.eqn113 : eqT Try.prog 20 113 .nilSl .nilSl = some true := by kernel_rfl
@[go_sem] theorem Try.eqs113 (cs : List TV) (n : Nat) (f : Bool) : eqT Try.prog 20 113 (.sl cs n f) .nilSl = some false := by kernel_rfl
@[go_sem] theorem Try.eqt113 (cs : List TV) (n : Nat) (f : Bool) : eqT Try.prog 20 113 .nilSl (.sl cs n f) = some false := by kernel_rfl
@[go_sem] theorem Try.sl113 : sliceO Try.prog 113 = some 115 := by kernel_rfl
@[go_sem] theorem Try.und113 : Program.underlying Try.prog 113 = some (.slice 115) := by kernel_rfl
@[go_sem] theorem Try.agg114 : aggO Try.prog 114 = some true := by kernel_rfl
@[go_sem] theorem Try.pln114 : plainO Try.prog 114 = some true := by kernel_rfl
@[go_sem] theorem Try.sz114 : szO Try.prog 114 = some 3 := by kernel_rfl
@[go_sem] theorem Try.zero114 : zeroL Try.prog 114 = some [.int .i64 0, .int .i64 0, .int .i64 0] := by kernel_rfl
@[go_sem] theorem Try.small114 : smallO Try.prog 114 = some (3, 24) := by kernel_rfl
@[go_sem] theorem Try.zt114 : zeroT Try.prog 114 = some (.agg [.int .i64 0, .int .i64 0, .int .i64 0]) := by kernel_rfl
@[go_sem] theorem Try.fld114_0 : fieldO Try.prog 114 0 = some (0, 93) := by kernel_rfl
@[go_sem] theorem Try.fld114_1 : fieldO Try.prog 114 1 = some (2, 3) := by kernel_rfl
@[go_sem] theorem Try.bld114 (parts : List (Nat × TV)) : buildO Try.prog 114 parts = (fillT (fun i => ([(0, 2), (2, 1)] : List (Nat × Nat))[i]?) [.int .i64 0, .int .i64 0, .int .i64 0] parts).map .agg := by kernel_rfl
@[go_sem] theorem Try.eqg114 : Program.eqGuardType Try.prog (Program.depth Try.prog) 114 = false := by kernel_rfl
@[go_sem] theorem Try.agg115 : aggO Try.prog 115 = some true := by kernel_rfl
@[go_sem] theorem Try.pln115 : plainO Try.prog 115 = some true := by kernel_rfl
@[go_sem] theorem Try.sz115 : szO Try.prog 115 = some 3 := by kernel_rfl
@[go_sem] theorem Try.zero115 : zeroL Try.prog 115 = some [.int .i64 0, .int .i64 0, .int .i64 0] := by kernel_rfl
@[go_sem] theorem Try.small115 : smallO Try.prog 115 = some (3, 24) := by kernel_rfl
@[go_sem] theorem Try.zt115 : zeroT Try.prog 115 = some (.agg [.int .i64 0, .int .i64 0, .int .i64 0]) := by kernel_rfl
@[go_sem] theorem Try.fld115_0 : fieldO Try.prog 115 0 = some (0, 93) := by kernel_rfl
@[go_sem] theorem Try.fld115_1 : fieldO Try.prog 115 1 = some (2, 3) := by kernel_rfl
@[go_sem] theorem Try.bld115 (parts : List (Nat × TV)) : buildO Try.prog 115 parts = (fillT (fun i => ([(0, 2), (2, 1)] : List (Nat × Nat))[i]?) [.int .i64 0, .int .i64 0, .int .i64 0] parts).map .agg := by kernel_rfl
@[go_sem] theorem Try.eq115 (a0 b0 : Int) (a1 b1 : Int) (a2 b2 : Int) : eqT Try.prog 20 115 (.agg [.int .i64 a0, .int .i64 a1, .int .i64 a2]) (.agg [.int .i64 b0, .int .i64 b1, .int .i64 b2]) = some (((a0 == b0) && ((a1 == b1) && true)) && ((a2 == b2) && true)) := by kernel_rfl
@[go_sem] theorem Try.eqg115 : Program.eqGuardType Try.prog (Program.depth Try.prog) 115 = false := by kernel_rfl
@[go_sem] theorem Try.agg117 : aggO Try.prog 117 = some false := by kernel_rfl
@[go_sem] theorem Try.pln117 : plainO Try.prog 117 = some true := by kernel_rfl
@[go_sem] theorem Try.sz117 : szO Try.prog 117 = some 1 := by kernel_rfl
@[go_sem] theorem Try.zero117 : zeroL Try.prog 117 = some [.nilFn] := by kernel_rfl
@[go_sem] theorem Try.small117 : smallO Try.prog 117 = some (1, 8) := by kernel_rfl
@[go_sem] theorem Try.zt117 : zeroT Try.prog 117 = some (.nilFn) := by kernel_rfl
@[go_sem] theorem Try.agg118 : aggO Try.prog 118 = some false := by kernel_rfl
@[go_sem] theorem Try.pln118 : plainO Try.prog 118 = some true := by kernel_rfl
@[go_sem] theorem Try.sz118 : szO Try.prog 118 = some 1 := by kernel_rfl
@[go_sem] theorem Try.zero118 : zeroL Try.prog 118 = some [.nilFn] := by kernel_rfl
@[go_sem] theorem Try.small118 : smallO Try.prog 118 = some (1, 8) := by kernel_rfl
@[go_sem] theorem Try.zt118 : zeroT Try.prog 118 = some (.nilFn) := by kernel_rfl
@[go_sem] theorem Try.agg119 : aggO Try.prog 119 = some true := by kernel_rfl
@[go_sem] theorem Try.pln119 : plainO Try.prog 119 = some true := by kernel_rfl
@[go_sem] theorem Try.sz119 : szO Try.prog 119 = some 2 := by kernel_rfl
@[go_sem] theorem Try.zero119 : zeroL Try.prog 119 = some [.nilSl, .nilSl] := by kernel_rfl
@[go_sem] theorem Try.small119 : smallO Try.prog 119 = some (2, 48) := by kernel_rfl
@[go_sem] theorem Try.zt119 : zeroT Try.prog 119 = some (.agg [.nilSl, .nilSl]) := by kernel_rfl
@[go_sem] theorem Try.fld119_0 : fieldO Try.prog 119 0 = some (0, 25) := by kernel_rfl
@[go_sem] theorem Try.bld119 (parts : List (Nat × TV)) : buildO Try.prog 119 parts = (fillT (fun i => ([(0, 2)] : List (Nat × Nat))[i]?) [.nilSl, .nilSl] parts).map .agg := by kernel_rfl
@[go_sem] theorem Try.bldp119 (parts : List (Nat × PV)) : buildP Try.prog 119 parts = fillP (fun i => ([(0, 2)] : List (Nat × Nat))[i]?) [.t (.nilSl), .t (.nilSl)] parts := by kernel_rfl
@[go_sem] theorem Try.eqg119 : Program.eqGuardType Try.prog (Program.depth Try.prog) 119 = false := by kernel_rfl
@[go_sem] theorem Try.agg120 : aggO Try.prog 120 = some true := by kernel_rfl
@[go_sem] theorem Try.pln120 : plainO Try.prog 120 = some true := by kernel_rfl
@[go_sem] theorem Try.sz120 : szO Try.prog 120 = some 2 := by kernel_rfl
@[go_sem] theorem Try.zero120 : zeroL Try.prog 120 = some [.nilSl, .nilSl] := by kernel_rfl
@[go_sem] theorem Try.small120 : smallO Try.prog 120 = some (2, 48) := by kernel_rfl
@[go_sem] theorem Try.zt120 : zeroT Try.prog 120 = some (.agg [.nilSl, .nilSl]) := by kernel_rfl
@[go_sem] theorem Try.fld120_0 : fieldO Try.prog 120 0 = some (0, 25) := by kernel_rfl
@[go_sem] theorem Try.bld120 (parts : List (Nat × TV)) : buildO Try.prog 120 parts = (fillT (fun i => ([(0, 2)] : List (Nat × Nat))[i]?) [.nilSl, .nilSl] parts).map .agg := by kernel_rfl
@[go_sem] theorem Try.bldp120 (parts : List (Nat × PV)) : buildP Try.prog 120 parts = fillP (fun i => ([(0, 2)] : List (Nat × Nat))[i]?) [.t (.nilSl), .t (.nilSl)] parts := by kernel_rfl
@[go_sem] theorem Try.eqg120 : Program.eqGuardType Try.prog (Program.depth Try.prog) 120 = false := by kernel_rfl
@[go_sem] theorem Try.agg121 : aggO Try.prog 121 = some false := by kernel_rfl
@[go_sem] theorem Try.pln121 : plainO Try.prog 121 = some true := by kernel_rfl
@[go_sem] theorem Try.sz121 : szO Try.prog 121 = some 1 := by kernel_rfl
@[go_sem] theorem Try.zero121 : zeroL Try.prog 121 = some [.nilFn] := by kernel_rfl
@[go_sem] theorem Try.small121 : smallO Try.prog 121 = some (1, 8) := by kernel_rfl
@[go_sem] theorem Try.zt121 : zeroT Try.prog 121 = some (.nilFn) := by kernel_rfl
@[go_sem] theorem Try.agg122 : aggO Try.prog 122 = some false := by kernel_rfl
@[go_sem] theorem Try.pln122 : plainO Try.prog 122 = some true := by kernel_rfl
@[go_sem] theorem Try.sz122 : szO Try.prog 122 = some 1 := by kernel_rfl
@[go_sem] theorem Try.zero122 : zeroL Try.prog 122 = some [.nilFn] := by kernel_rfl
@[go_sem] theorem Try.small122 : smallO Try.prog 122 = some (1, 8) := by kernel_rfl
@[go_sem] theorem Try.zt122 : zeroT Try.prog 122 = some (.nilFn) := by kernel_rfl
@[go_sem] theorem Try.agg123 : aggO Try.prog 123 = some true := by kernel_rfl
@[go_sem] theorem Try.pln123 : plainO Try.prog 123 = some true := by kernel_rfl
@[go_sem] theorem Try.sz123 : szO Try.prog 123 = some 2 := by kernel_rfl
@[go_sem] theorem Try.zero123 : zeroL Try.prog 123 = some [.int .i64 0, .int .i64 0] := by kernel_rfl
@[go_sem] theorem Try.small123 : smallO Try.prog 123 = some (2, 16) := by kernel_rfl
@[go_sem] theorem Try.zt123 : zeroT Try.prog 123 = some (.agg [.int .i64 0, .int .i64 0]) := by kernel_rfl
@[go_sem] theorem Try.fld123_0 : fieldO Try.prog 123 0 = some (0, 29) := by kernel_rfl
@[go_sem] theorem Try.bld123 (parts : List (Nat × TV)) : buildO Try.prog 123 parts = (fillT (fun i => ([(0, 2)] : List (Nat × Nat))[i]?) [.int .i64 0, .int .i64 0] parts).map .agg := by kernel_rfl
@[go_sem] theorem Try.eqg123 : Program.eqGuardType Try.prog (Program.depth Try.prog) 123 = false := by kernel_rfl
@[go_sem] theorem Try.agg124 : aggO Try.prog 124 = some true := by kernel_rfl
@[go_sem] theorem Try.pln124 : plainO Try.prog 124 = some true := by kernel_rfl
@[go_sem] theorem Try.sz124 : szO Try.prog 124 = some 2 := by kernel_rfl
@[go_sem] theorem Try.zero124 : zeroL Try.prog 124 = some [.int .i64 0, .int .i64 0] := by kernel_rfl
@[go_sem] theorem Try.small124 : smallO Try.prog 124 = some (2, 16) := by kernel_rfl
@[go_sem] theorem Try.zt124 : zeroT Try.prog 124 = some (.agg [.int .i64 0, .int .i64 0]) := by kernel_rfl
@[go_sem] theorem Try.fld124_0 : fieldO Try.prog 124 0 = some (0, 29) := by kernel_rfl
@[go_sem] theorem Try.bld124 (parts : List (Nat × TV)) : buildO Try.prog 124 parts = (fillT (fun i => ([(0, 2)] : List (Nat × Nat))[i]?) [.int .i64 0, .int .i64 0] parts).map .agg := by kernel_rfl
@[go_sem] theorem Try.eq124 (a0 b0 : Int) (a1 b1 : Int) : eqT Try.prog 20 124 (.agg [.int .i64 a0, .int .i64 a1]) (.agg [.int .i64 b0, .int .i64 b1]) = some (((a0 == b0) && ((a1 == b1) && true)) && true) := by kernel_rfl
@[go_sem] theorem Try.eqg124 : Program.eqGuardType Try.prog (Program.depth Try.prog) 124 = false := by kernel_rfl
@[go_sem] theorem Try.agg125 : aggO Try.prog 125 = some true := by kernel_rfl
@[go_sem] theorem Try.pln125 : plainO Try.prog 125 = some true := by kernel_rfl
@[go_sem] theorem Try.sz125 : szO Try.prog 125 = some 4 := by kernel_rfl
@[go_sem] theorem Try.zero125 : zeroL Try.prog 125 = some [.int .i64 0, .int .i64 0, .int .i64 0, .int .i64 0] := by kernel_rfl
@[go_sem] theorem Try.small125 : smallO Try.prog 125 = some (4, 32) := by kernel_rfl
@[go_sem] theorem Try.zt125 : zeroT Try.prog 125 = some (.agg [.int .i64 0, .int .i64 0, .int .i64 0, .int .i64 0]) := by kernel_rfl
@[go_sem] theorem Try.fld125_0 : fieldO Try.prog 125 0 = some (0, 29) := by kernel_rfl
@[go_sem] theorem Try.fld125_1 : fieldO Try.prog 125 1 = some (2, 29) := by kernel_rfl
@[go_sem] theorem Try.bld125 (parts : List (Nat × TV)) : buildO Try.prog 125 parts = (fillT (fun i => ([(0, 2), (2, 2)] : List (Nat × Nat))[i]?) [.int .i64 0, .int .i64 0, .int .i64 0, .int .i64 0] parts).map .agg := by kernel_rfl
@[go_sem] theorem Try.eqg125 : Program.eqGuardType Try.prog (Program.depth Try.prog) 125 = false := by kernel_rfl
@[go_sem] theorem Try.agg126 : aggO Try.prog 126 = some true := by kernel_rfl
@[go_sem] theorem Try.pln126 : plainO Try.prog 126 = some true := by kernel_rfl
@[go_sem] theorem Try.sz126 : szO Try.prog 126 = some 4 := by kernel_rfl
@[go_sem] theorem Try.zero126 : zeroL Try.prog 126 = some [.int .i64 0, .int .i64 0, .int .i64 0, .int .i64 0] := by kernel_rfl
@[go_sem] theorem Try.small126 : smallO Try.prog 126 = some (4, 32) := by kernel_rfl
@[go_sem] theorem Try.zt126 : zeroT Try.prog 126 = some (.agg [.int .i64 0, .int .i64 0, .int .i64 0, .int .i64 0]) := by kernel_rfl
@[go_sem] theorem Try.fld126_0 : fieldO Try.prog 126 0 = some (0, 29) := by kernel_rfl
@[go_sem] theorem Try.fld126_1 : fieldO Try.prog 126 1 = some (2, 29) := by kernel_rfl
@[go_sem] theorem Try.bld126 (parts : List (Nat × TV)) : buildO Try.prog 126 parts = (fillT (fun i => ([(0, 2), (2, 2)] : List (Nat × Nat))[i]?) [.int .i64 0, .int .i64 0, .int .i64 0, .int .i64 0] parts).map .agg := by kernel_rfl
@[go_sem] theorem Try.eq126 (a0 b0 : Int) (a1 b1 : Int) (a2 b2 : Int) (a3 b3 : Int) : eqT Try.prog 20 126 (.agg [.int .i64 a0, .int .i64 a1, .int .i64 a2, .int .i64 a3]) (.agg [.int .i64 b0, .int .i64 b1, .int .i64 b2, .int .i64 b3]) = some (((a0 == b0) && ((a1 == b1) && true)) && (((a2 == b2) && ((a3 == b3) && true)) && true)) := by kernel_rfl
@[go_sem] theorem Try.eqg126 : Program.eqGuardType Try.prog (Program.depth Try.prog) 126 = false := by kernel_rfl
@[go_sem] theorem Try.agg127 : aggO Try.prog 127 = some false := by kernel_rfl
@[go_sem] theorem Try.pln127 : plainO Try.prog 127 = some true := by kernel_rfl
@[go_sem] theorem Try.sz127 : szO Try.prog 127 = some 1 := by kernel_rfl
@[go_sem] theorem Try.zero127 : zeroL Try.prog 127 = some [.nilFn] := by kernel_rfl
@[go_sem] theorem Try.small127 : smallO Try.prog 127 = some (1, 8) := by kernel_rfl
@[go_sem] theorem Try.zt127 : zeroT Try.prog 127 = some (.nilFn) := by kernel_rfl
@[go_sem] theorem Try.agg128 : aggO Try.prog 128 = some false := by kernel_rfl
@[go_sem] theorem Try.pln128 : plainO Try.prog 128 = some true := by kernel_rfl
@[go_sem] theorem Try.sz128 : szO Try.prog 128 = some 1 := by kernel_rfl
@[go_sem] theorem Try.zero128 : zeroL Try.prog 128 = some [.nilFn] := by kernel_rfl
@[go_sem] theorem Try.small128 : smallO Try.prog 128 = some (1, 8) := by kernel_rfl
@[go_sem] theorem Try.zt128 : zeroT Try.prog 128 = some (.nilFn) := by kernel_rfl
@[go_sem] theorem Try.agg129 : aggO Try.prog 129 = some false := by kernel_rfl
@[go_sem] theorem Try.pln129 : plainO Try.prog 129 = some true := by kernel_rfl
@[go_sem] theorem Try.sz129 : szO Try.prog 129 = some 1 := by kernel_rfl
@[go_sem] theorem Try.zero129 : zeroL Try.prog 129 = some [.nilFn] := by kernel_rfl
@[go_sem] theorem Try.small129 : smallO Try.prog 129 = some (1, 8) := by kernel_rfl
@[go_sem] theorem Try.zt129 : zeroT Try.prog 129 = some (.nilFn) := by kernel_rfl
@[go_sem] theorem Try.agg130 : aggO Try.prog 130 = some false := by kernel_rfl
@[go_sem] theorem Try.pln130 : plainO Try.prog 130 = some true := by kernel_rfl
@[go_sem] theorem Try.sz130 : szO Try.prog 130 = some 1 := by kernel_rfl
@[go_sem] theorem Try.zero130 : zeroL Try.prog 130 = some [.nilMap] := by kernel_rfl
@[go_sem] theorem Try.small130 : smallO Try.prog 130 = some (1, 8) := by kernel_rfl
@[go_sem] theorem Try.key130 (a0 : Int) (a1 : Int) (a2 : Int) (a3 : Int) (a4 : Int) : keyOk Try.prog 130 (.agg [.int .i64 a0, .int .i64 a1, .int .i64 a2, .int .i64 a3, .int .i64 a4]) = true := by kernel_rfl
@[go_sem] theorem Try.map130 : mapO Try.prog 130 = some (38, 126) := by kernel_rfl
@[go_sem] theorem Try.und130 : Program.underlying Try.prog 130 = some (.map 38 126) := by kernel_rfl
@[go_sem] theorem Try.zt130 : zeroT Try.prog 130 = some (.nilMap) := by kernel_rfl
@[go_sem] theorem Try.agg131 : aggO Try.prog 131 = some false := by kernel_rfl
@[go_sem] theorem Try.pln131 : plainO Try.prog 131 = some true := by kernel_rfl
@[go_sem] theorem Try.sz131 : szO Try.prog 131 = some 1 := by kernel_rfl
@[go_sem] theorem Try.zero131 : zeroL Try.prog 131 = some [.nilFn] := by kernel_rfl
@[go_sem] theorem Try.small131 : smallO Try.prog 131 = some (1, 8) := by kernel_rfl
@[go_sem] theorem Try.zt131 : zeroT Try.prog 131 = some (.nilFn) := by kernel_rfl
@[go_sem] theorem Try.agg132 : aggO Try.prog 132 = some false := by kernel_rfl
@[go_sem] theorem Try.pln132 : plainO Try.prog 132 = some true := by kernel_rfl
@[go_sem] theorem Try.sz132 : szO Try.prog 132 = some 1 := by kernel_rfl
@[go_sem] theorem Try.zero132 : zeroL Try.prog 132 = some [.nilFn] := by kernel_rfl
@[go_sem] theorem Try.small132 : smallO Try.prog 132 = some (1, 8) := by kernel_rfl
@[go_sem] theorem Try.zt132 : zeroT Try.prog 132 = some (.nilFn) := by kernel_rfl
@[go_sem] theorem Try.agg133 : aggO Try.prog 133 = some true := by kernel_rfl
@[go_sem] theorem Try.pln133 : plainO Try.prog 133 = some true := by kernel_rfl
@[go_sem] theorem Try.sz133 : szO Try.prog 133 = some 1 := by kernel_rfl
@[go_sem] theorem Try.zero133 : zeroL Try.prog 133 = some [.nilFn] := by kernel_rfl
@[go_sem] theorem Try.small133 : smallO Try.prog 133 = some (1, 8) := by kernel_rfl
@[go_sem] theorem Try.zt133 : zeroT Try.prog 133 = some (.agg [.nilFn]) := by kernel_rfl
@[go_sem] theorem Try.fld133_0 : fieldO Try.prog 133 0 = some (0, 132) := by kernel_rfl
@[go_sem] theorem Try.bld133 (parts : List (Nat × TV)) : buildO Try.prog 133 parts = (fillT (fun i => ([(0, 1)] : List (Nat × Nat))[i]?) [.nilFn] parts).map .agg := by kernel_rfl
@[go_sem] theorem Try.bldp133 (parts : List (Nat × PV)) : buildP Try.prog 133 parts = fillP (fun i => ([(0, 1)] : List (Nat × Nat))[i]?) [.t (.nilFn)] parts := by kernel_rfl
@[go_sem] theorem Try.eqg133 : Program.eqGuardType Try.prog (Program.depth Try.prog) 133 = false := by kernel_rfl
@[go_sem] theorem Try.agg134 : aggO Try.prog 134 = some true := by kernel_rfl
@[go_sem] theorem Try.pln134 : plainO Try.prog 134 = some true := by kernel_rfl
@[go_sem] theorem Try.sz134 : szO Try.prog 134 = some 1 := by kernel_rfl
@[go_sem] theorem Try.zero134 : zeroL Try.prog 134 = some [.nilFn] := by kernel_rfl
@[go_sem] theorem Try.small134 : smallO Try.prog 134 = some (1, 8) := by kernel_rfl
@[go_sem] theorem Try.zt134 : zeroT Try.prog 134 = some (.agg [.nilFn]) := by kernel_rfl
@[go_sem] theorem Try.fld134_0 : fieldO Try.prog 134 0 = some (0, 132) := by kernel_rfl
@[go_sem] theorem Try.bld134 (parts : List (Nat × TV)) : buildO Try.prog 134 parts = (fillT (fun i => ([(0, 1)] : List (Nat × Nat))[i]?) [.nilFn] parts).map .agg := by kernel_rfl
@[go_sem] theorem Try.bldp134 (parts : List (Nat × PV)) : buildP Try.prog 134 parts = fillP (fun i => ([(0, 1)] : List (Nat × Nat))[i]?) [.t (.nilFn)] parts := by kernel_rfl
@[go_sem] theorem Try.eqg134 : Program.eqGuardType Try.prog (Program.depth Try.prog) 134 = false := by kernel_rfl
@[go_sem] theorem Try.agg135 : aggO Try.prog 135 = some false := by kernel_rfl
@[go_sem] theorem Try.pln135 : plainO Try.prog 135 = some true := by kernel_rfl
@[go_sem] theorem Try.sz135 : szO Try.prog 135 = some 1 := by kernel_rfl
@[go_sem] theorem Try.zero135 : zeroL Try.prog 135 = some [.nilFn] := by kernel_rfl
@[go_sem] theorem Try.small135 : smallO Try.prog 135 = some (1, 8) := by kernel_rfl
@[go_sem] theorem Try.zt135 : zeroT Try.prog 135 = some (.nilFn) := by kernel_rfl
@[go_sem] theorem Try.agg137 : aggO Try.prog 137 = some false := by kernel_rfl
@[go_sem] theorem Try.pln137 : plainO Try.prog 137 = some true := by kernel_rfl
@[go_sem] theorem Try.sz137 : szO Try.prog 137 = some 1 := by kernel_rfl
@[go_sem] theorem Try.zero137 : zeroL Try.prog 137 = some [.nilMap] := by kernel_rfl
@[go_sem] theorem Try.small137 : smallO Try.prog 137 = some (1, 8) := by kernel_rfl
@[go_sem] theorem Try.key137 (a0 : Int) (a1 : Int) : keyOk Try.prog 137 (.agg [.int .i64 a0, .int .i64 a1]) = true := by kernel_rfl
@[go_sem] theorem Try.map137 : mapO Try.prog 137 = some (138, 38) := by kernel_rfl
@[go_sem] theorem Try.und137 : Program.underlying Try.prog 137 = some (.map 138 38) := by kernel_rfl
@[go_sem] theorem Try.zt137 : zeroT Try.prog 137 = some (.nilMap) := by kernel_rfl
@[go_sem] theorem Try.agg138 : aggO Try.prog 138 = some true := by kernel_rfl
@[go_sem] theorem Try.pln138 : plainO Try.prog 138 = some true := by kernel_rfl
@[go_sem] theorem Try.sz138 : szO Try.prog 138 = some 2 := by kernel_rfl
@[go_sem] theorem Try.zero138 : zeroL Try.prog 138 = some [.int .i64 0, .int .i64 0] := by kernel_rfl
@[go_sem] theorem Try.small138 : smallO Try.prog 138 = some (2, 16) := by kernel_rfl
@[go_sem] theorem Try.zt138 : zeroT Try.prog 138 = some (.agg [.int .i64 0, .int .i64 0]) := by kernel_rfl
@[go_sem] theorem Try.bld138 (parts : List (Nat × TV)) : buildO Try.prog 138 parts = (fillT (fun i => some (i * 1, 1)) [.int .i64 0, .int .i64 0] parts).map .agg := by kernel_rfl
@[go_sem] theorem Try.eq138 (a0 b0 : Int) (a1 b1 : Int) : eqT Try.prog 20 138 (.agg [.int .i64 a0, .int .i64 a1]) (.agg [.int .i64 b0, .int .i64 b1]) = some ((a0 == b0) && ((a1 == b1) && true)) := by kernel_rfl
@[go_sem] theorem Try.eqg138 : Program.eqGuardType Try.prog (Program.depth Try.prog) 138 = false := by kernel_rfl
@[go_sem] theorem Try.arr138 : arrayO Try.prog 138 = some (2, 3) := by kernel_rfl
@[go_sem] theorem Try.und138 : Program.underlying Try.prog 138 = some (.array 2 3) := by kernel_rfl
@[go_sem] theorem Try.agg140 : aggO Try.prog 140 = some false := by kernel_rfl
@[go_sem] theorem Try.pln140 : plainO Try.prog 140 = some true := by kernel_rfl
@[go_sem] theorem Try.sz140 : szO Try.prog 140 = some 1 := by kernel_rfl
@[go_sem] theorem Try.zero140 : zeroL Try.prog 140 = some [.nilFn] := by kernel_rfl
@[go_sem] theorem Try.small140 : smallO Try.prog 140 = some (1, 8) := by kernel_rfl
@[go_sem] theorem Try.zt140 : zeroT Try.prog 140 = some (.nilFn) := by kernel_rfl
@[go_sem] theorem Try.agg141 : aggO Try.prog 141 = some true := by kernel_rfl
@[go_sem] theorem Try.pln141 : plainO Try.prog 141 = some true := by kernel_rfl
@[go_sem] theorem Try.sz141 : szO Try.prog 141 = some 8 := by kernel_rfl
@[go_sem] theorem Try.zero141 : zeroL Try.prog 141 = some [.bool false, .bool false, .bool false, .bool false, .bool false, .bool false, .bool false, .bool false] := by kernel_rfl
@[go_sem] theorem Try.small141 : smallO Try.prog 141 = some (8, 8) := by kernel_rfl
@[go_sem] theorem Try.zt141 : zeroT Try.prog 141 = some (.agg [.bool false, .bool false, .bool false, .bool false, .bool false, .bool false, .bool false, .bool false]) := by kernel_rfl
@[go_sem] theorem Try.bld141 (parts : List (Nat × TV)) : buildO Try.prog 141 parts = (fillT (fun i => some (i * 1, 1)) [.bool false, .bool false, .bool false, .bool false, .bool false, .bool false, .bool false, .bool false] parts).map .agg := by kernel_rfl
@[go_sem] theorem Try.eq141 (a0 b0 : Bool) (a1 b1 : Bool) (a2 b2 : Bool) (a3 b3 : Bool) (a4 b4 : Bool) (a5 b5 : Bool) (a6 b6 : Bool) (a7 b7 : Bool) : eqT Try.prog 20 141 (.agg [.bool a0, .bool a1, .bool a2, .bool a3, .bool a4, .bool a5, .bool a6, .bool a7]) (.agg [.bool b0, .bool b1, .bool b2, .bool b3, .bool b4, .bool b5, .bool b6, .bool b7]) = some ((a0 == b0) && ((a1 == b1) && ((a2 == b2) && ((a3 == b3) && ((a4 == b4) && ((a5 == b5) && ((a6 == b6) && ((a7 == b7) && true)))))))) := by kernel_rfl
@[go_sem] theorem Try.eqg141 : Program.eqGuardType Try.prog (Program.depth Try.prog) 141 = false := by kernel_rfl
@[go_sem] theorem Try.arr141 : arrayO Try.prog 141 = some (8, 4) := by kernel_rfl
@[go_sem] theorem Try.und141 : Program.underlying Try.prog 141 = some (.array 8 4) := by kernel_rfl
@[go_sem] theorem Try.agg142 : aggO Try.prog 142 = some false := by kernel_rfl
@[go_sem] theorem Try.pln142 : plainO Try.prog 142 = some true := by kernel_rfl
@[go_sem] theorem Try.sz142 : szO Try.prog 142 = some 1 := by kernel_rfl
@[go_sem] theorem Try.zero142 : zeroL Try.prog 142 = some [.nilFn] := by kernel_rfl
@[go_sem] theorem Try.small142 : smallO Try.prog 142 = some (1, 8) := by kernel_rfl
@[go_sem] theorem Try.zt142 : zeroT Try.prog 142 = some (.nilFn) := by kernel_rfl
@[go_sem] theorem Try.agg143 : aggO Try.prog 143 = some true := by kernel_rfl
@[go_sem] theorem Try.pln143 : plainO Try.prog 143 = some true := by kernel_rfl
@[go_sem] theorem Try.sz143 : szO Try.prog 143 = some 5 := by kernel_rfl
@[go_sem] theorem Try.zero143 : zeroL Try.prog 143 = some [.int .i64 0, .int .i64 0, .int .i64 0, .int .i64 0, .int .i64 0] := by kernel_rfl
@[go_sem] theorem Try.small143 : smallO Try.prog 143 = some (5, 40) := by kernel_rfl
@[go_sem] theorem Try.zt143 : zeroT Try.prog 143 = some (.agg [.int .i64 0, .int .i64 0, .int .i64 0, .int .i64 0, .int .i64 0]) := by kernel_rfl
@[go_sem] theorem Try.fld143_0 : fieldO Try.prog 143 0 = some (0, 60) := by kernel_rfl
@[go_sem] theorem Try.bld143 (parts : List (Nat × TV)) : buildO Try.prog 143 parts = (fillT (fun i => ([(0, 5)] : List (Nat × Nat))[i]?) [.int .i64 0, .int .i64 0, .int .i64 0, .int .i64 0, .int .i64 0] parts).map .agg := by kernel_rfl
@[go_sem] theorem Try.eqg143 : Program.eqGuardType Try.prog (Program.depth Try.prog) 143 = false := by kernel_rfl
@[go_sem] theorem Try.agg144 : aggO Try.prog 144 = some true := by kernel_rfl
@[go_sem] theorem Try.pln144 : plainO Try.prog 144 = some true := by kernel_rfl
@[go_sem] theorem Try.sz144 : szO Try.prog 144 = some 5 := by kernel_rfl
@[go_sem] theorem Try.zero144 : zeroL Try.prog 144 = some [.int .i64 0, .int .i64 0, .int .i64 0, .int .i64 0, .int .i64 0] := by kernel_rfl
@[go_sem] theorem Try.small144 : smallO Try.prog 144 = some (5, 40) := by kernel_rfl
@[go_sem] theorem Try.zt144 : zeroT Try.prog 144 = some (.agg [.int .i64 0, .int .i64 0, .int .i64 0, .int .i64 0, .int .i64 0]) := by kernel_rfl
@[go_sem] theorem Try.fld144_0 : fieldO Try.prog 144 0 = some (0, 60) := by kernel_rfl
@[go_sem] theorem Try.bld144 (parts : List (Nat × TV)) : buildO Try.prog 144 parts = (fillT (fun i => ([(0, 5)] : List (Nat × Nat))[i]?) [.int .i64 0, .int .i64 0, .int .i64 0, .int .i64 0, .int .i64 0] parts).map .agg := by kernel_rfl
@[go_sem] theorem Try.eq144 (a0 b0 : Int) (a1 b1 : Int) (a2 b2 : Int) (a3 b3 : Int) (a4 b4 : Int) : eqT Try.prog 20 144 (.agg [.int .i64 a0, .int .i64 a1, .int .i64 a2, .int .i64 a3, .int .i64 a4]) (.agg [.int .i64 b0, .int .i64 b1, .int .i64 b2, .int .i64 b3, .int .i64 b4]) = some ((((a0 == b0) && ((a1 == b1) && true)) && (((a2 == b2) && ((a3 == b3) && true)) && ((a4 == b4) && true))) && true) := by kernel_rfl
@[go_sem] theorem Try.eqg144 : Program.eqGuardType Try.prog (Program.depth Try.prog) 144 = false := by kernel_rfl
@[go_sem] theorem Try.agg145 : aggO Try.prog 145 = some true := by kernel_rfl
@[go_sem] theorem Try.pln145 : plainO Try.prog 145 = some true := by kernel_rfl
@[go_sem] theorem Try.sz145 : szO Try.prog 145 = some 6 := by kernel_rfl
@[go_sem] theorem Try.zero145 : zeroL Try.prog 145 = some [.nilSl, .nilSl, .int .i64 0, .int .i64 0, .int .i64 0, .int .i64 0] := by kernel_rfl
@[go_sem] theorem Try.small145 : smallO Try.prog 145 = some (6, 80) := by kernel_rfl
@[go_sem] theorem Try.zt145 : zeroT Try.prog 145 = some (.agg [.nilSl, .nilSl, .int .i64 0, .int .i64 0, .int .i64 0, .int .i64 0]) := by kernel_rfl
@[go_sem] theorem Try.fld145_0 : fieldO Try.prog 145 0 = some (0, 64) := by kernel_rfl
@[go_sem] theorem Try.bld145 (parts : List (Nat × TV)) : buildO Try.prog 145 parts = (fillT (fun i => ([(0, 6)] : List (Nat × Nat))[i]?) [.nilSl, .nilSl, .int .i64 0, .int .i64 0, .int .i64 0, .int .i64 0] parts).map .agg := by kernel_rfl
@[go_sem] theorem Try.bldp145 (parts : List (Nat × PV)) : buildP Try.prog 145 parts = fillP (fun i => ([(0, 6)] : List (Nat × Nat))[i]?) [.t (.nilSl), .t (.nilSl), .t (.int .i64 0), .t (.int .i64 0), .t (.int .i64 0), .t (.int .i64 0)] parts := by kernel_rfl
@[go_sem] theorem Try.eqg145 : Program.eqGuardType Try.prog (Program.depth Try.prog) 145 = false := by kernel_rfl
@[go_sem] theorem Try.agg146 : aggO Try.prog 146 = some true := by kernel_rfl
@[go_sem] theorem Try.pln146 : plainO Try.prog 146 = some true := by kernel_rfl
@[go_sem] theorem Try.sz146 : szO Try.prog 146 = some 6 := by kernel_rfl
@[go_sem] theorem Try.zero146 : zeroL Try.prog 146 = some [.nilSl, .nilSl, .int .i64 0, .int .i64 0, .int .i64 0, .int .i64 0] := by kernel_rfl
@[go_sem] theorem Try.small146 : smallO Try.prog 146 = some (6, 80) := by kernel_rfl
@[go_sem] theorem Try.zt146 : zeroT Try.prog 146 = some (.agg [.nilSl, .nilSl, .int .i64 0, .int .i64 0, .int .i64 0, .int .i64 0]) := by kernel_rfl
@[go_sem] theorem Try.fld146_0 : fieldO Try.prog 146 0 = some (0, 64) := by kernel_rfl
@[go_sem] theorem Try.bld146 (parts : List (Nat × TV)) : buildO Try.prog 146 parts = (fillT (fun i => ([(0, 6)] : List (Nat × Nat))[i]?) [.nilSl, .nilSl, .int .i64 0, .int .i64 0, .int .i64 0, .int .i64 0] parts).map .agg := by kernel_rfl
@[go_sem] theorem Try.bldp146 (parts : List (Nat × PV)) : buildP Try.prog 146 parts = fillP (fun i => ([(0, 6)] : List (Nat × Nat))[i]?) [.t (.nilSl), .t (.nilSl), .t (.int .i64 0), .t (.int .i64 0), .t (.int .i64 0), .t (.int .i64 0)] parts := by kernel_rfl
@[go_sem] theorem Try.eqg146 : Program.eqGuardType Try.prog (Program.depth Try.prog) 146 = false := by kernel_rfl
@[go_sem] theorem Try.agg148 : aggO Try.prog 148 = some false := by kernel_rfl
@[go_sem] theorem Try.pln148 : plainO Try.prog 148 = some true := by kernel_rfl
@[go_sem] theorem Try.sz148 : szO Try.prog 148 = some 1 := by kernel_rfl
@[go_sem] theorem Try.zero148 : zeroL Try.prog 148 = some [.nilFn] := by kernel_rfl
@[go_sem] theorem Try.small148 : smallO Try.prog 148 = some (1, 8) := by kernel_rfl
@[go_sem] theorem Try.zt148 : zeroT Try.prog 148 = some (.nilFn) := by kernel_rfl
@[go_sem] theorem Try.agg149 : aggO Try.prog 149 = some false := by kernel_rfl
@[go_sem] theorem Try.pln149 : plainO Try.prog 149 = some false := by kernel_rfl
@[go_sem] theorem Try.sz149 : szO Try.prog 149 = some 1 := by kernel_rfl
@[go_sem] theorem Try.zero149 : zeroL Try.prog 149 = some [.nilIf] := by kernel_rfl
@[go_sem] theorem Try.small149 : smallO Try.prog 149 = some (1, 16) := by kernel_rfl
@[go_sem] theorem Try.zt149 : zeroT Try.prog 149 = some (.nilIf) := by kernel_rfl
@[go_sem] theorem Try.agg150 : aggO Try.prog 150 = some false := by kernel_rfl
@[go_sem] theorem Try.pln150 : plainO Try.prog 150 = some false := by kernel_rfl
@[go_sem] theorem Try.sz150 : szO Try.prog 150 = some 1 := by kernel_rfl
@[go_sem] theorem Try.zero150 : zeroL Try.prog 150 = some [.nilIf] := by kernel_rfl
@[go_sem] theorem Try.small150 : smallO Try.prog 150 = some (1, 16) := by kernel_rfl
@[go_sem] theorem Try.zt150 : zeroT Try.prog 150 = some (.nilIf) := by kernel_rfl
@[go_sem] theorem Try.agg151 : aggO Try.prog 151 = some false := by kernel_rfl
@[go_sem] theorem Try.pln151 : plainO Try.prog 151 = some true := by kernel_rfl
@[go_sem] theorem Try.sz151 : szO Try.prog 151 = some 1 := by kernel_rfl
@[go_sem] theorem Try.zero151 : zeroL Try.prog 151 = some [.nilFn] := by kernel_rfl
@[go_sem] theorem Try.small151 : smallO Try.prog 151 = some (1, 8) := by kernel_rfl
@[go_sem] theorem Try.zt151 : zeroT Try.prog 151 = some (.nilFn) := by kernel_rfl
@[go_sem] theorem Try.agg152 : aggO Try.prog 152 = some false := by kernel_rfl
@[go_sem] theorem Try.pln152 : plainO Try.prog 152 = some true := by kernel_rfl
@[go_sem] theorem Try.sz152 : szO Try.prog 152 = some 1 := by kernel_rfl
@[go_sem] theorem Try.zero152 : zeroL Try.prog 152 = some [.nilFn] := by kernel_rfl
@[go_sem] theorem Try.small152 : smallO Try.prog 152 = some (1, 8) := by kernel_rfl
@[go_sem] theorem Try.zt152 : zeroT Try.prog 152 = some (.nilFn) := by kernel_rfl
@[go_sem] theorem Try.agg153 : aggO Try.prog 153 = some false := by kernel_rfl
@[go_sem] theorem Try.pln153 : plainO Try.prog 153 = some true := by kernel_rfl
@[go_sem] theorem Try.sz153 : szO Try.prog 153 = some 1 := by kernel_rfl
@[go_sem] theorem Try.zero153 : zeroL Try.prog 153 = some [.nilFn] := by kernel_rfl
@[go_sem] theorem Try.small153 : smallO Try.prog 153 = some (1, 8) := by kernel_rfl
@[go_sem] theorem Try.zt153 : zeroT Try.prog 153 = some (.nilFn) := by kernel_rfl
@[go_sem] theorem Try.agg154 : aggO Try.prog 154 = some false := by kernel_rfl
@[go_sem] theorem Try.pln154 : plainO Try.prog 154 = some true := by kernel_rfl
@[go_sem] theorem Try.sz154 : szO Try.prog 154 = some 1 := by kernel_rfl
@[go_sem] theorem Try.zero154 : zeroL Try.prog 154 = some [.nilFn] := by kernel_rfl
@[go_sem] theorem Try.small154 : smallO Try.prog 154 = some (1, 8) := by kernel_rfl
@[go_sem] theorem Try.zt154 : zeroT Try.prog 154 = some (.nilFn) := by kernel_rfl
@[go_sem] theorem Try.agg155 : aggO Try.prog 155 = some false := by kernel_rfl
@[go_sem] theorem Try.pln155 : plainO Try.prog 155 = some true := by kernel_rfl
@[go_sem] theorem Try.sz155 : szO Try.prog 155 = some 1 := by kernel_rfl
@[go_sem] theorem Try.zero155 : zeroL Try.prog 155 = some [.nilFn] := by kernel_rfl
@[go_sem] theorem Try.small155 : smallO Try.prog 155 = some (1, 8) := by kernel_rfl
@[go_sem] theorem Try.zt155 : zeroT Try.prog 155 = some (.nilFn) := by kernel_rfl
@[go_sem] theorem Try.agg156 : aggO Try.prog 156 = some true := by kernel_rfl
@[go_sem] theorem Try.pln156 : plainO Try.prog 156 = some true := by kernel_rfl
@[go_sem] theorem Try.sz156 : szO Try.prog 156 = some 4 := by kernel_rfl
@[go_sem] theorem Try.zero156 : zeroL Try.prog 156 = some [.nilSl, .int .i64 0, .int .i64 0, .nilSl] := by kernel_rfl
@[go_sem] theorem Try.small156 : smallO Try.prog 156 = some (4, 64) := by kernel_rfl
@[go_sem] theorem Try.zt156 : zeroT Try.prog 156 = some (.agg [.nilSl, .int .i64 0, .int .i64 0, .nilSl]) := by kernel_rfl
@[go_sem] theorem Try.fld156_0 : fieldO Try.prog 156 0 = some (0, 39) := by kernel_rfl
@[go_sem] theorem Try.fld156_1 : fieldO Try.prog 156 1 = some (1, 3) := by kernel_rfl
@[go_sem] theorem Try.fld156_2 : fieldO Try.prog 156 2 = some (2, 3) := by kernel_rfl
@[go_sem] theorem Try.fld156_3 : fieldO Try.prog 156 3 = some (3, 39) := by kernel_rfl
@[go_sem] theorem Try.bld156 (parts : List (Nat × TV)) : buildO Try.prog 156 parts = (fillT (fun i => ([(0, 1), (1, 1), (2, 1), (3, 1)] : List (Nat × Nat))[i]?) [.nilSl, .int .i64 0, .int .i64 0, .nilSl] parts).map .agg := by kernel_rfl
@[go_sem] theorem Try.bldp156 (parts : List (Nat × PV)) : buildP Try.prog 156 parts = fillP (fun i => ([(0, 1), (1, 1), (2, 1), (3, 1)] : List (Nat × Nat))[i]?) [.t (.nilSl), .t (.int .i64 0), .t (.int .i64 0), .t (.nilSl)] parts := by kernel_rfl
@[go_sem] theorem Try.eqg156 : Program.eqGuardType Try.prog (Program.depth Try.prog) 156 = false := by kernel_rfl
@[go_sem] theorem Try.agg157 : aggO Try.prog 157 = some true := by kernel_rfl
@[go_sem] theorem Try.pln157 : plainO Try.prog 157 = some true := by kernel_rfl
@[go_sem] theorem Try.sz157 : szO Try.prog 157 = some 4 := by kernel_rfl
@[go_sem] theorem Try.zero157 : zeroL Try.prog 157 = some [.nilSl, .int .i64 0, .int .i64 0, .nilSl] := by kernel_rfl
@[go_sem] theorem Try.small157 : smallO Try.prog 157 = some (4, 64) := by kernel_rfl
@[go_sem] theorem Try.zt157 : zeroT Try.prog 157 = some (.agg [.nilSl, .int .i64 0, .int .i64 0, .nilSl]) := by kernel_rfl
@[go_sem] theorem Try.fld157_0 : fieldO Try.prog 157 0 = some (0, 39) := by kernel_rfl
@[go_sem] theorem Try.fld157_1 : fieldO Try.prog 157 1 = some (1, 3) := by kernel_rfl
@[go_sem] theorem Try.fld157_2 : fieldO Try.prog 157 2 = some (2, 3) := by kernel_rfl
@[go_sem] theorem Try.fld157_3 : fieldO Try.prog 157 3 = some (3, 39) := by kernel_rfl
@[go_sem] theorem Try.bld157 (parts : List (Nat × TV)) : buildO Try.prog 157 parts = (fillT (fun i => ([(0, 1), (1, 1), (2, 1), (3, 1)] : List (Nat × Nat))[i]?) [.nilSl, .int .i64 0, .int .i64 0, .nilSl] parts).map .agg := by kernel_rfl
@[go_sem] theorem Try.bldp157 (parts : List (Nat × PV)) : buildP Try.prog 157 parts = fillP (fun i => ([(0, 1), (1, 1), (2, 1), (3, 1)] : List (Nat × Nat))[i]?) [.t (.nilSl), .t (.int .i64 0), .t (.int .i64 0), .t (.nilSl)] parts := by kernel_rfl
@[go_sem] theorem Try.eqg157 : Program.eqGuardType Try.prog (Program.depth Try.prog) 157 = false := by kernel_rfl
@[go_sem] theorem Try.agg158 : aggO Try.prog 158 = some false := by kernel_rfl
@[go_sem] theorem Try.pln158 : plainO Try.prog 158 = some true := by kernel_rfl
@[go_sem] theorem Try.sz158 : szO Try.prog 158 = some 1 := by kernel_rfl
@[go_sem] theorem Try.zero158 : zeroL Try.prog 158 = some [.nilFn] := by kernel_rfl
@[go_sem] theorem Try.small158 : smallO Try.prog 158 = some (1, 8) := by kernel_rfl
@[go_sem] theorem Try.zt158 : zeroT Try.prog 158 = some (.nilFn) := by kernel_rfl
@[go_sem] theorem Try.agg159 : aggO Try.prog 159 = some false := by kernel_rfl
@[go_sem] theorem Try.pln159 : plainO Try.prog 159 = some true := by kernel_rfl
@[go_sem] theorem Try.sz159 : szO Try.prog 159 = some 1 := by kernel_rfl
@[go_sem] theorem Try.zero159 : zeroL Try.prog 159 = some [.nilMap] := by kernel_rfl
@[go_sem] theorem Try.small159 : smallO Try.prog 159 = some (1, 8) := by kernel_rfl
@[go_sem] theorem Try.key159 (a0 : Int) (a1 : Int) : keyOk Try.prog 159 (.agg [.int .i64 a0, .int .i64 a1]) = true := by kernel_rfl
@[go_sem] theorem Try.map159 : mapO Try.prog 159 = some (209, 3) := by kernel_rfl
@[go_sem] theorem Try.und159 : Program.underlying Try.prog 159 = some (.map 209 3) := by kernel_rfl
@[go_sem] theorem Try.zt159 : zeroT Try.prog 159 = some (.nilMap) := by kernel_rfl
@[go_sem] theorem Try.agg160 : aggO Try.prog 160 = some true := by kernel_rfl
@[go_sem] theorem Try.pln160 : plainO Try.prog 160 = some true := by kernel_rfl
@[go_sem] theorem Try.sz160 : szO Try.prog 160 = some 11 := by kernel_rfl
@[go_sem] theorem Try.zero160 : zeroL Try.prog 160 = some [.nilSl, .nilSl, .int .i64 0, .int .i64 0, .int .i64 0, .int .i64 0, .int .i64 0, .int .i64 0, .int .i64 0, .int .i64 0, .nilMap] := by kernel_rfl
@[go_sem] theorem Try.small160 : smallO Try.prog 160 = some (11, 120) := by kernel_rfl
@[go_sem] theorem Try.zt160 : zeroT Try.prog 160 = some (.agg [.nilSl, .nilSl, .int .i64 0, .int .i64 0, .int .i64 0, .int .i64 0, .int .i64 0, .int .i64 0, .int .i64 0, .int .i64 0, .nilMap]) := by kernel_rfl
@[go_sem] theorem Try.fld160_0 : fieldO Try.prog 160 0 = some (0, 73) := by kernel_rfl
@[go_sem] theorem Try.fld160_1 : fieldO Try.prog 160 1 = some (9, 3) := by kernel_rfl
@[go_sem] theorem Try.fld160_2 : fieldO Try.prog 160 2 = some (10, 159) := by kernel_rfl
@[go_sem] theorem Try.bld160 (parts : List (Nat × TV)) : buildO Try.prog 160 parts = (fillT (fun i => ([(0, 9), (9, 1), (10, 1)] : List (Nat × Nat))[i]?) [.nilSl, .nilSl, .int .i64 0, .int .i64 0, .int .i64 0, .int .i64 0, .int .i64 0, .int .i64 0, .int .i64 0, .int .i64 0, .nilMap] parts).map .agg := by kernel_rfl
@[go_sem] theorem Try.bldp160 (parts : List (Nat × PV)) : buildP Try.prog 160 parts = fillP (fun i => ([(0, 9), (9, 1), (10, 1)] : List (Nat × Nat))[i]?) [.t (.nilSl), .t (.nilSl), .t (.int .i64 0), .t (.int .i64 0), .t (.int .i64 0), .t (.int .i64 0), .t (.int .i64 0), .t (.int .i64 0), .t (.int .i64 0), .t (.int .i64 0), .t (.nilMap)] parts := by kernel_rfl
@[go_sem] theorem Try.eqg160 : Program.eqGuardType Try.prog (Program.depth Try.prog) 160 = false := by kernel_rfl
@[go_sem] theorem Try.agg161 : aggO Try.prog 161 = some true := by kernel_rfl
@[go_sem] theorem Try.pln161 : plainO Try.prog 161 = some true := by kernel_rfl
@[go_sem] theorem Try.sz161 : szO Try.prog 161 = some 11 := by kernel_rfl
@[go_sem] theorem Try.zero161 : zeroL Try.prog 161 = some [.nilSl, .nilSl, .int .i64 0, .int .i64 0, .int .i64 0, .int .i64 0, .int .i64 0, .int .i64 0, .int .i64 0, .int .i64 0, .nilMap] := by kernel_rfl
@[go_sem] theorem Try.small161 : smallO Try.prog 161 = some (11, 120) := by kernel_rfl
@[go_sem] theorem Try.zt161 : zeroT Try.prog 161 = some (.agg [.nilSl, .nilSl, .int .i64 0, .int .i64 0, .int .i64 0, .int .i64 0, .int .i64 0, .int .i64 0, .int .i64 0, .int .i64 0, .nilMap]) := by kernel_rfl
@[go_sem] theorem Try.fld161_0 : fieldO Try.prog 161 0 = some (0, 73) := by kernel_rfl
@[go_sem] theorem Try.fld161_1 : fieldO Try.prog 161 1 = some (9, 3) := by kernel_rfl
@[go_sem] theorem Try.fld161_2 : fieldO Try.prog 161 2 = some (10, 159) := by kernel_rfl
@[go_sem] theorem Try.bld161 (parts : List (Nat × TV)) : buildO Try.prog 161 parts = (fillT (fun i => ([(0, 9), (9, 1), (10, 1)] : List (Nat × Nat))[i]?) [.nilSl, .nilSl, .int .i64 0, .int .i64 0, .int .i64 0, .int .i64 0, .int .i64 0, .int .i64 0, .int .i64 0, .int .i64 0, .nilMap] parts).map .agg := by kernel_rfl
@[go_sem] theorem Try.bldp161 (parts : List (Nat × PV)) : buildP Try.prog 161 parts = fillP (fun i => ([(0, 9), (9, 1), (10, 1)] : List (Nat × Nat))[i]?) [.t (.nilSl), .t (.nilSl), .t (.int .i64 0), .t (.int .i64 0), .t (.int .i64 0), .t (.int .i64 0), .t (.int .i64 0), .t (.int .i64 0), .t (.int .i64 0), .t (.int .i64 0), .t (.nilMap)] parts := by kernel_rfl
@[go_sem] theorem Try.eqg161 : Program.eqGuardType Try.prog (Program.depth Try.prog) 161 = false := by kernel_rfl
@[go_sem] theorem Try.agg163 : aggO Try.prog 163 = some false := by kernel_rfl
@[go_sem] theorem Try.pln163 : plainO Try.prog 163 = some true := by kernel_rfl
@[go_sem] theorem Try.sz163 : szO Try.prog 163 = some 1 := by kernel_rfl
@[go_sem] theorem Try.zero163 : zeroL Try.prog 163 = some [.nilFn] := by kernel_rfl
@[go_sem] theorem Try.small163 : smallO Try.prog 163 = some (1, 8) := by kernel_rfl
@[go_sem] theorem Try.zt163 : zeroT Try.prog 163 = some (.nilFn) := by kernel_rfl
@[go_sem] theorem Try.agg164 : aggO Try.prog 164 = some false := by kernel_rfl
@[go_sem] theorem Try.pln164 : plainO Try.prog 164 = some true := by kernel_rfl
@[go_sem] theorem Try.sz164 : szO Try.prog 164 = some 1 := by kernel_rfl
@[go_sem] theorem Try.zero164 : zeroL Try.prog 164 = some [.int .u64 0] := by kernel_rfl
@[go_sem] theorem Try.small164 : smallO Try.prog 164 = some (1, 8) := by kernel_rfl
@[go_sem] theorem Try.zt164 : zeroT Try.prog 164 = some (.int .u64 0) := by kernel_rfl
@[go_sem] theorem Try.knd164 : kindO Try.prog 164 = some .u64 := by kernel_rfl
@[go_sem] theorem Try.und164 : Program.underlying Try.prog 164 = some (.int .u64) := by kernel_rfl
@[go_sem] theorem Try.agg165 : aggO Try.prog 165 = some false := by kernel_rfl
@[go_sem] theorem Try.pln165 : plainO Try.prog 165 = some true := by kernel_rfl
@[go_sem] theorem Try.sz165 : szO Try.prog 165 = some 1 := by kernel_rfl
@[go_sem] theorem Try.zero165 : zeroL Try.prog 165 = some [.nilFn] := by kernel_rfl
@[go_sem] theorem Try.small165 : smallO Try.prog 165 = some (1, 8) := by kernel_rfl
@[go_sem] theorem Try.zt165 : zeroT Try.prog 165 = some (.nilFn) := by kernel_rfl
@[go_sem] theorem Try.agg166 : aggO Try.prog 166 = some true := by kernel_rfl
@[go_sem] theorem Try.pln166 : plainO Try.prog 166 = some true := by kernel_rfl
@[go_sem] theorem Try.sz166 : szO Try.prog 166 = some 8 := by kernel_rfl
@[go_sem] theorem Try.zero166 : zeroL Try.prog 166 = some [.int .i64 0, .int .i64 0, .int .i64 0, .int .i64 0, .int .i64 0, .int .i64 0, .int .i64 0, .int .i64 0] := by kernel_rfl
@[go_sem] theorem Try.small166 : smallO Try.prog 166 = some (8, 64) := by kernel_rfl
@[go_sem] theorem Try.zt166 : zeroT Try.prog 166 = some (.agg [.int .i64 0, .int .i64 0, .int .i64 0, .int .i64 0, .int .i64 0, .int .i64 0, .int .i64 0, .int .i64 0]) := by kernel_rfl
@[go_sem] theorem Try.fld166_0 : fieldO Try.prog 166 0 = some (0, 84) := by kernel_rfl
@[go_sem] theorem Try.bld166 (parts : List (Nat × TV)) : buildO Try.prog 166 parts = (fillT (fun i => ([(0, 8)] : List (Nat × Nat))[i]?) [.int .i64 0, .int .i64 0, .int .i64 0, .int .i64 0, .int .i64 0, .int .i64 0, .int .i64 0, .int .i64 0] parts).map .agg := by kernel_rfl
@[go_sem] theorem Try.eqg166 : Program.eqGuardType Try.prog (Program.depth Try.prog) 166 = false := by kernel_rfl
@[go_sem] theorem Try.agg167 : aggO Try.prog 167 = some true := by kernel_rfl
@[go_sem] theorem Try.pln167 : plainO Try.prog 167 = some true := by kernel_rfl
@[go_sem] theorem Try.sz167 : szO Try.prog 167 = some 8 := by kernel_rfl
@[go_sem] theorem Try.zero167 : zeroL Try.prog 167 = some [.int .i64 0, .int .i64 0, .int .i64 0, .int .i64 0, .int .i64 0, .int .i64 0, .int .i64 0, .int .i64 0] := by kernel_rfl
@[go_sem] theorem Try.small167 : smallO Try.prog 167 = some (8, 64) := by kernel_rfl
@[go_sem] theorem Try.zt167 : zeroT Try.prog 167 = some (.agg [.int .i64 0, .int .i64 0, .int .i64 0, .int .i64 0, .int .i64 0, .int .i64 0, .int .i64 0, .int .i64 0]) := by kernel_rfl
@[go_sem] theorem Try.fld167_0 : fieldO Try.prog 167 0 = some (0, 84) := by kernel_rfl
@[go_sem] theorem Try.bld167 (parts : List (Nat × TV)) : buildO Try.prog 167 parts = (fillT (fun i => ([(0, 8)] : List (Nat × Nat))[i]?) [.int .i64 0, .int .i64 0, .int .i64 0, .int .i64 0, .int .i64 0, .int .i64 0, .int .i64 0, .int .i64 0] parts).map .agg := by kernel_rfl
@[go_sem] theorem Try.eq167 (a0 b0 : Int) (a1 b1 : Int) (a2 b2 : Int) (a3 b3 : Int) (a4 b4 : Int) (a5 b5 : Int) (a6 b6 : Int) (a7 b7 : Int) : eqT Try.prog 20 167 (.agg [.int .i64 a0, .int .i64 a1, .int .i64 a2, .int .i64 a3, .int .i64 a4, .int .i64 a5, .int .i64 a6, .int .i64 a7]) (.agg [.int .i64 b0, .int .i64 b1, .int .i64 b2, .int .i64 b3, .int .i64 b4, .int .i64 b5, .int .i64 b6, .int .i64 b7]) = some (((a0 == b0) && (((a1 == b1) && ((a2 == b2) && true)) && (((a3 == b3) && ((a4 == b4) && true)) && (((a5 == b5) && ((a6 == b6) && true)) && ((a7 == b7) && true))))) && true) := by kernel_rfl
@[go_sem] theorem Try.eqg167 : Program.eqGuardType Try.prog (Program.depth Try.prog) 167 = false := by kernel_rfl
@[go_sem] theorem Try.agg168 : aggO Try.prog 168 = some false := by kernel_rfl
@[go_sem] theorem Try.pln168 : plainO Try.prog 168 = some true := by kernel_rfl
@[go_sem] theorem Try.sz168 : szO Try.prog 168 = some 1 := by kernel_rfl
@[go_sem] theorem Try.zero168 : zeroL Try.prog 168 = some [.nilSl] := by kernel_rfl
@[go_sem] theorem Try.small168 : smallO Try.prog 168 = some (1, 24) := by kernel_rfl
@[go_sem] theorem Try.zt168 : zeroT Try.prog 168 = some (.nilSl) := by kernel_rfl
@[go_sem] theorem Try.eqn168 : eqT Try.prog 20 168 .nilSl .nilSl = some true := by kernel_rfl
@[go_sem] theorem Try.eqs168 (cs : List TV) (n : Nat) (f : Bool) : eqT Try.prog 20 168 (.sl cs n f) .nilSl = some false := by kernel_rfl
@[go_sem] theorem Try.eqt168 (cs : List TV) (n : Nat) (f : Bool) : eqT Try.prog 20 168 .nilSl (.sl cs n f) = some false := by kernel_rfl
@[go_sem] theorem Try.sl168 : sliceO Try.prog 168 = some 172 := by kernel_rfl
@[go_sem] theorem Try.und168 : Program.underlying Try.prog 168 = some (.slice 172) := by kernel_rfl
@[go_sem] theorem Try.agg170 : aggO Try.prog 170 = some false := by kernel_rfl
@[go_sem] theorem Try.pln170 : plainO Try.prog 170 = some true := by kernel_rfl
@[go_sem] theorem Try.sz170 : szO Try.prog 170 = some 1 := by kernel_rfl
@[go_sem] theorem Try.zero170 : zeroL Try.prog 170 = some [.nilFn] := by kernel_rfl
@[go_sem] theorem Try.small170 : smallO Try.prog 170 = some (1, 8) := by kernel_rfl
@[go_sem] theorem Try.zt170 : zeroT Try.prog 170 = some (.nilFn) := by kernel_rfl
@[go_sem] theorem Try.agg171 : aggO Try.prog 171 = some false := by kernel_rfl
@[go_sem] theorem Try.pln171 : plainO Try.prog 171 = some false := by kernel_rfl
@[go_sem] theorem Try.sz171 : szO Try.prog 171 = some 1 := by kernel_rfl
@[go_sem] theorem Try.zero171 : zeroL Try.prog 171 = some [.nilIf] := by kernel_rfl
@[go_sem] theorem Try.small171 : smallO Try.prog 171 = some (1, 16) := by kernel_rfl
@[go_sem] theorem Try.zt171 : zeroT Try.prog 171 = some (.nilIf) := by kernel_rfl
@[go_sem] theorem Try.agg172 : aggO Try.prog 172 = some false := by kernel_rfl
@[go_sem] theorem Try.pln172 : plainO Try.prog 172 = some false := by kernel_rfl
@[go_sem] theorem Try.sz172 : szO Try.prog 172 = some 1 := by kernel_rfl
@[go_sem] theorem Try.zero172 : zeroL Try.prog 172 = some [.nilIf] := by kernel_rfl
@[go_sem] theorem Try.small172 : smallO Try.prog 172 = some (1, 16) := by kernel_rfl
@[go_sem] theorem Try.zt172 : zeroT Try.prog 172 = some (.nilIf) := by kernel_rfl
@[go_sem] theorem Try.agg174 : aggO Try.prog 174 = some false := by kernel_rfl
@[go_sem] theorem Try.pln174 : plainO Try.prog 174 = some true := by kernel_rfl
@[go_sem] theorem Try.sz174 : szO Try.prog 174 = some 1 := by kernel_rfl
@[go_sem] theorem Try.zero174 : zeroL Try.prog 174 = some [.nilFn] := by kernel_rfl
@[go_sem] theorem Try.small174 : smallO Try.prog 174 = some (1, 8) := by kernel_rfl
@[go_sem] theorem Try.zt174 : zeroT Try.prog 174 = some (.nilFn) := by kernel_rfl
@[go_sem] theorem Try.agg175 : aggO Try.prog 175 = some true := by kernel_rfl
@[go_sem] theorem Try.pln175 : plainO Try.prog 175 = some true := by kernel_rfl
@[go_sem] theorem Try.sz175 : szO Try.prog 175 = some 6 := by kernel_rfl
@[go_sem] theorem Try.zero175 : zeroL Try.prog 175 = some [.int .i64 0, .nilSl, .int .i64 0, .int .i64 0, .int .i64 0, .nilSl] := by kernel_rfl
@[go_sem] theorem Try.small175 : smallO Try.prog 175 = some (6, 80) := by kernel_rfl
@[go_sem] theorem Try.zt175 : zeroT Try.prog 175 = some (.agg [.int .i64 0, .nilSl, .int .i64 0, .int .i64 0, .int .i64 0, .nilSl]) := by kernel_rfl
@[go_sem] theorem Try.fld175_0 : fieldO Try.prog 175 0 = some (0, 91) := by kernel_rfl
@[go_sem] theorem Try.bld175 (parts : List (Nat × TV)) : buildO Try.prog 175 parts = (fillT (fun i => ([(0, 6)] : List (Nat × Nat))[i]?) [.int .i64 0, .nilSl, .int .i64 0, .int .i64 0, .int .i64 0, .nilSl] parts).map .agg := by kernel_rfl
@[go_sem] theorem Try.bldp175 (parts : List (Nat × PV)) : buildP Try.prog 175 parts = fillP (fun i => ([(0, 6)] : List (Nat × Nat))[i]?) [.t (.int .i64 0), .t (.nilSl), .t (.int .i64 0), .t (.int .i64 0), .t (.int .i64 0), .t (.nilSl)] parts := by kernel_rfl
@[go_sem] theorem Try.eqg175 : Program.eqGuardType Try.prog (Program.depth Try.prog) 175 = false := by kernel_rfl
@[go_sem] theorem Try.agg176 : aggO Try.prog 176 = some true := by kernel_rfl
@[go_sem] theorem Try.pln176 : plainO Try.prog 176 = some true := by kernel_rfl
@[go_sem] theorem Try.sz176 : szO Try.prog 176 = some 6 := by kernel_rfl
@[go_sem] theorem Try.zero176 : zeroL Try.prog 176 = some [.int .i64 0, .nilSl, .int .i64 0, .int .i64 0, .int .i64 0, .nilSl] := by kernel_rfl
@[go_sem] theorem Try.small176 : smallO Try.prog 176 = some (6, 80) := by kernel_rfl
@[go_sem] theorem Try.zt176 : zeroT Try.prog 176 = some (.agg [.int .i64 0, .nilSl, .int .i64 0, .int .i64 0, .int .i64 0, .nilSl]) := by kernel_rfl
@[go_sem] theorem Try.fld176_0 : fieldO Try.prog 176 0 = some (0, 91) := by kernel_rfl
@[go_sem] theorem Try.bld176 (parts : List (Nat × TV)) : buildO Try.prog 176 parts = (fillT (fun i => ([(0, 6)] : List (Nat × Nat))[i]?) [.int .i64 0, .nilSl, .int .i64 0, .int .i64 0, .int .i64 0, .nilSl] parts).map .agg := by kernel_rfl
@[go_sem] theorem Try.bldp176 (parts : List (Nat × PV)) : buildP Try.prog 176 parts = fillP (fun i => ([(0, 6)] : List (Nat × Nat))[i]?) [.t (.int .i64 0), .t (.nilSl), .t (.int .i64 0), .t (.int .i64 0), .t (.int .i64 0), .t (.nilSl)] parts := by kernel_rfl
@[go_sem] theorem Try.eqg176 : Program.eqGuardType Try.prog (Program.depth Try.prog) 176 = false := by kernel_rfl
@[go_sem] theorem Try.agg177 : aggO Try.prog 177 = some false := by kernel_rfl
@[go_sem] theorem Try.pln177 : plainO Try.prog 177 = some true := by kernel_rfl
@[go_sem] theorem Try.sz177 : szO Try.prog 177 = some 1 := by kernel_rfl
@[go_sem] theorem Try.zero177 : zeroL Try.prog 177 = some [.nilFn] := by kernel_rfl
@[go_sem] theorem Try.small177 : smallO Try.prog 177 = some (1, 8) := by kernel_rfl
@[go_sem] theorem Try.zt177 : zeroT Try.prog 177 = some (.nilFn) := by kernel_rfl
@[go_sem] theorem Try.agg178 : aggO Try.prog 178 = some false := by kernel_rfl
@[go_sem] theorem Try.pln178 : plainO Try.prog 178 = some true := by kernel_rfl
@[go_sem] theorem Try.sz178 : szO Try.prog 178 = some 1 := by kernel_rfl
@[go_sem] theorem Try.zero178 : zeroL Try.prog 178 = some [.nilFn] := by kernel_rfl
@[go_sem] theorem Try.small178 : smallO Try.prog 178 = some (1, 8) := by kernel_rfl
@[go_sem] theorem Try.zt178 : zeroT Try.prog 178 = some (.nilFn) := by kernel_rfl
@[go_sem] theorem Try.agg179 : aggO Try.prog 179 = some false := by kernel_rfl
@[go_sem] theorem Try.pln179 : plainO Try.prog 179 = some true := by kernel_rfl
@[go_sem] theorem Try.sz179 : szO Try.prog 179 = some 1 := by kernel_rfl
@[go_sem] theorem Try.zero179 : zeroL Try.prog 179 = some [.nilFn] := by kernel_rfl
@[go_sem] theorem Try.small179 : smallO Try.prog 179 = some (1, 8) := by kernel_rfl
@[go_sem] theorem Try.zt179 : zeroT Try.prog 179 = some (.nilFn) := by kernel_rfl
@[go_sem] theorem Try.agg180 : aggO Try.prog 180 = some true := by kernel_rfl
@[go_sem] theorem Try.pln180 : plainO Try.prog 180 = some true := by kernel_rfl
@[go_sem] theorem Try.sz180 : szO Try.prog 180 = some 2 := by kernel_rfl
@[go_sem] theorem Try.zero180 : zeroL Try.prog 180 = some [.int .i64 0, .nilSl] := by kernel_rfl
@[go_sem] theorem Try.small180 : smallO Try.prog 180 = some (2, 32) := by kernel_rfl
@[go_sem] theorem Try.zt180 : zeroT Try.prog 180 = some (.agg [.int .i64 0, .nilSl]) := by kernel_rfl
@[go_sem] theorem Try.fld180_0 : fieldO Try.prog 180 0 = some (0, 106) := by kernel_rfl
@[go_sem] theorem Try.bld180 (parts : List (Nat × TV)) : buildO Try.prog 180 parts = (fillT (fun i => ([(0, 2)] : List (Nat × Nat))[i]?) [.int .i64 0, .nilSl] parts).map .agg := by kernel_rfl
@[go_sem] theorem Try.bldp180 (parts : List (Nat × PV)) : buildP Try.prog 180 parts = fillP (fun i => ([(0, 2)] : List (Nat × Nat))[i]?) [.t (.int .i64 0), .t (.nilSl)] parts := by kernel_rfl
@[go_sem] theorem Try.eqg180 : Program.eqGuardType Try.prog (Program.depth Try.prog) 180 = false := by kernel_rfl
@[go_sem] theorem Try.agg181 : aggO Try.prog 181 = some true := by kernel_rfl
@[go_sem] theorem Try.pln181 : plainO Try.prog 181 = some true := by kernel_rfl
@[go_sem] theorem Try.sz181 : szO Try.prog 181 = some 2 := by kernel_rfl
@[go_sem] theorem Try.zero181 : zeroL Try.prog 181 = some [.int .i64 0, .nilSl] := by kernel_rfl
@[go_sem] theorem Try.small181 : smallO Try.prog 181 = some (2, 32) := by kernel_rfl
@[go_sem] theorem Try.zt181 : zeroT Try.prog 181 = some (.agg [.int .i64 0, .nilSl]) := by kernel_rfl
@[go_sem] theorem Try.fld181_0 : fieldO Try.prog 181 0 = some (0, 106) := by kernel_rfl
@[go_sem] theorem Try.bld181 (parts : List (Nat × TV)) : buildO Try.prog 181 parts = (fillT (fun i => ([(0, 2)] : List (Nat × Nat))[i]?) [.int .i64 0, .nilSl] parts).map .agg := by kernel_rfl
@[go_sem] theorem Try.bldp181 (parts : List (Nat × PV)) : buildP Try.prog 181 parts = fillP (fun i => ([(0, 2)] : List (Nat × Nat))[i]?) [.t (.int .i64 0), .t (.nilSl)] parts := by kernel_rfl
@[go_sem] theorem Try.eqg181 : Program.eqGuardType Try.prog (Program.depth Try.prog) 181 = false := by kernel_rfl
@[go_sem] theorem Try.agg183 : aggO Try.prog 183 = some false := by kernel_rfl
@[go_sem] theorem Try.pln183 : plainO Try.prog 183 = some true := by kernel_rfl
@[go_sem] theorem Try.sz183 : szO Try.prog 183 = some 1 := by kernel_rfl
@[go_sem] theorem Try.zero183 : zeroL Try.prog 183 = some [.nilFn] := by kernel_rfl
@[go_sem] theorem Try.small183 : smallO Try.prog 183 = some (1, 8) := by kernel_rfl
@[go_sem] theorem Try.zt183 : zeroT Try.prog 183 = some (.nilFn) := by kernel_rfl
@[go_sem] theorem Try.agg184 : aggO Try.prog 184 = some false := by kernel_rfl
@[go_sem] theorem Try.pln184 : plainO Try.prog 184 = some true := by kernel_rfl
@[go_sem] theorem Try.sz184 : szO Try.prog 184 = some 1 := by kernel_rfl
@[go_sem] theorem Try.zero184 : zeroL Try.prog 184 = some [.nilFn] := by kernel_rfl
@[go_sem] theorem Try.small184 : smallO Try.prog 184 = some (1, 8) := by kernel_rfl
@[go_sem] theorem Try.zt184 : zeroT Try.prog 184 = some (.nilFn) := by kernel_rfl
@[go_sem] theorem Try.agg185 : aggO Try.prog 185 = some false := by kernel_rfl
@[go_sem] theorem Try.pln185 : plainO Try.prog 185 = some true := by kernel_rfl
@[go_sem] theorem Try.sz185 : szO Try.prog 185 = some 1 := by kernel_rfl
@[go_sem] theorem Try.zero185 : zeroL Try.prog 185 = some [.nilFn] := by kernel_rfl
@[go_sem] theorem Try.small185 : smallO Try.prog 185 = some (1, 8) := by kernel_rfl
@[go_sem] theorem Try.zt185 : zeroT Try.prog 185 = some (.nilFn) := by kernel_rfl
@[go_sem] theorem Try.agg186 : aggO Try.prog 186 = some true := by kernel_rfl
@[go_sem] theorem Try.pln186 : plainO Try.prog 186 = some true := by kernel_rfl
@[go_sem] theorem Try.sz186 : szO Try.prog 186 = some 2 := by kernel_rfl
@[go_sem] theorem Try.zero186 : zeroL Try.prog 186 = some [.int .i64 0, .int .i64 0] := by kernel_rfl
@[go_sem] theorem Try.small186 : smallO Try.prog 186 = some (2, 16) := by kernel_rfl
@[go_sem] theorem Try.zt186 : zeroT Try.prog 186 = some (.agg [.int .i64 0, .int .i64 0]) := by kernel_rfl
@[go_sem] theorem Try.fld186_0 : fieldO Try.prog 186 0 = some (0, 3) := by kernel_rfl
@[go_sem] theorem Try.fld186_1 : fieldO Try.prog 186 1 = some (1, 3) := by kernel_rfl
@[go_sem] theorem Try.bld186 (parts : List (Nat × TV)) : buildO Try.prog 186 parts = (fillT (fun i => ([(0, 1), (1, 1)] : List (Nat × Nat))[i]?) [.int .i64 0, .int .i64 0] parts).map .agg := by kernel_rfl
@[go_sem] theorem Try.eqg186 : Program.eqGuardType Try.prog (Program.depth Try.prog) 186 = false := by kernel_rfl
@[go_sem] theorem Try.agg187 : aggO Try.prog 187 = some true := by kernel_rfl
@[go_sem] theorem Try.pln187 : plainO Try.prog 187 = some true := by kernel_rfl
@[go_sem] theorem Try.sz187 : szO Try.prog 187 = some 2 := by kernel_rfl
@[go_sem] theorem Try.zero187 : zeroL Try.prog 187 = some [.int .i64 0, .int .i64 0] := by kernel_rfl
@[go_sem] theorem Try.small187 : smallO Try.prog 187 = some (2, 16) := by kernel_rfl
@[go_sem] theorem Try.zt187 : zeroT Try.prog 187 = some (.agg [.int .i64 0, .int .i64 0]) := by kernel_rfl
@[go_sem] theorem Try.fld187_0 : fieldO Try.prog 187 0 = some (0, 3) := by kernel_rfl
@[go_sem] theorem Try.fld187_1 : fieldO Try.prog 187 1 = some (1, 3) := by kernel_rfl
@[go_sem] theorem Try.bld187 (parts : List (Nat × TV)) : buildO Try.prog 187 parts = (fillT (fun i => ([(0, 1), (1, 1)] : List (Nat × Nat))[i]?) [.int .i64 0, .int .i64 0] parts).map .agg := by kernel_rfl
@[go_sem] theorem Try.eq187 (a0 b0 : Int) (a1 b1 : Int) : eqT Try.prog 20 187 (.agg [.int .i64 a0, .int .i64 a1]) (.agg [.int .i64 b0, .int .i64 b1]) = some ((a0 == b0) && ((a1 == b1) && true)) := by kernel_rfl
@[go_sem] theorem Try.eqg187 : Program.eqGuardType Try.prog (Program.depth Try.prog) 187 = false := by kernel_rfl
@[go_sem] theorem Try.agg189 : aggO Try.prog 189 = some false := by kernel_rfl
@[go_sem] theorem Try.pln189 : plainO Try.prog 189 = some true := by kernel_rfl
@[go_sem] theorem Try.sz189 : szO Try.prog 189 = some 1 := by kernel_rfl
@[go_sem] theorem Try.zero189 : zeroL Try.prog 189 = some [.nilFn] := by kernel_rfl
@[go_sem] theorem Try.small189 : smallO Try.prog 189 = some (1, 8) := by kernel_rfl
@[go_sem] theorem Try.zt189 : zeroT Try.prog 189 = some (.nilFn) := by kernel_rfl
@[go_sem] theorem Try.agg190 : aggO Try.prog 190 = some false := by kernel_rfl
@[go_sem] theorem Try.pln190 : plainO Try.prog 190 = some true := by kernel_rfl
@[go_sem] theorem Try.sz190 : szO Try.prog 190 = some 1 := by kernel_rfl
@[go_sem] theorem Try.zero190 : zeroL Try.prog 190 = some [.nilFn] := by kernel_rfl
@[go_sem] theorem Try.small190 : smallO Try.prog 190 = some (1, 8) := by kernel_rfl
@[go_sem] theorem Try.zt190 : zeroT Try.prog 190 = some (.nilFn) := by kernel_rfl
@[go_sem] theorem Try.agg192 : aggO Try.prog 192 = some false := by kernel_rfl
@[go_sem] theorem Try.pln192 : plainO Try.prog 192 = some true := by kernel_rfl
@[go_sem] theorem Try.sz192 : szO Try.prog 192 = some 1 := by kernel_rfl
@[go_sem] theorem Try.zero192 : zeroL Try.prog 192 = some [.nilFn] := by kernel_rfl
@[go_sem] theorem Try.small192 : smallO Try.prog 192 = some (1, 8) := by kernel_rfl
@[go_sem] theorem Try.zt192 : zeroT Try.prog 192 = some (.nilFn) := by kernel_rfl
@[go_sem] theorem Try.agg193 : aggO Try.prog 193 = some false := by kernel_rfl
@[go_sem] theorem Try.pln193 : plainO Try.prog 193 = some true := by kernel_rfl
@[go_sem] theorem Try.sz193 : szO Try.prog 193 = some 1 := by kernel_rfl
@[go_sem] theorem Try.zero193 : zeroL Try.prog 193 = some [.nilFn] := by kernel_rfl
@[go_sem] theorem Try.small193 : smallO Try.prog 193 = some (1, 8) := by kernel_rfl
@[go_sem] theorem Try.zt193 : zeroT Try.prog 193 = some (.nilFn) := by kernel_rfl
@[go_sem] theorem Try.agg194 : aggO Try.prog 194 = some false := by kernel_rfl
@[go_sem] theorem Try.pln194 : plainO Try.prog 194 = some true := by kernel_rfl
@[go_sem] theorem Try.sz194 : szO Try.prog 194 = some 1 := by kernel_rfl
@[go_sem] theorem Try.zero194 : zeroL Try.prog 194 = some [.nilFn] := by kernel_rfl
@[go_sem] theorem Try.small194 : smallO Try.prog 194 = some (1, 8) := by kernel_rfl
@[go_sem] theorem Try.zt194 : zeroT Try.prog 194 = some (.nilFn) := by kernel_rfl
@[go_sem] theorem Try.agg195 : aggO Try.prog 195 = some true := by kernel_rfl
@[go_sem] theorem Try.pln195 : plainO Try.prog 195 = some true := by kernel_rfl
@[go_sem] theorem Try.sz195 : szO Try.prog 195 = some 12 := by kernel_rfl
@[go_sem] theorem Try.zero195 : zeroL Try.prog 195 = some [.bool false, .bool false, .bool false, .bool false, .bool false, .bool false, .bool false, .bool false, .bool false, .bool false, .bool false, .bool false] := by kernel_rfl
@[go_sem] theorem Try.small195 : smallO Try.prog 195 = some (12, 12) := by kernel_rfl
@[go_sem] theorem Try.zt195 : zeroT Try.prog 195 = some (.agg [.bool false, .bool false, .bool false, .bool false, .bool false, .bool false, .bool false, .bool false, .bool false, .bool false, .bool false, .bool false]) := by kernel_rfl
@[go_sem] theorem Try.bld195 (parts : List (Nat × TV)) : buildO Try.prog 195 parts = (fillT (fun i => some (i * 1, 1)) [.bool false, .bool false, .bool false, .bool false, .bool false, .bool false, .bool false, .bool false, .bool false, .bool false, .bool false, .bool false] parts).map .agg := by kernel_rfl
@[go_sem] theorem Try.eq195 (a0 b0 : Bool) (a1 b1 : Bool) (a2 b2 : Bool) (a3 b3 : Bool) (a4 b4 : Bool) (a5 b5 : Bool) (a6 b6 : Bool) (a7 b7 : Bool) (a8 b8 : Bool) (a9 b9 : Bool) (a10 b10 : Bool) (a11 b11 : Bool) : eqT Try.prog 20 195 (.agg [.bool a0, .bool a1, .bool a2, .bool a3, .bool a4, .bool a5, .bool a6, .bool a7, .bool a8, .bool a9, .bool a10, .bool a11]) (.agg [.bool b0, .bool b1, .bool b2, .bool b3, .bool b4, .bool b5, .bool b6, .bool b7, .bool b8, .bool b9, .bool b10, .bool b11]) = some ((a0 == b0) && ((a1 == b1) && ((a2 == b2) && ((a3 == b3) && ((a4 == b4) && ((a5 == b5) && ((a6 == b6) && ((a7 == b7) && ((a8 == b8) && ((a9 == b9) && ((a10 == b10) && ((a11 == b11) && true)))))))))))) := by kernel_rfl
@[go_sem] theorem Try.eqg195 : Program.eqGuardType Try.prog (Program.depth Try.prog) 195 = false := by kernel_rfl
@[go_sem] theorem Try.arr195 : arrayO Try.prog 195 = some (12, 4) := by kernel_rfl
@[go_sem] theorem Try.und195 : Program.underlying Try.prog 195 = some (.array 12 4) := by kernel_rfl
@[go_sem] theorem Try.agg196 : aggO Try.prog 196 = some true := by kernel_rfl
@[go_sem] theorem Try.pln196 : plainO Try.prog 196 = some true := by kernel_rfl
@[go_sem] theorem Try.sz196 : szO Try.prog 196 = some 12 := by kernel_rfl
@[go_sem] theorem Try.zero196 : zeroL Try.prog 196 = some [.bool false, .bool false, .bool false, .bool false, .bool false, .bool false, .bool false, .bool false, .bool false, .bool false, .bool false, .bool false] := by kernel_rfl
@[go_sem] theorem Try.small196 : smallO Try.prog 196 = some (12, 12) := by kernel_rfl
@[go_sem] theorem Try.zt196 : zeroT Try.prog 196 = some (.agg [.bool false, .bool false, .bool false, .bool false, .bool false, .bool false, .bool false, .bool false, .bool false, .bool false, .bool false, .bool false]) := by kernel_rfl
@[go_sem] theorem Try.bld196 (parts : List (Nat × TV)) : buildO Try.prog 196 parts = (fillT (fun i => some (i * 1, 1)) [.bool false, .bool false, .bool false, .bool false, .bool false, .bool false, .bool false, .bool false, .bool false, .bool false, .bool false, .bool false] parts).map .agg := by kernel_rfl
@[go_sem] theorem Try.eq196 (a0 b0 : Bool) (a1 b1 : Bool) (a2 b2 : Bool) (a3 b3 : Bool) (a4 b4 : Bool) (a5 b5 : Bool) (a6 b6 : Bool) (a7 b7 : Bool) (a8 b8 : Bool) (a9 b9 : Bool) (a10 b10 : Bool) (a11 b11 : Bool) : eqT Try.prog 20 196 (.agg [.bool a0, .bool a1, .bool a2, .bool a3, .bool a4, .bool a5, .bool a6, .bool a7, .bool a8, .bool a9, .bool a10, .bool a11]) (.agg [.bool b0, .bool b1, .bool b2, .bool b3, .bool b4, .bool b5, .bool b6, .bool b7, .bool b8, .bool b9, .bool b10, .bool b11]) = some ((a0 == b0) && ((a1 == b1) && ((a2 == b2) && ((a3 == b3) && ((a4 == b4) && ((a5 == b5) && ((a6 == b6) && ((a7 == b7) && ((a8 == b8) && ((a9 == b9) && ((a10 == b10) && ((a11 == b11) && true)))))))))))) := by kernel_rfl
@[go_sem] theorem Try.eqg196 : Program.eqGuardType Try.prog (Program.depth Try.prog) 196 = false := by kernel_rfl
@[go_sem] theorem Try.arr196 : arrayO Try.prog 196 = some (12, 4) := by kernel_rfl
@[go_sem] theorem Try.und196 : Program.underlying Try.prog 196 = some (.array 12 4) := by kernel_rfl
@[go_sem] theorem Try.agg197 : aggO Try.prog 197 = some false := by kernel_rfl
@[go_sem] theorem Try.pln197 : plainO Try.prog 197 = some true := by kernel_rfl
@[go_sem] theorem Try.sz197 : szO Try.prog 197 = some 1 := by kernel_rfl
@[go_sem] theorem Try.zero197 : zeroL Try.prog 197 = some [.nilMap] := by kernel_rfl
@[go_sem] theorem Try.small197 : smallO Try.prog 197 = some (1, 8) := by kernel_rfl
@[go_sem] theorem Try.map197 : mapO Try.prog 197 = some (3, 23) := by kernel_rfl
@[go_sem] theorem Try.und197 : Program.underlying Try.prog 197 = some (.map 3 23) := by kernel_rfl
@[go_sem] theorem Try.zt197 : zeroT Try.prog 197 = some (.nilMap) := by kernel_rfl
@[go_sem] theorem Try.agg198 : aggO Try.prog 198 = some true := by kernel_rfl
@[go_sem] theorem Try.pln198 : plainO Try.prog 198 = some true := by kernel_rfl
@[go_sem] theorem Try.sz198 : szO Try.prog 198 = some 13 := by kernel_rfl
@[go_sem] theorem Try.zero198 : zeroL Try.prog 198 = some [.bool false, .bool false, .bool false, .bool false, .bool false, .bool false, .bool false, .bool false, .bool false, .bool false, .bool false, .bool false, .nilMap] := by kernel_rfl
@[go_sem] theorem Try.small198 : smallO Try.prog 198 = some (13, 24) := by kernel_rfl
@[go_sem] theorem Try.zt198 : zeroT Try.prog 198 = some (.agg [.bool false, .bool false, .bool false, .bool false, .bool false, .bool false, .bool false, .bool false, .bool false, .bool false, .bool false, .bool false, .nilMap]) := by kernel_rfl
@[go_sem] theorem Try.fld198_0 : fieldO Try.prog 198 0 = some (0, 196) := by kernel_rfl
@[go_sem] theorem Try.fld198_1 : fieldO Try.prog 198 1 = some (12, 197) := by kernel_rfl
@[go_sem] theorem Try.bld198 (parts : List (Nat × TV)) : buildO Try.prog 198 parts = (fillT (fun i => ([(0, 12), (12, 1)] : List (Nat × Nat))[i]?) [.bool false, .bool false, .bool false, .bool false, .bool false, .bool false, .bool false, .bool false, .bool false, .bool false, .bool false, .bool false, .nilMap] parts).map .agg := by kernel_rfl
@[go_sem] theorem Try.bldp198 (parts : List (Nat × PV)) : buildP Try.prog 198 parts = fillP (fun i => ([(0, 12), (12, 1)] : List (Nat × Nat))[i]?) [.t (.bool false), .t (.bool false), .t (.bool false), .t (.bool false), .t (.bool false), .t (.bool false), .t (.bool false), .t (.bool false), .t (.bool false), .t (.bool false), .t (.bool false), .t (.bool false), .t (.nilMap)] parts := by kernel_rfl
@[go_sem] theorem Try.eqg198 : Program.eqGuardType Try.prog (Program.depth Try.prog) 198 = false := by kernel_rfl
@[go_sem] theorem Try.agg199 : aggO Try.prog 199 = some true := by kernel_rfl
@[go_sem] theorem Try.pln199 : plainO Try.prog 199 = some true := by kernel_rfl
@[go_sem] theorem Try.sz199 : szO Try.prog 199 = some 13 := by kernel_rfl
@[go_sem] theorem Try.zero199 : zeroL Try.prog 199 = some [.bool false, .bool false, .bool false, .bool false, .bool false, .bool false, .bool false, .bool false, .bool false, .bool false, .bool false, .bool false, .nilMap] := by kernel_rfl
@[go_sem] theorem Try.small199 : smallO Try.prog 199 = some (13, 24) := by kernel_rfl
@[go_sem] theorem Try.zt199 : zeroT Try.prog 199 = some (.agg [.bool false, .bool false, .bool false, .bool false, .bool false, .bool false, .bool false, .bool false, .bool false, .bool false, .bool false, .bool false, .nilMap]) := by kernel_rfl
@[go_sem] theorem Try.fld199_0 : fieldO Try.prog 199 0 = some (0, 196) := by kernel_rfl
@[go_sem] theorem Try.fld199_1 : fieldO Try.prog 199 1 = some (12, 197) := by kernel_rfl
@[go_sem] theorem Try.bld199 (parts : List (Nat × TV)) : buildO Try.prog 199 parts = (fillT (fun i => ([(0, 12), (12, 1)] : List (Nat × Nat))[i]?) [.bool false, .bool false, .bool false, .bool false, .bool false, .bool false, .bool false, .bool false, .bool false, .bool false, .bool false, .bool false, .nilMap] parts).map .agg := by kernel_rfl
@[go_sem] theorem Try.bldp199 (parts : List (Nat × PV)) : buildP Try.prog 199 parts = fillP (fun i => ([(0, 12), (12, 1)] : List (Nat × Nat))[i]?) [.t (.bool false), .t (.bool false), .t (.bool false), .t (.bool false), .t (.bool false), .t (.bool false), .t (.bool false), .t (.bool false), .t (.bool false), .t (.bool false), .t (.bool false), .t (.bool false), .t (.nilMap)] parts := by kernel_rfl
@[go_sem] theorem Try.eqg199 : Program.eqGuardType Try.prog (Program.depth Try.prog) 199 = false := by kernel_rfl
@[go_sem] theorem Try.agg200 : aggO Try.prog 200 = some false := by kernel_rfl
@[go_sem] theorem Try.pln200 : plainO Try.prog 200 = some true := by kernel_rfl
@[go_sem] theorem Try.sz200 : szO Try.prog 200 = some 1 := by kernel_rfl
@[go_sem] theorem Try.zero200 : zeroL Try.prog 200 = some [.nilFn] := by kernel_rfl
@[go_sem] theorem Try.small200 : smallO Try.prog 200 = some (1, 8) := by kernel_rfl
@[go_sem] theorem Try.zt200 : zeroT Try.prog 200 = some (.nilFn) := by kernel_rfl
@[go_sem] theorem Try.agg201 : aggO Try.prog 201 = some false := by kernel_rfl
@[go_sem] theorem Try.pln201 : plainO Try.prog 201 = some true := by kernel_rfl
@[go_sem] theorem Try.sz201 : szO Try.prog 201 = some 1 := by kernel_rfl
@[go_sem] theorem Try.zero201 : zeroL Try.prog 201 = some [.nilFn] := by kernel_rfl
@[go_sem] theorem Try.small201 : smallO Try.prog 201 = some (1, 8) := by kernel_rfl
@[go_sem] theorem Try.zt201 : zeroT Try.prog 201 = some (.nilFn) := by kernel_rfl
@[go_sem] theorem Try.agg202 : aggO Try.prog 202 = some false := by kernel_rfl
@[go_sem] theorem Try.pln202 : plainO Try.prog 202 = some true := by kernel_rfl
@[go_sem] theorem Try.sz202 : szO Try.prog 202 = some 1 := by kernel_rfl
@[go_sem] theorem Try.zero202 : zeroL Try.prog 202 = some [.nilFn] := by kernel_rfl
@[go_sem] theorem Try.small202 : smallO Try.prog 202 = some (1, 8) := by kernel_rfl
@[go_sem] theorem Try.zt202 : zeroT Try.prog 202 = some (.nilFn) := by kernel_rfl
@[go_sem] theorem Try.agg203 : aggO Try.prog 203 = some false := by kernel_rfl
@[go_sem] theorem Try.pln203 : plainO Try.prog 203 = some true := by kernel_rfl
@[go_sem] theorem Try.sz203 : szO Try.prog 203 = some 1 := by kernel_rfl
@[go_sem] theorem Try.zero203 : zeroL Try.prog 203 = some [.nilFn] := by kernel_rfl
@[go_sem] theorem Try.small203 : smallO Try.prog 203 = some (1, 8) := by kernel_rfl
@[go_sem] theorem Try.zt203 : zeroT Try.prog 203 = some (.nilFn) := by kernel_rfl
@[go_sem] theorem Try.agg204 : aggO Try.prog 204 = some false := by kernel_rfl
@[go_sem] theorem Try.pln204 : plainO Try.prog 204 = some true := by kernel_rfl
@[go_sem] theorem Try.sz204 : szO Try.prog 204 = some 1 := by kernel_rfl
@[go_sem] theorem Try.zero204 : zeroL Try.prog 204 = some [.nilFn] := by kernel_rfl
@[go_sem] theorem Try.small204 : smallO Try.prog 204 = some (1, 8) := by kernel_rfl
@[go_sem] theorem Try.zt204 : zeroT Try.prog 204 = some (.nilFn) := by kernel_rfl
@[go_sem] theorem Try.agg205 : aggO Try.prog 205 = some true := by kernel_rfl
@[go_sem] theorem Try.pln205 : plainO Try.prog 205 = some true := by kernel_rfl
@[go_sem] theorem Try.sz205 : szO Try.prog 205 = some 2 := by kernel_rfl
@[go_sem] theorem Try.zero205 : zeroL Try.prog 205 = some [.nilSl, .nilFn] := by kernel_rfl
@[go_sem] theorem Try.small205 : smallO Try.prog 205 = some (2, 32) := by kernel_rfl
@[go_sem] theorem Try.zt205 : zeroT Try.prog 205 = some (.agg [.nilSl, .nilFn]) := by kernel_rfl
@[go_sem] theorem Try.fld205_0 : fieldO Try.prog 205 0 = some (0, 39) := by kernel_rfl
@[go_sem] theorem Try.fld205_1 : fieldO Try.prog 205 1 = some (1, 108) := by kernel_rfl
@[go_sem] theorem Try.bld205 (parts : List (Nat × TV)) : buildO Try.prog 205 parts = (fillT (fun i => ([(0, 1), (1, 1)] : List (Nat × Nat))[i]?) [.nilSl, .nilFn] parts).map .agg := by kernel_rfl
@[go_sem] theorem Try.bldp205 (parts : List (Nat × PV)) : buildP Try.prog 205 parts = fillP (fun i => ([(0, 1), (1, 1)] : List (Nat × Nat))[i]?) [.t (.nilSl), .t (.nilFn)] parts := by kernel_rfl
@[go_sem] theorem Try.eqg205 : Program.eqGuardType Try.prog (Program.depth Try.prog) 205 = false := by kernel_rfl
@[go_sem] theorem Try.agg206 : aggO Try.prog 206 = some true := by kernel_rfl
@[go_sem] theorem Try.pln206 : plainO Try.prog 206 = some true := by kernel_rfl
@[go_sem] theorem Try.sz206 : szO Try.prog 206 = some 2 := by kernel_rfl
@[go_sem] theorem Try.zero206 : zeroL Try.prog 206 = some [.nilSl, .nilFn] := by kernel_rfl
@[go_sem] theorem Try.small206 : smallO Try.prog 206 = some (2, 32) := by kernel_rfl
@[go_sem] theorem Try.zt206 : zeroT Try.prog 206 = some (.agg [.nilSl, .nilFn]) := by kernel_rfl
@[go_sem] theorem Try.fld206_0 : fieldO Try.prog 206 0 = some (0, 39) := by kernel_rfl
@[go_sem] theorem Try.fld206_1 : fieldO Try.prog 206 1 = some (1, 108) := by kernel_rfl
@[go_sem] theorem Try.bld206 (parts : List (Nat × TV)) : buildO Try.prog 206 parts = (fillT (fun i => ([(0, 1), (1, 1)] : List (Nat × Nat))[i]?) [.nilSl, .nilFn] parts).map .agg := by kernel_rfl
@[go_sem] theorem Try.bldp206 (parts : List (Nat × PV)) : buildP Try.prog 206 parts = fillP (fun i => ([(0, 1), (1, 1)] : List (Nat × Nat))[i]?) [.t (.nilSl), .t (.nilFn)] parts := by kernel_rfl
@[go_sem] theorem Try.eqg206 : Program.eqGuardType Try.prog (Program.depth Try.prog) 206 = false := by kernel_rfl
@[go_sem] theorem Try.agg207 : aggO Try.prog 207 = some true := by kernel_rfl
@[go_sem] theorem Try.pln207 : plainO Try.prog 207 = some true := by kernel_rfl
@[go_sem] theorem Try.sz207 : szO Try.prog 207 = some 2 := by kernel_rfl
@[go_sem] theorem Try.zero207 : zeroL Try.prog 207 = some [.nilSl, .nilSl] := by kernel_rfl
@[go_sem] theorem Try.small207 : smallO Try.prog 207 = some (2, 48) := by kernel_rfl
@[go_sem] theorem Try.zt207 : zeroT Try.prog 207 = some (.agg [.nilSl, .nilSl]) := by kernel_rfl
@[go_sem] theorem Try.bld207 (parts : List (Nat × TV)) : buildO Try.prog 207 parts = (fillT (fun i => some (i * 1, 1)) [.nilSl, .nilSl] parts).map .agg := by kernel_rfl
@[go_sem] theorem Try.eqg207 : Program.eqGuardType Try.prog (Program.depth Try.prog) 207 = false := by kernel_rfl
@[go_sem] theorem Try.arr207 : arrayO Try.prog 207 = some (2, 39) := by kernel_rfl
@[go_sem] theorem Try.und207 : Program.underlying Try.prog 207 = some (.array 2 39) := by kernel_rfl
@[go_sem] theorem Try.agg208 : aggO Try.prog 208 = some true := by kernel_rfl
@[go_sem] theorem Try.pln208 : plainO Try.prog 208 = some true := by kernel_rfl
@[go_sem] theorem Try.sz208 : szO Try.prog 208 = some 2 := by kernel_rfl
@[go_sem] theorem Try.zero208 : zeroL Try.prog 208 = some [.int .i64 0, .int .i64 0] := by kernel_rfl
@[go_sem] theorem Try.small208 : smallO Try.prog 208 = some (2, 16) := by kernel_rfl
@[go_sem] theorem Try.zt208 : zeroT Try.prog 208 = some (.agg [.int .i64 0, .int .i64 0]) := by kernel_rfl
@[go_sem] theorem Try.fld208_0 : fieldO Try.prog 208 0 = some (0, 3) := by kernel_rfl
@[go_sem] theorem Try.fld208_1 : fieldO Try.prog 208 1 = some (1, 3) := by kernel_rfl
@[go_sem] theorem Try.bld208 (parts : List (Nat × TV)) : buildO Try.prog 208 parts = (fillT (fun i => ([(0, 1), (1, 1)] : List (Nat × Nat))[i]?) [.int .i64 0, .int .i64 0] parts).map .agg := by kernel_rfl
@[go_sem] theorem Try.eqg208 : Program.eqGuardType Try.prog (Program.depth Try.prog) 208 = false := by kernel_rfl
@[go_sem] theorem Try.agg209 : aggO Try.prog 209 = some true := by kernel_rfl
@[go_sem] theorem Try.pln209 : plainO Try.prog 209 = some true := by kernel_rfl
@[go_sem] theorem Try.sz209 : szO Try.prog 209 = some 2 := by kernel_rfl
@[go_sem] theorem Try.zero209 : zeroL Try.prog 209 = some [.int .i64 0, .int .i64 0] := by kernel_rfl
@[go_sem] theorem Try.small209 : smallO Try.prog 209 = some (2, 16) := by kernel_rfl
@[go_sem] theorem Try.zt209 : zeroT Try.prog 209 = some (.agg [.int .i64 0, .int .i64 0]) := by kernel_rfl
@[go_sem] theorem Try.fld209_0 : fieldO Try.prog 209 0 = some (0, 3) := by kernel_rfl
@[go_sem] theorem Try.fld209_1 : fieldO Try.prog 209 1 = some (1, 3) := by kernel_rfl
@[go_sem] theorem Try.bld209 (parts : List (Nat × TV)) : buildO Try.prog 209 parts = (fillT (fun i => ([(0, 1), (1, 1)] : List (Nat × Nat))[i]?) [.int .i64 0, .int .i64 0] parts).map .agg := by kernel_rfl
@[go_sem] theorem Try.eq209 (a0 b0 : Int) (a1 b1 : Int) : eqT Try.prog 20 209 (.agg [.int .i64 a0, .int .i64 a1]) (.agg [.int .i64 b0, .int .i64 b1]) = some ((a0 == b0) && ((a1 == b1) && true)) := by kernel_rfl
@[go_sem] theorem Try.eqg209 : Program.eqGuardType Try.prog (Program.depth Try.prog) 209 = false := by kernel_rfl
@[go_sem] theorem Try.agg210 : aggO Try.prog 210 = some false := by kernel_rfl
@[go_sem] theorem Try.pln210 : plainO Try.prog 210 = some true := by kernel_rfl
@[go_sem] theorem Try.sz210 : szO Try.prog 210 = some 1 := by kernel_rfl
@[go_sem] theorem Try.zero210 : zeroL Try.prog 210 = some [.nilSl] := by kernel_rfl
@[go_sem] theorem Try.small210 : smallO Try.prog 210 = some (1, 24) := by kernel_rfl
@[go_sem] theorem Try.zt210 : zeroT Try.prog 210 = some (.nilSl) := by kernel_rfl
@[go_sem] theorem Try.eqn210 : eqT Try.prog 20 210 .nilSl .nilSl = some true := by kernel_rfl
@[go_sem] theorem Try.eqs210 (cs : List TV) (n : Nat) (f : Bool) : eqT Try.prog 20 210 (.sl cs n f) .nilSl = some false := by kernel_rfl
@[go_sem] theorem Try.eqt210 (cs : List TV) (n : Nat) (f : Bool) : eqT Try.prog 20 210 .nilSl (.sl cs n f) = some false := by kernel_rfl
@[go_sem] theorem Try.sl210 : sliceO Try.prog 210 = some 215 := by kernel_rfl
@[go_sem] theorem Try.und210 : Program.underlying Try.prog 210 = some (.slice 215) := by kernel_rfl
@[go_sem] theorem Try.agg211 : aggO Try.prog 211 = some false := by kernel_rfl
@[go_sem] theorem Try.pln211 : plainO Try.prog 211 = some true := by kernel_rfl
@[go_sem] theorem Try.sz211 : szO Try.prog 211 = some 1 := by kernel_rfl
@[go_sem] theorem Try.zero211 : zeroL Try.prog 211 = some [.nilFn] := by kernel_rfl
@[go_sem] theorem Try.small211 : smallO Try.prog 211 = some (1, 8) := by kernel_rfl
@[go_sem] theorem Try.zt211 : zeroT Try.prog 211 = some (.nilFn) := by kernel_rfl
@[go_sem] theorem Try.agg212 : aggO Try.prog 212 = some true := by kernel_rfl
@[go_sem] theorem Try.pln212 : plainO Try.prog 212 = some true := by kernel_rfl
@[go_sem] theorem Try.sz212 : szO Try.prog 212 = some 60 := by kernel_rfl
@[go_sem] theorem Try.zero212 : zeroL Try.prog 212 = some [.int .i64 0, .int .i64 0, .int .i64 0, .int .i64 0, .int .i64 0, .int .i64 0, .int .i64 0, .int .i64 0, .int .i64 0, .int .i64 0, .int .i64 0, .int .i64 0, .int .i64 0, .int .i64 0, .int .i64 0, .int .i64 0, .int .i64 0, .int .i64 0, .int .i64 0, .int .i64 0, .int .i64 0, .int .i64 0, .int .i64 0, .int .i64 0, .int .i64 0, .int .i64 0, .int .i64 0, .int .i64 0, .int .i64 0, .int .i64 0, .int .i64 0, .int .i64 0, .int .i64 0, .int .i64 0, .int .i64 0, .int .i64 0, .int .i64 0, .int .i64 0, .int .i64 0, .int .i64 0, .int .i64 0, .int .i64 0, .int .i64 0, .int .i64 0, .int .i64 0, .int .i64 0, .int .i64 0, .int .i64 0, .int .i64 0, .int .i64 0, .int .i64 0, .int .i64 0, .int .i64 0, .int .i64 0, .int .i64 0, .int .i64 0, .int .i64 0, .int .i64 0, .int .i64 0, .int .i64 0] := by kernel_rfl
@[go_sem] theorem Try.small212 : smallO Try.prog 212 = some (60, 480) := by kernel_rfl
@[go_sem] theorem Try.zt212 : zeroT Try.prog 212 = some (.agg [.int .i64 0, .int .i64 0, .int .i64 0, .int .i64 0, .int .i64 0, .int .i64 0, .int .i64 0, .int .i64 0, .int .i64 0, .int .i64 0, .int .i64 0, .int .i64 0, .int .i64 0, .int .i64 0, .int .i64 0, .int .i64 0, .int .i64 0, .int .i64 0, .int .i64 0, .int .i64 0, .int .i64 0, .int .i64 0, .int .i64 0, .int .i64 0, .int .i64 0, .int .i64 0, .int .i64 0, .int .i64 0, .int .i64 0, .int .i64 0, .int .i64 0, .int .i64 0, .int .i64 0, .int .i64 0, .int .i64 0, .int .i64 0, .int .i64 0, .int .i64 0, .int .i64 0, .int .i64 0, .int .i64 0, .int .i64 0, .int .i64 0, .int .i64 0, .int .i64 0, .int .i64 0, .int .i64 0, .int .i64 0, .int .i64 0, .int .i64 0, .int .i64 0, .int .i64 0, .int .i64 0, .int .i64 0, .int .i64 0, .int .i64 0, .int .i64 0, .int .i64 0, .int .i64 0, .int .i64 0]) := by kernel_rfl
@[go_sem] theorem Try.bld212 (parts : List (Nat × TV)) : buildO Try.prog 212 parts = (fillT (fun i => some (i * 1, 1)) [.int .i64 0, .int .i64 0, .int .i64 0, .int .i64 0, .int .i64 0, .int .i64 0, .int .i64 0, .int .i64 0, .int .i64 0, .int .i64 0, .int .i64 0, .int .i64 0, .int .i64 0, .int .i64 0, .int .i64 0, .int .i64 0, .int .i64 0, .int .i64 0, .int .i64 0, .int .i64 0, .int .i64 0, .int .i64 0, .int .i64 0, .int .i64 0, .int .i64 0, .int .i64 0, .int .i64 0, .int .i64 0, .int .i64 0, .int .i64 0, .int .i64 0, .int .i64 0, .int .i64 0, .int .i64 0, .int .i64 0, .int .i64 0, .int .i64 0, .int .i64 0, .int .i64 0, .int .i64 0, .int .i64 0, .int .i64 0, .int .i64 0, .int .i64 0, .int .i64 0, .int .i64 0, .int .i64 0, .int .i64 0, .int .i64 0, .int .i64 0, .int .i64 0, .int .i64 0, .int .i64 0, .int .i64 0, .int .i64 0, .int .i64 0, .int .i64 0, .int .i64 0, .int .i64 0, .int .i64 0] parts).map .agg := by kernel_rfl
@[go_sem] theorem Try.eqg212 : Program.eqGuardType Try.prog (Program.depth Try.prog) 212 = false := by kernel_rfl
@[go_sem] theorem Try.arr212 : arrayO Try.prog 212 = some (60, 3) := by kernel_rfl
@[go_sem] theorem Try.und212 : Program.underlying Try.prog 212 = some (.array 60 3) := by kernel_rfl
@[go_sem] theorem Try.agg213 : aggO Try.prog 213 = some true := by kernel_rfl
@[go_sem] theorem Try.pln213 : plainO Try.prog 213 = some true := by kernel_rfl
@[go_sem] theorem Try.sz213 : szO Try.prog 213 = some 60 := by kernel_rfl
@[go_sem] theorem Try.zero213 : zeroL Try.prog 213 = some [.int .i64 0, .int .i64 0, .int .i64 0, .int .i64 0, .int .i64 0, .int .i64 0, .int .i64 0, .int .i64 0, .int .i64 0, .int .i64 0, .int .i64 0, .int .i64 0, .int .i64 0, .int .i64 0, .int .i64 0, .int .i64 0, .int .i64 0, .int .i64 0, .int .i64 0, .int .i64 0, .int .i64 0, .int .i64 0, .int .i64 0, .int .i64 0, .int .i64 0, .int .i64 0, .int .i64 0, .int .i64 0, .int .i64 0, .int .i64 0, .int .i64 0, .int .i64 0, .int .i64 0, .int .i64 0, .int .i64 0, .int .i64 0, .int .i64 0, .int .i64 0, .int .i64 0, .int .i64 0, .int .i64 0, .int .i64 0, .int .i64 0, .int .i64 0, .int .i64 0, .int .i64 0, .int .i64 0, .int .i64 0, .int .i64 0, .int .i64 0, .int .i64 0, .int .i64 0, .int .i64 0, .int .i64 0, .int .i64 0, .int .i64 0, .int .i64 0, .int .i64 0, .int .i64 0, .int .i64 0] := by kernel_rfl
@[go_sem] theorem Try.small213 : smallO Try.prog 213 = some (60, 480) := by kernel_rfl
@[go_sem] theorem Try.zt213 : zeroT Try.prog 213 = some (.agg [.int .i64 0, .int .i64 0, .int .i64 0, .int .i64 0, .int .i64 0, .int .i64 0, .int .i64 0, .int .i64 0, .int .i64 0, .int .i64 0, .int .i64 0, .int .i64 0, .int .i64 0, .int .i64 0, .int .i64 0, .int .i64 0, .int .i64 0, .int .i64 0, .int .i64 0, .int .i64 0, .int .i64 0, .int .i64 0, .int .i64 0, .int .i64 0, .int .i64 0, .int .i64 0, .int .i64 0, .int .i64 0, .int .i64 0, .int .i64 0, .int .i64 0, .int .i64 0, .int .i64 0, .int .i64 0, .int .i64 0, .int .i64 0, .int .i64 0, .int .i64 0, .int .i64 0, .int .i64 0, .int .i64 0, .int .i64 0, .int .i64 0, .int .i64 0, .int .i64 0, .int .i64 0, .int .i64 0, .int .i64 0, .int .i64 0, .int .i64 0, .int .i64 0, .int .i64 0, .int .i64 0, .int .i64 0, .int .i64 0, .int .i64 0, .int .i64 0, .int .i64 0, .int .i64 0, .int .i64 0]) := by kernel_rfl
@[go_sem] theorem Try.bld213 (parts : List (Nat × TV)) : buildO Try.prog 213 parts = (fillT (fun i => some (i * 1, 1)) [.int .i64 0, .int .i64 0, .int .i64 0, .int .i64 0, .int .i64 0, .int .i64 0, .int .i64 0, .int .i64 0, .int .i64 0, .int .i64 0, .int .i64 0, .int .i64 0, .int .i64 0, .int .i64 0, .int .i64 0, .int .i64 0, .int .i64 0, .int .i64 0, .int .i64 0, .int .i64 0, .int .i64 0, .int .i64 0, .int .i64 0, .int .i64 0, .int .i64 0, .int .i64 0, .int .i64 0, .int .i64 0, .int .i64 0, .int .i64 0, .int .i64 0, .int .i64 0, .int .i64 0, .int .i64 0, .int .i64 0, .int .i64 0, .int .i64 0, .int .i64 0, .int .i64 0, .int .i64 0, .int .i64 0, .int .i64 0, .int .i64 0, .int .i64 0, .int .i64 0, .int .i64 0, .int .i64 0, .int .i64 0, .int .i64 0, .int .i64 0, .int .i64 0, .int .i64 0, .int .i64 0, .int .i64 0, .int .i64 0, .int .i64 0, .int .i64 0, .int .i64 0, .int .i64 0, .int .i64 0] parts).map .agg := by kernel_rfl
@[go_sem] theorem Try.eqg213 : Program.eqGuardType Try.prog (Program.depth Try.prog) 213 = false := by kernel_rfl
@[go_sem] theorem Try.arr213 : arrayO Try.prog 213 = some (60, 3) := by kernel_rfl
@[go_sem] theorem Try.und213 : Program.underlying Try.prog 213 = some (.array 60 3) := by kernel_rfl
@[go_sem] theorem Try.agg214 : aggO Try.prog 214 = some true := by kernel_rfl
@[go_sem] theorem Try.pln214 : plainO Try.prog 214 = some true := by kernel_rfl
@[go_sem] theorem Try.sz214 : szO Try.prog 214 = some 5 := by kernel_rfl
@[go_sem] theorem Try.zero214 : zeroL Try.prog 214 = some [.int .i64 0, .int .i64 0, .int .i64 0, .int .i64 0, .int .i64 0] := by kernel_rfl
@[go_sem] theorem Try.small214 : smallO Try.prog 214 = some (5, 40) := by kernel_rfl
@[go_sem] theorem Try.zt214 : zeroT Try.prog 214 = some (.agg [.int .i64 0, .int .i64 0, .int .i64 0, .int .i64 0, .int .i64 0]) := by kernel_rfl
@[go_sem] theorem Try.fld214_0 : fieldO Try.prog 214 0 = some (0, 209) := by kernel_rfl
@[go_sem] theorem Try.fld214_1 : fieldO Try.prog 214 1 = some (2, 209) := by kernel_rfl
@[go_sem] theorem Try.fld214_2 : fieldO Try.prog 214 2 = some (4, 3) := by kernel_rfl
@[go_sem] theorem Try.bld214 (parts : List (Nat × TV)) : buildO Try.prog 214 parts = (fillT (fun i => ([(0, 2), (2, 2), (4, 1)] : List (Nat × Nat))[i]?) [.int .i64 0, .int .i64 0, .int .i64 0, .int .i64 0, .int .i64 0] parts).map .agg := by kernel_rfl
@[go_sem] theorem Try.eqg214 : Program.eqGuardType Try.prog (Program.depth Try.prog) 214 = false := by kernel_rfl
@[go_sem] theorem Try.agg215 : aggO Try.prog 215 = some true := by kernel_rfl
@[go_sem] theorem Try.pln215 : plainO Try.prog 215 = some true := by kernel_rfl
@[go_sem] theorem Try.sz215 : szO Try.prog 215 = some 5 := by kernel_rfl
@[go_sem] theorem Try.zero215 : zeroL Try.prog 215 = some [.int .i64 0, .int .i64 0, .int .i64 0, .int .i64 0, .int .i64 0] := by kernel_rfl
@[go_sem] theorem Try.small215 : smallO Try.prog 215 = some (5, 40) := by kernel_rfl
@[go_sem] theorem Try.zt215 : zeroT Try.prog 215 = some (.agg [.int .i64 0, .int .i64 0, .int .i64 0, .int .i64 0, .int .i64 0]) := by kernel_rfl
@[go_sem] theorem Try.fld215_0 : fieldO Try.prog 215 0 = some (0, 209) := by kernel_rfl
@[go_sem] theorem Try.fld215_1 : fieldO Try.prog 215 1 = some (2, 209) := by kernel_rfl
@[go_sem] theorem Try.fld215_2 : fieldO Try.prog 215 2 = some (4, 3) := by kernel_rfl
@[go_sem] theorem Try.bld215 (parts : List (Nat × TV)) : buildO Try.prog 215 parts = (fillT (fun i => ([(0, 2), (2, 2), (4, 1)] : List (Nat × Nat))[i]?) [.int .i64 0, .int .i64 0, .int .i64 0, .int .i64 0, .int .i64 0] parts).map .agg := by kernel_rfl
@[go_sem] theorem Try.eq215 (a0 b0 : Int) (a1 b1 : Int) (a2 b2 : Int) (a3 b3 : Int) (a4 b4 : Int) : eqT Try.prog 20 215 (.agg [.int .i64 a0, .int .i64 a1, .int .i64 a2, .int .i64 a3, .int .i64 a4]) (.agg [.int .i64 b0, .int .i64 b1, .int .i64 b2, .int .i64 b3, .int .i64 b4]) = some (((a0 == b0) && ((a1 == b1) && true)) && (((a2 == b2) && ((a3 == b3) && true)) && ((a4 == b4) && true))) := by kernel_rfl
@[go_sem] theorem Try.eqg215 : Program.eqGuardType Try.prog (Program.depth Try.prog) 215 = false := by kernel_rfl
@[go_sem] theorem Try.agg216 : aggO Try.prog 216 = some false := by kernel_rfl
@[go_sem] theorem Try.pln216 : plainO Try.prog 216 = some true := by kernel_rfl
@[go_sem] theorem Try.sz216 : szO Try.prog 216 = some 1 := by kernel_rfl
@[go_sem] theorem Try.zero216 : zeroL Try.prog 216 = some [.nilFn] := by kernel_rfl
@[go_sem] theorem Try.small216 : smallO Try.prog 216 = some (1, 8) := by kernel_rfl
@[go_sem] theorem Try.zt216 : zeroT Try.prog 216 = some (.nilFn) := by kernel_rfl
@[go_sem] theorem Try.agg217 : aggO Try.prog 217 = some true := by kernel_rfl
@[go_sem] theorem Try.pln217 : plainO Try.prog 217 = some true := by kernel_rfl
@[go_sem] theorem Try.sz217 : szO Try.prog 217 = some 3 := by kernel_rfl
@[go_sem] theorem Try.zero217 : zeroL Try.prog 217 = some [.int .i64 0, .int .i64 0, .bool false] := by kernel_rfl
@[go_sem] theorem Try.small217 : smallO Try.prog 217 = some (3, 24) := by kernel_rfl
@[go_sem] theorem Try.zt217 : zeroT Try.prog 217 = some (.agg [.int .i64 0, .int .i64 0, .bool false]) := by kernel_rfl
@[go_sem] theorem Try.fld217_0 : fieldO Try.prog 217 0 = some (0, 3) := by kernel_rfl
@[go_sem] theorem Try.fld217_1 : fieldO Try.prog 217 1 = some (1, 3) := by kernel_rfl
@[go_sem] theorem Try.fld217_2 : fieldO Try.prog 217 2 = some (2, 4) := by kernel_rfl
@[go_sem] theorem Try.bld217 (parts : List (Nat × TV)) : buildO Try.prog 217 parts = (fillT (fun i => ([(0, 1), (1, 1), (2, 1)] : List (Nat × Nat))[i]?) [.int .i64 0, .int .i64 0, .bool false] parts).map .agg := by kernel_rfl
@[go_sem] theorem Try.eqg217 : Program.eqGuardType Try.prog (Program.depth Try.prog) 217 = false := by kernel_rfl
@[go_sem] theorem Try.agg218 : aggO Try.prog 218 = some true := by kernel_rfl
@[go_sem] theorem Try.pln218 : plainO Try.prog 218 = some true := by kernel_rfl
@[go_sem] theorem Try.sz218 : szO Try.prog 218 = some 3 := by kernel_rfl
@[go_sem] theorem Try.zero218 : zeroL Try.prog 218 = some [.int .i64 0, .int .i64 0, .bool false] := by kernel_rfl
@[go_sem] theorem Try.small218 : smallO Try.prog 218 = some (3, 24) := by kernel_rfl
@[go_sem] theorem Try.zt218 : zeroT Try.prog 218 = some (.agg [.int .i64 0, .int .i64 0, .bool false]) := by kernel_rfl
@[go_sem] theorem Try.fld218_0 : fieldO Try.prog 218 0 = some (0, 3) := by kernel_rfl
@[go_sem] theorem Try.fld218_1 : fieldO Try.prog 218 1 = some (1, 3) := by kernel_rfl
@[go_sem] theorem Try.fld218_2 : fieldO Try.prog 218 2 = some (2, 4) := by kernel_rfl
@[go_sem] theorem Try.bld218 (parts : List (Nat × TV)) : buildO Try.prog 218 parts = (fillT (fun i => ([(0, 1), (1, 1), (2, 1)] : List (Nat × Nat))[i]?) [.int .i64 0, .int .i64 0, .bool false] parts).map .agg := by kernel_rfl
@[go_sem] theorem Try.eq218 (a0 b0 : Int) (a1 b1 : Int) (a2 b2 : Bool) : eqT Try.prog 20 218 (.agg [.int .i64 a0, .int .i64 a1, .bool a2]) (.agg [.int .i64 b0, .int .i64 b1, .bool b2]) = some ((a0 == b0) && ((a1 == b1) && ((a2 == b2) && true))) := by kernel_rfl
@[go_sem] theorem Try.eqg218 : Program.eqGuardType Try.prog (Program.depth Try.prog) 218 = false := by kernel_rfl
@[go_sem] theorem Try.agg219 : aggO Try.prog 219 = some true := by kernel_rfl
@[go_sem] theorem Try.pln219 : plainO Try.prog 219 = some true := by kernel_rfl
@[go_sem] theorem Try.sz219 : szO Try.prog 219 = some 2 := by kernel_rfl
@[go_sem] theorem Try.zero219 : zeroL Try.prog 219 = some [.int .i64 0, .nilFn] := by kernel_rfl
@[go_sem] theorem Try.small219 : smallO Try.prog 219 = some (2, 16) := by kernel_rfl
@[go_sem] theorem Try.zt219 : zeroT Try.prog 219 = some (.agg [.int .i64 0, .nilFn]) := by kernel_rfl
@[go_sem] theorem Try.fld219_0 : fieldO Try.prog 219 0 = some (0, 3) := by kernel_rfl
@[go_sem] theorem Try.fld219_1 : fieldO Try.prog 219 1 = some (1, 66) := by kernel_rfl
@[go_sem] theorem Try.bld219 (parts : List (Nat × TV)) : buildO Try.prog 219 parts = (fillT (fun i => ([(0, 1), (1, 1)] : List (Nat × Nat))[i]?) [.int .i64 0, .nilFn] parts).map .agg := by kernel_rfl
@[go_sem] theorem Try.bldp219 (parts : List (Nat × PV)) : buildP Try.prog 219 parts = fillP (fun i => ([(0, 1), (1, 1)] : List (Nat × Nat))[i]?) [.t (.int .i64 0), .t (.nilFn)] parts := by kernel_rfl
@[go_sem] theorem Try.eqg219 : Program.eqGuardType Try.prog (Program.depth Try.prog) 219 = false := by kernel_rfl
@[go_sem] theorem Try.agg220 : aggO Try.prog 220 = some true := by kernel_rfl
@[go_sem] theorem Try.pln220 : plainO Try.prog 220 = some true := by kernel_rfl
@[go_sem] theorem Try.sz220 : szO Try.prog 220 = some 2 := by kernel_rfl
@[go_sem] theorem Try.zero220 : zeroL Try.prog 220 = some [.int .i64 0, .nilFn] := by kernel_rfl
@[go_sem] theorem Try.small220 : smallO Try.prog 220 = some (2, 16) := by kernel_rfl
@[go_sem] theorem Try.zt220 : zeroT Try.prog 220 = some (.agg [.int .i64 0, .nilFn]) := by kernel_rfl
@[go_sem] theorem Try.fld220_0 : fieldO Try.prog 220 0 = some (0, 3) := by kernel_rfl
@[go_sem] theorem Try.fld220_1 : fieldO Try.prog 220 1 = some (1, 66) := by kernel_rfl
@[go_sem] theorem Try.bld220 (parts : List (Nat × TV)) : buildO Try.prog 220 parts = (fillT (fun i => ([(0, 1), (1, 1)] : List (Nat × Nat))[i]?) [.int .i64 0, .nilFn] parts).map .agg := by kernel_rfl
@[go_sem] theorem Try.bldp220 (parts : List (Nat × PV)) : buildP Try.prog 220 parts = fillP (fun i => ([(0, 1), (1, 1)] : List (Nat × Nat))[i]?) [.t (.int .i64 0), .t (.nilFn)] parts := by kernel_rfl
@[go_sem] theorem Try.eqg220 : Program.eqGuardType Try.prog (Program.depth Try.prog) 220 = false := by kernel_rfl
@[go_sem] theorem Try.agg221 : aggO Try.prog 221 = some false := by kernel_rfl
@[go_sem] theorem Try.pln221 : plainO Try.prog 221 = some true := by kernel_rfl
@[go_sem] theorem Try.sz221 : szO Try.prog 221 = some 1 := by kernel_rfl
@[go_sem] theorem Try.zero221 : zeroL Try.prog 221 = some [.nilFn] := by kernel_rfl
@[go_sem] theorem Try.small221 : smallO Try.prog 221 = some (1, 8) := by kernel_rfl
@[go_sem] theorem Try.zt221 : zeroT Try.prog 221 = some (.nilFn) := by kernel_rfl
@[go_sem] theorem Try.agg222 : aggO Try.prog 222 = some false := by kernel_rfl
@[go_sem] theorem Try.pln222 : plainO Try.prog 222 = some true := by kernel_rfl
@[go_sem] theorem Try.sz222 : szO Try.prog 222 = some 1 := by kernel_rfl
@[go_sem] theorem Try.zero222 : zeroL Try.prog 222 = some [.nilFn] := by kernel_rfl
@[go_sem] theorem Try.small222 : smallO Try.prog 222 = some (1, 8) := by kernel_rfl
@[go_sem] theorem Try.zt222 : zeroT Try.prog 222 = some (.nilFn) := by kernel_rfl
@[go_sem] theorem Try.agg223 : aggO Try.prog 223 = some false := by kernel_rfl
@[go_sem] theorem Try.pln223 : plainO Try.prog 223 = some true := by kernel_rfl
@[go_sem] theorem Try.sz223 : szO Try.prog 223 = some 1 := by kernel_rfl
@[go_sem] theorem Try.zero223 : zeroL Try.prog 223 = some [.nilFn] := by kernel_rfl
@[go_sem] theorem Try.small223 : smallO Try.prog 223 = some (1, 8) := by kernel_rfl
@[go_sem] theorem Try.zt223 : zeroT Try.prog 223 = some (.nilFn) := by kernel_rfl
@[go_sem] theorem Try.agg224 : aggO Try.prog 224 = some false := by kernel_rfl
@[go_sem] theorem Try.pln224 : plainO Try.prog 224 = some true := by kernel_rfl
@[go_sem] theorem Try.sz224 : szO Try.prog 224 = some 1 := by kernel_rfl
@[go_sem] theorem Try.zero224 : zeroL Try.prog 224 = some [.nilSl] := by kernel_rfl
@[go_sem] theorem Try.small224 : smallO Try.prog 224 = some (1, 24) := by kernel_rfl
@[go_sem] theorem Try.zt224 : zeroT Try.prog 224 = some (.nilSl) := by kernel_rfl
@[go_sem] theorem Try.eqn224 : eqT Try.prog 20 224 .nilSl .nilSl = some true := by kernel_rfl
@[go_sem] theorem Try.eqs224 (cs : List TV) (n : Nat) (f : Bool) : eqT Try.prog 20 224 (.sl cs n f) .nilSl = some false := by kernel_rfl
@[go_sem] theorem Try.eqt224 (cs : List TV) (n : Nat) (f : Bool) : eqT Try.prog 20 224 .nilSl (.sl cs n f) = some false := by kernel_rfl
@[go_sem] theorem Try.sl224 : sliceO Try.prog 224 = some 243 := by kernel_rfl
@[go_sem] theorem Try.und224 : Program.underlying Try.prog 224 = some (.slice 243) := by kernel_rfl
@[go_sem] theorem Try.agg225 : aggO Try.prog 225 = some false := by kernel_rfl
@[go_sem] theorem Try.pln225 : plainO Try.prog 225 = some true := by kernel_rfl
@[go_sem] theorem Try.sz225 : szO Try.prog 225 = some 1 := by kernel_rfl
@[go_sem] theorem Try.zero225 : zeroL Try.prog 225 = some [.nilFn] := by kernel_rfl
@[go_sem] theorem Try.small225 : smallO Try.prog 225 = some (1, 8) := by kernel_rfl
@[go_sem] theorem Try.zt225 : zeroT Try.prog 225 = some (.nilFn) := by kernel_rfl
@[go_sem] theorem Try.agg226 : aggO Try.prog 226 = some true := by kernel_rfl
@[go_sem] theorem Try.pln226 : plainO Try.prog 226 = some true := by kernel_rfl
@[go_sem] theorem Try.sz226 : szO Try.prog 226 = some 2 := by kernel_rfl
@[go_sem] theorem Try.zero226 : zeroL Try.prog 226 = some [.int .i64 0, .int .i64 0] := by kernel_rfl
@[go_sem] theorem Try.small226 : smallO Try.prog 226 = some (2, 16) := by kernel_rfl
@[go_sem] theorem Try.zt226 : zeroT Try.prog 226 = some (.agg [.int .i64 0, .int .i64 0]) := by kernel_rfl
@[go_sem] theorem Try.fld226_0 : fieldO Try.prog 226 0 = some (0, 3) := by kernel_rfl
@[go_sem] theorem Try.fld226_1 : fieldO Try.prog 226 1 = some (1, 3) := by kernel_rfl
@[go_sem] theorem Try.bld226 (parts : List (Nat × TV)) : buildO Try.prog 226 parts = (fillT (fun i => ([(0, 1), (1, 1)] : List (Nat × Nat))[i]?) [.int .i64 0, .int .i64 0] parts).map .agg := by kernel_rfl
@[go_sem] theorem Try.eq226 (a0 b0 : Int) (a1 b1 : Int) : eqT Try.prog 20 226 (.agg [.int .i64 a0, .int .i64 a1]) (.agg [.int .i64 b0, .int .i64 b1]) = some ((a0 == b0) && ((a1 == b1) && true)) := by kernel_rfl
@[go_sem] theorem Try.eqg226 : Program.eqGuardType Try.prog (Program.depth Try.prog) 226 = false := by kernel_rfl
@[go_sem] theorem Try.agg227 : aggO Try.prog 227 = some true := by kernel_rfl
@[go_sem] theorem Try.pln227 : plainO Try.prog 227 = some true := by kernel_rfl
@[go_sem] theorem Try.sz227 : szO Try.prog 227 = some 2 := by kernel_rfl
@[go_sem] theorem Try.zero227 : zeroL Try.prog 227 = some [.int .i64 0, .nilSl] := by kernel_rfl
@[go_sem] theorem Try.small227 : smallO Try.prog 227 = some (2, 32) := by kernel_rfl
@[go_sem] theorem Try.zt227 : zeroT Try.prog 227 = some (.agg [.int .i64 0, .nilSl]) := by kernel_rfl
@[go_sem] theorem Try.fld227_0 : fieldO Try.prog 227 0 = some (0, 3) := by kernel_rfl
@[go_sem] theorem Try.fld227_1 : fieldO Try.prog 227 1 = some (1, 23) := by kernel_rfl
@[go_sem] theorem Try.bld227 (parts : List (Nat × TV)) : buildO Try.prog 227 parts = (fillT (fun i => ([(0, 1), (1, 1)] : List (Nat × Nat))[i]?) [.int .i64 0, .nilSl] parts).map .agg := by kernel_rfl
@[go_sem] theorem Try.bldp227 (parts : List (Nat × PV)) : buildP Try.prog 227 parts = fillP (fun i => ([(0, 1), (1, 1)] : List (Nat × Nat))[i]?) [.t (.int .i64 0), .t (.nilSl)] parts := by kernel_rfl
@[go_sem] theorem Try.eqg227 : Program.eqGuardType Try.prog (Program.depth Try.prog) 227 = false := by kernel_rfl
@[go_sem] theorem Try.agg228 : aggO Try.prog 228 = some true := by kernel_rfl
@[go_sem] theorem Try.pln228 : plainO Try.prog 228 = some true := by kernel_rfl
@[go_sem] theorem Try.sz228 : szO Try.prog 228 = some 2 := by kernel_rfl
@[go_sem] theorem Try.zero228 : zeroL Try.prog 228 = some [.int .i64 0, .nilSl] := by kernel_rfl
@[go_sem] theorem Try.small228 : smallO Try.prog 228 = some (2, 32) := by kernel_rfl
@[go_sem] theorem Try.zt228 : zeroT Try.prog 228 = some (.agg [.int .i64 0, .nilSl]) := by kernel_rfl
@[go_sem] theorem Try.fld228_0 : fieldO Try.prog 228 0 = some (0, 3) := by kernel_rfl
@[go_sem] theorem Try.fld228_1 : fieldO Try.prog 228 1 = some (1, 23) := by kernel_rfl
@[go_sem] theorem Try.bld228 (parts : List (Nat × TV)) : buildO Try.prog 228 parts = (fillT (fun i => ([(0, 1), (1, 1)] : List (Nat × Nat))[i]?) [.int .i64 0, .nilSl] parts).map .agg := by kernel_rfl
@[go_sem] theorem Try.bldp228 (parts : List (Nat × PV)) : buildP Try.prog 228 parts = fillP (fun i => ([(0, 1), (1, 1)] : List (Nat × Nat))[i]?) [.t (.int .i64 0), .t (.nilSl)] parts := by kernel_rfl
@[go_sem] theorem Try.eqg228 : Program.eqGuardType Try.prog (Program.depth Try.prog) 228 = false := by kernel_rfl
@[go_sem] theorem Try.agg229 : aggO Try.prog 229 = some false := by kernel_rfl
@[go_sem] theorem Try.pln229 : plainO Try.prog 229 = some true := by kernel_rfl
@[go_sem] theorem Try.sz229 : szO Try.prog 229 = some 1 := by kernel_rfl
@[go_sem] theorem Try.zero229 : zeroL Try.prog 229 = some [.nilFn] := by kernel_rfl
@[go_sem] theorem Try.small229 : smallO Try.prog 229 = some (1, 8) := by kernel_rfl
@[go_sem] theorem Try.zt229 : zeroT Try.prog 229 = some (.nilFn) := by kernel_rfl
@[go_sem] theorem Try.agg230 : aggO Try.prog 230 = some false := by kernel_rfl
@[go_sem] theorem Try.pln230 : plainO Try.prog 230 = some true := by kernel_rfl
@[go_sem] theorem Try.sz230 : szO Try.prog 230 = some 1 := by kernel_rfl
@[go_sem] theorem Try.zero230 : zeroL Try.prog 230 = some [.nilFn] := by kernel_rfl
@[go_sem] theorem Try.small230 : smallO Try.prog 230 = some (1, 8) := by kernel_rfl
@[go_sem] theorem Try.zt230 : zeroT Try.prog 230 = some (.nilFn) := by kernel_rfl
@[go_sem] theorem Try.agg231 : aggO Try.prog 231 = some true := by kernel_rfl
@[go_sem] theorem Try.pln231 : plainO Try.prog 231 = some true := by kernel_rfl
@[go_sem] theorem Try.sz231 : szO Try.prog 231 = some 2 := by kernel_rfl
@[go_sem] theorem Try.zero231 : zeroL Try.prog 231 = some [.int .i64 0, .int .i64 0] := by kernel_rfl
@[go_sem] theorem Try.small231 : smallO Try.prog 231 = some (2, 16) := by kernel_rfl
@[go_sem] theorem Try.zt231 : zeroT Try.prog 231 = some (.agg [.int .i64 0, .int .i64 0]) := by kernel_rfl
@[go_sem] theorem Try.bld231 (parts : List (Nat × TV)) : buildO Try.prog 231 parts = (fillT (fun i => some (i * 1, 1)) [.int .i64 0, .int .i64 0] parts).map .agg := by kernel_rfl
@[go_sem] theorem Try.eq231 (a0 b0 : Int) (a1 b1 : Int) : eqT Try.prog 20 231 (.agg [.int .i64 a0, .int .i64 a1]) (.agg [.int .i64 b0, .int .i64 b1]) = some ((a0 == b0) && ((a1 == b1) && true)) := by kernel_rfl
@[go_sem] theorem Try.eqg231 : Program.eqGuardType Try.prog (Program.depth Try.prog) 231 = false := by kernel_rfl
@[go_sem] theorem Try.arr231 : arrayO Try.prog 231 = some (2, 3) := by kernel_rfl
@[go_sem] theorem Try.und231 : Program.underlying Try.prog 231 = some (.array 2 3) := by kernel_rfl
@[go_sem] theorem Try.agg232 : aggO Try.prog 232 = some false := by kernel_rfl
@[go_sem] theorem Try.pln232 : plainO Try.prog 232 = some true := by kernel_rfl
@[go_sem] theorem Try.sz232 : szO Try.prog 232 = some 1 := by kernel_rfl
@[go_sem] theorem Try.zero232 : zeroL Try.prog 232 = some [.nilFn] := by kernel_rfl
@[go_sem] theorem Try.small232 : smallO Try.prog 232 = some (1, 8) := by kernel_rfl
@[go_sem] theorem Try.zt232 : zeroT Try.prog 232 = some (.nilFn) := by kernel_rfl
@[go_sem] theorem Try.agg233 : aggO Try.prog 233 = some false := by kernel_rfl
@[go_sem] theorem Try.pln233 : plainO Try.prog 233 = some true := by kernel_rfl
@[go_sem] theorem Try.sz233 : szO Try.prog 233 = some 1 := by kernel_rfl
@[go_sem] theorem Try.zero233 : zeroL Try.prog 233 = some [.nilFn] := by kernel_rfl
@[go_sem] theorem Try.small233 : smallO Try.prog 233 = some (1, 8) := by kernel_rfl
@[go_sem] theorem Try.zt233 : zeroT Try.prog 233 = some (.nilFn) := by kernel_rfl
@[go_sem] theorem Try.agg234 : aggO Try.prog 234 = some false := by kernel_rfl
@[go_sem] theorem Try.pln234 : plainO Try.prog 234 = some true := by kernel_rfl
@[go_sem] theorem Try.sz234 : szO Try.prog 234 = some 1 := by kernel_rfl
@[go_sem] theorem Try.zero234 : zeroL Try.prog 234 = some [.nilFn] := by kernel_rfl
@[go_sem] theorem Try.small234 : smallO Try.prog 234 = some (1, 8) := by kernel_rfl
@[go_sem] theorem Try.zt234 : zeroT Try.prog 234 = some (.nilFn) := by kernel_rfl
@[go_sem] theorem Try.agg235 : aggO Try.prog 235 = some false := by kernel_rfl
@[go_sem] theorem Try.pln235 : plainO Try.prog 235 = some true := by kernel_rfl
@[go_sem] theorem Try.sz235 : szO Try.prog 235 = some 1 := by kernel_rfl
@[go_sem] theorem Try.zero235 : zeroL Try.prog 235 = some [.nilFn] := by kernel_rfl
@[go_sem] theorem Try.small235 : smallO Try.prog 235 = some (1, 8) := by kernel_rfl
@[go_sem] theorem Try.zt235 : zeroT Try.prog 235 = some (.nilFn) := by kernel_rfl
@[go_sem] theorem Try.agg236 : aggO Try.prog 236 = some false := by kernel_rfl
@[go_sem] theorem Try.pln236 : plainO Try.prog 236 = some true := by kernel_rfl
@[go_sem] theorem Try.sz236 : szO Try.prog 236 = some 1 := by kernel_rfl
@[go_sem] theorem Try.zero236 : zeroL Try.prog 236 = some [.nilFn] := by kernel_rfl
@[go_sem] theorem Try.small236 : smallO Try.prog 236 = some (1, 8) := by kernel_rfl
@[go_sem] theorem Try.zt236 : zeroT Try.prog 236 = some (.nilFn) := by kernel_rfl
@[go_sem] theorem Try.agg237 : aggO Try.prog 237 = some false := by kernel_rfl
@[go_sem] theorem Try.pln237 : plainO Try.prog 237 = some true := by kernel_rfl
@[go_sem] theorem Try.sz237 : szO Try.prog 237 = some 1 := by kernel_rfl
@[go_sem] theorem Try.zero237 : zeroL Try.prog 237 = some [.nilFn] := by kernel_rfl
@[go_sem] theorem Try.small237 : smallO Try.prog 237 = some (1, 8) := by kernel_rfl
@[go_sem] theorem Try.zt237 : zeroT Try.prog 237 = some (.nilFn) := by kernel_rfl
@[go_sem] theorem Try.agg238 : aggO Try.prog 238 = some false := by kernel_rfl
@[go_sem] theorem Try.pln238 : plainO Try.prog 238 = some true := by kernel_rfl
@[go_sem] theorem Try.sz238 : szO Try.prog 238 = some 1 := by kernel_rfl
@[go_sem] theorem Try.zero238 : zeroL Try.prog 238 = some [.nilFn] := by kernel_rfl
@[go_sem] theorem Try.small238 : smallO Try.prog 238 = some (1, 8) := by kernel_rfl
@[go_sem] theorem Try.zt238 : zeroT Try.prog 238 = some (.nilFn) := by kernel_rfl
@[go_sem] theorem Try.agg239 : aggO Try.prog 239 = some false := by kernel_rfl
@[go_sem] theorem Try.pln239 : plainO Try.prog 239 = some true := by kernel_rfl
@[go_sem] theorem Try.sz239 : szO Try.prog 239 = some 1 := by kernel_rfl
@[go_sem] theorem Try.zero239 : zeroL Try.prog 239 = some [.nilFn] := by kernel_rfl
@[go_sem] theorem Try.small239 : smallO Try.prog 239 = some (1, 8) := by kernel_rfl
@[go_sem] theorem Try.zt239 : zeroT Try.prog 239 = some (.nilFn) := by kernel_rfl
@[go_sem] theorem Try.agg240 : aggO Try.prog 240 = some false := by kernel_rfl
@[go_sem] theorem Try.pln240 : plainO Try.prog 240 = some true := by kernel_rfl
@[go_sem] theorem Try.sz240 : szO Try.prog 240 = some 1 := by kernel_rfl
@[go_sem] theorem Try.zero240 : zeroL Try.prog 240 = some [.nilFn] := by kernel_rfl
@[go_sem] theorem Try.small240 : smallO Try.prog 240 = some (1, 8) := by kernel_rfl
@[go_sem] theorem Try.zt240 : zeroT Try.prog 240 = some (.nilFn) := by kernel_rfl
@[go_sem] theorem Try.agg241 : aggO Try.prog 241 = some false := by kernel_rfl
@[go_sem] theorem Try.pln241 : plainO Try.prog 241 = some true := by kernel_rfl
@[go_sem] theorem Try.sz241 : szO Try.prog 241 = some 1 := by kernel_rfl
@[go_sem] theorem Try.zero241 : zeroL Try.prog 241 = some [.nilFn] := by kernel_rfl
@[go_sem] theorem Try.small241 : smallO Try.prog 241 = some (1, 8) := by kernel_rfl
@[go_sem] theorem Try.zt241 : zeroT Try.prog 241 = some (.nilFn) := by kernel_rfl
@[go_sem] theorem Try.agg242 : aggO Try.prog 242 = some false := by kernel_rfl
@[go_sem] theorem Try.pln242 : plainO Try.prog 242 = some false := by kernel_rfl
@[go_sem] theorem Try.sz242 : szO Try.prog 242 = some 1 := by kernel_rfl
@[go_sem] theorem Try.zero242 : zeroL Try.prog 242 = some [.nilIf] := by kernel_rfl
@[go_sem] theorem Try.small242 : smallO Try.prog 242 = some (1, 16) := by kernel_rfl
@[go_sem] theorem Try.zt242 : zeroT Try.prog 242 = some (.nilIf) := by kernel_rfl
@[go_sem] theorem Try.agg243 : aggO Try.prog 243 = some false := by kernel_rfl
@[go_sem] theorem Try.pln243 : plainO Try.prog 243 = some false := by kernel_rfl
@[go_sem] theorem Try.sz243 : szO Try.prog 243 = some 1 := by kernel_rfl
@[go_sem] theorem Try.zero243 : zeroL Try.prog 243 = some [.nilIf] := by kernel_rfl
@[go_sem] theorem Try.small243 : smallO Try.prog 243 = some (1, 16) := by kernel_rfl
@[go_sem] theorem Try.zt243 : zeroT Try.prog 243 = some (.nilIf) := by kernel_rfl
@[go_sem] theorem Try.agg244 : aggO Try.prog 244 = some false := by kernel_rfl
@[go_sem] theorem Try.pln244 : plainO Try.prog 244 = some true := by kernel_rfl
@[go_sem] theorem Try.sz244 : szO Try.prog 244 = some 1 := by kernel_rfl
@[go_sem] theorem Try.zero244 : zeroL Try.prog 244 = some [.nilFn] := by kernel_rfl
@[go_sem] theorem Try.small244 : smallO Try.prog 244 = some (1, 8) := by kernel_rfl
@[go_sem] theorem Try.zt244 : zeroT Try.prog 244 = some (.nilFn) := by kernel_rfl
@[go_sem] theorem Try.agg245 : aggO Try.prog 245 = some false := by kernel_rfl
@[go_sem] theorem Try.pln245 : plainO Try.prog 245 = some true := by kernel_rfl
@[go_sem] theorem Try.sz245 : szO Try.prog 245 = some 1 := by kernel_rfl
@[go_sem] theorem Try.zero245 : zeroL Try.prog 245 = some [.nilFn] := by kernel_rfl
@[go_sem] theorem Try.small245 : smallO Try.prog 245 = some (1, 8) := by kernel_rfl
@[go_sem] theorem Try.zt245 : zeroT Try.prog 245 = some (.nilFn) := by kernel_rfl
@[go_sem] theorem Try.agg246 : aggO Try.prog 246 = some true := by kernel_rfl
@[go_sem] theorem Try.pln246 : plainO Try.prog 246 = some true := by kernel_rfl
@[go_sem] theorem Try.sz246 : szO Try.prog 246 = some 4 := by kernel_rfl
@[go_sem] theorem Try.zero246 : zeroL Try.prog 246 = some [.nilPtr, .nilPtr, .nilPtr, .str ⟨#[]⟩] := by kernel_rfl
@[go_sem] theorem Try.small246 : smallO Try.prog 246 = some (4, 40) := by kernel_rfl
@[go_sem] theorem Try.zt246 : zeroT Try.prog 246 = some (.agg [.nilPtr, .nilPtr, .nilPtr, .str ⟨#[]⟩]) := by kernel_rfl
@[go_sem] theorem Try.fld246_0 : fieldO Try.prog 246 0 = some (0, 17) := by kernel_rfl
@[go_sem] theorem Try.fld246_1 : fieldO Try.prog 246 1 = some (1, 17) := by kernel_rfl
@[go_sem] theorem Try.fld246_2 : fieldO Try.prog 246 2 = some (2, 17) := by kernel_rfl
@[go_sem] theorem Try.fld246_3 : fieldO Try.prog 246 3 = some (3, 9) := by kernel_rfl
@[go_sem] theorem Try.bld246 (parts : List (Nat × TV)) : buildO Try.prog 246 parts = (fillT (fun i => ([(0, 1), (1, 1), (2, 1), (3, 1)] : List (Nat × Nat))[i]?) [.nilPtr, .nilPtr, .nilPtr, .str ⟨#[]⟩] parts).map .agg := by kernel_rfl
@[go_sem] theorem Try.bldp246 (parts : List (Nat × PV)) : buildP Try.prog 246 parts = fillP (fun i => ([(0, 1), (1, 1), (2, 1), (3, 1)] : List (Nat × Nat))[i]?) [.t (.nilPtr), .t (.nilPtr), .t (.nilPtr), .t (.str ⟨#[]⟩)] parts := by kernel_rfl
@[go_sem] theorem Try.eqg246 : Program.eqGuardType Try.prog (Program.depth Try.prog) 246 = false := by kernel_rfl
@[go_sem] theorem Try.agg248 : aggO Try.prog 248 = some true := by kernel_rfl
@[go_sem] theorem Try.pln248 : plainO Try.prog 248 = some true := by kernel_rfl
@[go_sem] theorem Try.sz248 : szO Try.prog 248 = some 0 := by kernel_rfl
@[go_sem] theorem Try.zero248 : zeroL Try.prog 248 = some [] := by kernel_rfl
@[go_sem] theorem Try.zt248 : zeroT Try.prog 248 = some (.agg []) := by kernel_rfl
@[go_sem] theorem Try.arr248 : arrayO Try.prog 248 = some (0, 16) := by kernel_rfl
@[go_sem] theorem Try.und248 : Program.underlying Try.prog 248 = some (.array 0 16) := by kernel_rfl
@[go_sem] theorem Try.agg249 : aggO Try.prog 249 = some true := by kernel_rfl
@[go_sem] theorem Try.pln249 : plainO Try.prog 249 = some true := by kernel_rfl
@[go_sem] theorem Try.sz249 : szO Try.prog 249 = some 0 := by kernel_rfl
@[go_sem] theorem Try.zero249 : zeroL Try.prog 249 = some [] := by kernel_rfl
@[go_sem] theorem Try.zt249 : zeroT Try.prog 249 = some (.agg []) := by kernel_rfl
@[go_sem] theorem Try.fld249_0 : fieldO Try.prog 249 0 = some (0, 248) := by kernel_rfl
@[go_sem] theorem Try.agg251 : aggO Try.prog 251 = some false := by kernel_rfl
@[go_sem] theorem Try.pln251 : plainO Try.prog 251 = some true := by kernel_rfl
@[go_sem] theorem Try.sz251 : szO Try.prog 251 = some 1 := by kernel_rfl
@[go_sem] theorem Try.zero251 : zeroL Try.prog 251 = some [.int .u32 0] := by kernel_rfl
@[go_sem] theorem Try.small251 : smallO Try.prog 251 = some (1, 4) := by kernel_rfl
@[go_sem] theorem Try.zt251 : zeroT Try.prog 251 = some (.int .u32 0) := by kernel_rfl
@[go_sem] theorem Try.knd251 : kindO Try.prog 251 = some .u32 := by kernel_rfl
@[go_sem] theorem Try.und251 : Program.underlying Try.prog 251 = some (.int .u32) := by kernel_rfl
@[go_sem] theorem Try.agg254 : aggO Try.prog 254 = some false := by kernel_rfl
@[go_sem] theorem Try.pln254 : plainO Try.prog 254 = some true := by kernel_rfl
@[go_sem] theorem Try.sz254 : szO Try.prog 254 = some 1 := by kernel_rfl
@[go_sem] theorem Try.zero254 : zeroL Try.prog 254 = some [.nilFn] := by kernel_rfl
@[go_sem] theorem Try.small254 : smallO Try.prog 254 = some (1, 8) := by kernel_rfl
@[go_sem] theorem Try.zt254 : zeroT Try.prog 254 = some (.nilFn) := by kernel_rfl
@[go_sem] theorem Try.agg255 : aggO Try.prog 255 = some false := by kernel_rfl
@[go_sem] theorem Try.pln255 : plainO Try.prog 255 = some true := by kernel_rfl
@[go_sem] theorem Try.sz255 : szO Try.prog 255 = some 1 := by kernel_rfl
@[go_sem] theorem Try.zero255 : zeroL Try.prog 255 = some [.nilPtr] := by kernel_rfl
@[go_sem] theorem Try.small255 : smallO Try.prog 255 = some (1, 8) := by kernel_rfl
@[go_sem] theorem Try.zt255 : zeroT Try.prog 255 = some (.nilPtr) := by kernel_rfl
@[go_sem] theorem Try.agg258 : aggO Try.prog 258 = some true := by kernel_rfl
@[go_sem] theorem Try.pln258 : plainO Try.prog 258 = some true := by kernel_rfl
@[go_sem] theorem Try.sz258 : szO Try.prog 258 = some 11 := by kernel_rfl
@[go_sem] theorem Try.zero258 : zeroL Try.prog 258 = some [.int .u64 0, .int .u64 0, .int .u32 0, .int .u8 0, .int .u8 0, .int .u8 0, .int .u8 0, .nilFn, .nilPtr, .int .i32 0, .int .i32 0] := by kernel_rfl
@[go_sem] theorem Try.small258 : smallO Try.prog 258 = some (11, 48) := by kernel_rfl
@[go_sem] theorem Try.zt258 : zeroT Try.prog 258 = some (.agg [.int .u64 0, .int .u64 0, .int .u32 0, .int .u8 0, .int .u8 0, .int .u8 0, .int .u8 0, .nilFn, .nilPtr, .int .i32 0, .int .i32 0]) := by kernel_rfl
@[go_sem] theorem Try.fld258_0 : fieldO Try.prog 258 0 = some (0, 12) := by kernel_rfl
@[go_sem] theorem Try.fld258_1 : fieldO Try.prog 258 1 = some (1, 12) := by kernel_rfl
@[go_sem] theorem Try.fld258_2 : fieldO Try.prog 258 2 = some (2, 251) := by kernel_rfl
@[go_sem] theorem Try.fld258_3 : fieldO Try.prog 258 3 = some (3, 252) := by kernel_rfl
@[go_sem] theorem Try.fld258_4 : fieldO Try.prog 258 4 = some (4, 5) := by kernel_rfl
@[go_sem] theorem Try.fld258_5 : fieldO Try.prog 258 5 = some (5, 5) := by kernel_rfl
@[go_sem] theorem Try.fld258_6 : fieldO Try.prog 258 6 = some (6, 253) := by kernel_rfl
@[go_sem] theorem Try.fld258_7 : fieldO Try.prog 258 7 = some (7, 254) := by kernel_rfl
@[go_sem] theorem Try.fld258_8 : fieldO Try.prog 258 8 = some (8, 255) := by kernel_rfl
@[go_sem] theorem Try.fld258_9 : fieldO Try.prog 258 9 = some (9, 256) := by kernel_rfl
@[go_sem] theorem Try.fld258_10 : fieldO Try.prog 258 10 = some (10, 257) := by kernel_rfl
@[go_sem] theorem Try.bld258 (parts : List (Nat × TV)) : buildO Try.prog 258 parts = (fillT (fun i => ([(0, 1), (1, 1), (2, 1), (3, 1), (4, 1), (5, 1), (6, 1), (7, 1), (8, 1), (9, 1), (10, 1)] : List (Nat × Nat))[i]?) [.int .u64 0, .int .u64 0, .int .u32 0, .int .u8 0, .int .u8 0, .int .u8 0, .int .u8 0, .nilFn, .nilPtr, .int .i32 0, .int .i32 0] parts).map .agg := by kernel_rfl
@[go_sem] theorem Try.bldp258 (parts : List (Nat × PV)) : buildP Try.prog 258 parts = fillP (fun i => ([(0, 1), (1, 1), (2, 1), (3, 1), (4, 1), (5, 1), (6, 1), (7, 1), (8, 1), (9, 1), (10, 1)] : List (Nat × Nat))[i]?) [.t (.int .u64 0), .t (.int .u64 0), .t (.int .u32 0), .t (.int .u8 0), .t (.int .u8 0), .t (.int .u8 0), .t (.int .u8 0), .t (.nilFn), .t (.nilPtr), .t (.int .i32 0), .t (.int .i32 0)] parts := by kernel_rfl
@[go_sem] theorem Try.eqg258 : Program.eqGuardType Try.prog (Program.depth Try.prog) 258 = false := by kernel_rfl
@[go_sem] theorem Try.agg261 : aggO Try.prog 261 = some false := by kernel_rfl
@[go_sem] theorem Try.pln261 : plainO Try.prog 261 = some true := by kernel_rfl
@[go_sem] theorem Try.sz261 : szO Try.prog 261 = some 1 := by kernel_rfl
@[go_sem] theorem Try.zero261 : zeroL Try.prog 261 = some [.nilFn] := by kernel_rfl
@[go_sem] theorem Try.small261 : smallO Try.prog 261 = some (1, 8) := by kernel_rfl
@[go_sem] theorem Try.zt261 : zeroT Try.prog 261 = some (.nilFn) := by kernel_rfl
theorem Try.mixes : Try.prog.follows .mixedOrders = true := by kernel_rfl
end Go.Proofs.Ytadkjjnnnkfalaa

/- Part Pb. -/
namespace Go.Oc
open Go Go.Pm

/-- A number that an int can hold. -/
def In64 (n : Int) : Prop := -9223372036854775808 ≤ n ∧ n ≤ 9223372036854775807
theorem wrap_id {n : Int} (h : In64 n) : IntKind.i64.wrap n = n := wrap_in h.1 h.2

def inB (n lo hi : Int) : Bool := decide (lo ≤ n) && decide (n ≤ hi)
theorem inB_iff {n lo hi : Int} : inB n lo hi = true ↔ lo ≤ n ∧ n ≤ hi := by simp [inB]

structure Span where
  lo : Int
  hi : Int
  deriving DecidableEq
def Span.cs (s : Span) : List TV := [.int .i64 s.lo, .int .i64 s.hi]
def Span.t (s : Span) : TV := .agg s.cs
def spannedB (s : Span) (lo hi : Int) : Bool := decide (lo ≤ s.lo) && decide (s.lo ≤ s.hi) && decide (s.hi ≤ hi)
def widerS (s : Span) (n : Int) (first : Bool) : Span := if first then ⟨n, n⟩ else ⟨min s.lo n, max s.hi n⟩
def chosen (lo hi n : Int) : Int := if lo ≥ hi then lo else if 9223372036854775807 < hi - lo + 1 then min (max n lo) hi else lo + n % (hi - lo + 1)
theorem chosen_mem {lo hi : Int} (n : Int) (h : lo ≤ hi) : lo ≤ chosen lo hi n ∧ chosen lo hi n ≤ hi := by
  unfold chosen
  split
  · omega
  · split
    · omega
    · have h1 := Int.emod_nonneg n (show hi - lo + 1 ≠ 0 by omega)
      have h2 := Int.emod_lt_of_pos n (show 0 < hi - lo + 1 by omega)
      omega
theorem chosen_low {lo hi : Int} (n : Int) (h : ¬ lo ≤ hi) : chosen lo hi n = lo := by
  unfold chosen; rw [if_pos (by omega)]

/-- A list of ints, as cells. -/
def ints (l : List Int) : List TV := l.map (TV.int .i64)
theorem ints_at {l : List Int} {k : Nat} {x : Int} (h : l[k]? = some x) : (ints l).drop (k * 1) = .int .i64 x :: ints (l.drop (k + 1)) := by
  unfold ints
  rw [Nat.mul_one, ← List.map_drop]
  have hk := (List.getElem?_eq_some_iff.1 h).1
  rw [List.drop_eq_getElem_cons hk, List.map_cons]
  congr 2
  exact (List.getElem?_eq_some_iff.1 h).2
theorem ints_inj : ∀ {a b : List Int}, ints a = ints b → a = b
  | [], [], _ => rfl
  | x :: a, y :: b, h => by
    simp only [ints, List.map_cons, List.cons.injEq, TV.int.injEq, true_and] at h
    rw [h.1, ints_inj (a := a) (b := b) h.2]
  | [], _ :: _, h => by simp [ints] at h
  | _ :: _, [], h => by simp [ints] at h
theorem ints_len (l : List Int) : (ints l).length = l.length := by simp [ints]
noncomputable def unints (cs : List TV) : Option (List Int) := open Classical in if h : ∃ l, cs = ints l then some h.choose else none
theorem unints_eq (l : List Int) : unints (ints l) = some l := by
  have h : ∃ l', ints l = ints l' := ⟨l, rfl⟩
  unfold unints
  rw [dif_pos h]
  congr 1
  exact (ints_inj h.choose_spec).symm

/-- Lists of structs. -/
theorem flat_at {α : Type} (c : α → List TV) {n : Nat} (hc : ∀ x, (c x).length = n) : ∀ {l : List α} {k : Nat} {x : α}, l[k]? = some x → (l.flatMap c).drop (k * n) = c x ++ (l.drop (k + 1)).flatMap c
  | [], k, x, h => by simp at h
  | y :: l, 0, x, h => by simp at h; subst h; simp
  | y :: l, k + 1, x, h => by
    simp at h
    have := flat_at c hc h
    simp only [List.flatMap_cons, List.drop_succ_cons, Nat.add_mul, Nat.one_mul]
    rw [Nat.add_comm, List.drop_append, hc y]
    simp [List.drop_eq_nil_of_le, hc y, this]
theorem flat_len {α : Type} (c : α → List TV) {n : Nat} (hc : ∀ x, (c x).length = n) (l : List α) : (l.flatMap c).length = l.length * n := by
  induction l with
  | nil => simp
  | cons x l ih => simp only [List.flatMap_cons, List.length_append, hc, ih, List.length_cons, Nat.add_mul]; omega
theorem flat_inj {α : Type} {c : α → List TV} {n : Nat} (hc : ∀ x, (c x).length = n) (hn : 0 < n) (hi : ∀ x y, c x = c y → x = y) : ∀ {a b : List α}, a.flatMap c = b.flatMap c → a = b
  | [], [], _ => rfl
  | x :: a, y :: b, h => by
    simp only [List.flatMap_cons] at h
    have h1 := List.append_inj h (by rw [hc, hc])
    rw [hi x y h1.1, flat_inj hc hn hi h1.2]
  | [], y :: b, h => by have := congrArg List.length h; simp [hc] at this; omega
  | x :: a, [], h => by have := congrArg List.length h; simp [hc] at this; omega
noncomputable def unflat {α : Type} (c : α → List TV) (cs : List TV) : Option (List α) := open Classical in if h : ∃ l, cs = l.flatMap c then some h.choose else none
theorem unflat_eq {α : Type} {c : α → List TV} {n : Nat} (hc : ∀ x, (c x).length = n) (hn : 0 < n) (hi : ∀ x y, c x = c y → x = y) (l : List α) : unflat c (l.flatMap c) = some l := by
  have h : ∃ l' : List α, l.flatMap c = l'.flatMap c := ⟨l, rfl⟩
  unfold unflat
  rw [dif_pos h]
  congr 1
  exact (flat_inj hc hn hi h.choose_spec).symm
theorem unflat_some {α : Type} {c : α → List TV} {cs : List TV} {l : List α} (h : unflat c cs = some l) : cs = l.flatMap c := by
  unfold unflat at h
  split at h
  · rename_i hc; cases h; exact hc.choose_spec
  · cases h
theorem unints_some {cs : List TV} {l : List Int} (h : unints cs = some l) : cs = ints l := by
  unfold unints at h
  split at h
  · rename_i hc; cases h; exact hc.choose_spec
  · cases h

/-- A row of structs. -/
def IsRow {α : Type} (c : α → List TV) (s : TV) (l : List α) : Prop := (s = .nilSl ∧ l = []) ∨ ∃ full, s = .sl (l.flatMap c) l.length full
noncomputable def rowL {α : Type} (un : List TV → Option (List α)) : TV → Option (List α)
  | .nilSl => un []
  | .sl cs n _ => match un cs with
    | some l => if n = l.length then some l else none
    | none => none
  | _ => none
attribute [go_sem] rowL
theorem rowL_some {α : Type} {c : α → List TV} {un : List TV → Option (List α)} (h0 : un [] = some []) (hu : ∀ {cs l}, un cs = some l → cs = l.flatMap c) {s : TV} {l : List α} (h : rowL un s = some l) : IsRow c s l := by
  unfold rowL at h
  split at h
  · rw [h0] at h; cases h; exact .inl ⟨rfl, rfl⟩
  · split at h
    · rename_i l' hl
      split at h
      · rename_i hn
        cases h
        have := hu hl
        subst this; subst hn
        exact .inr ⟨_, rfl⟩
      · cases h
    · cases h
  · cases h
theorem IsRow.ne {α : Type} {c : α → List TV} {s : TV} {l : List α} (h : IsRow c s l) (hl : 1 ≤ l.length) : ∃ full, s = .sl (l.flatMap c) l.length full := by
  rcases h with ⟨_, rfl⟩ | h
  · simp at hl
  · exact h

theorem get_lt {α : Type} {l : List α} {k : Nat} (h : (k : Int) < (l.length : Int)) : ∃ x, l[k]? = some x := ⟨l[k]'(by omega), List.getElem?_eq_getElem (by omega)⟩
theorem take_all {α : Type} (p : α → Bool) {l : List α} {k : Nat} {x : α} (h : l[k]? = some x) : (l.take (k + 1)).all p = ((l.take k).all p && p x) := by
  rw [List.take_add_one, h]; simp
theorem take_snoc {α : Type} {l : List α} {k : Nat} {x : α} (h : l[k]? = some x) : l.take (k + 1) = l.take k ++ [x] := by
  rw [List.take_add_one, h]; rfl
theorem all_of_take {α : Type} {p : α → Bool} {l : List α} {k : Nat} (h : (l.take k).all p = false) : l.all p = false := by
  rw [← List.take_append_drop k l, List.all_append, h]; rfl

/-- May the first list stand before the second one? -/
def before : List Int → List Int → Bool
  | [], [] => false
  | [], _ :: _ => true
  | _ :: _, [] => false
  | x :: a, y :: b => if x < y then true else if y < x then false else before a b
def risingB : Int → List Int → Int → Bool
  | _, [], _ => true
  | lo, x :: l, hi => decide (lo ≤ x) && decide (x < hi) && risingB (x + 1) l hi
/-- The numbers of a set, below another one. -/
def members (set below : Nat) : List Int := ((List.range below).filter set.testBit).map Int.ofNat
end Go.Oc

/- Part Hp. -/
namespace Go.Proofs.Ytadkjjnnnkfalaa.Sx
end Go.Proofs.Ytadkjjnnnkfalaa.Sx
namespace Go.Oh
open Go Go.Pm Go.Oc

/-- One number, as cells. -/
def ic (n : Int) : List TV := [.int .i64 n]
theorem ic_ints (l : List Int) : l.flatMap ic = ints l := by
  induction l with
  | nil => rfl
  | cons x l ih => rw [List.flatMap_cons, ih]; rfl
noncomputable def unI (cs : List TV) : Option (List Int) := unflat ic cs
theorem unI_ic (l : List Int) : unI (l.flatMap ic) = some l := unflat_eq (n := 1) (fun _ => rfl) (by decide) (fun x y h => by simpa [ic] using h) l
theorem unI_eq (l : List Int) : unI (ints l) = some l := by rw [← ic_ints]; exact unI_ic l
theorem unI_nil : unI [] = some [] := unI_ic []
theorem unI_some {cs : List TV} {l : List Int} (h : unI cs = some l) : cs = l.flatMap ic := unflat_some h
noncomputable def unS (cs : List TV) : Option (List Span) := unflat Span.cs cs
theorem unS_eq (l : List Span) : unS (l.flatMap Span.cs) = some l := unflat_eq (n := 2) (fun _ => rfl) (by decide) (fun x y h => by
  obtain ⟨a, b⟩ := x; obtain ⟨c, d⟩ := y
  simp only [Span.cs, List.cons.injEq, TV.int.injEq, true_and, and_true] at h
  rw [h.1, h.2]) l
theorem unS_nil : unS [] = some [] := unS_eq []
theorem unS_some {cs : List TV} {l : List Span} (h : unS cs = some l) : cs = l.flatMap Span.cs := unflat_some h
theorem rowS_is {s : TV} {l : List Span} (h : IsRow Span.cs s l) : rowL unS s = some l := by
  rcases h with ⟨rfl, rfl⟩ | ⟨f, rfl⟩
  · exact unS_nil
  · simp [rowL, unS_eq]
theorem rowI_is {s : TV} {l : List Int} (h : IsRow ic s l) : rowL unI s = some l := by
  rcases h with ⟨rfl, rfl⟩ | ⟨f, rfl⟩
  · exact unI_nil
  · simp [rowL, unI_ic]
attribute [go_sem] unS_eq unI_eq unI_ic unS_nil unI_nil
theorem ints_snoc (l : List Int) (x : Int) : ints (l ++ [x]) = ints l ++ [.int .i64 x] := by simp [ints]
/-- A row as it is handed back. -/
def rowI (l : List Int) : TV := if l.length = 0 then .nilSl else .sl (ints l) l.length false
theorem rowI_row (l : List Int) : IsRow ic (rowI l) l := by
  unfold rowI
  split
  · rename_i h; exact .inl ⟨rfl, List.length_eq_zero_iff.1 h⟩
  · exact .inr ⟨false, by rw [ic_ints]⟩
theorem rowI_ne {l : List Int} (h : l.length ≠ 0) : rowI l = .sl (ints l) l.length false := by unfold rowI; rw [if_neg h]
def rowSp (l : List Span) : TV := if l.length = 0 then .nilSl else .sl (l.flatMap Span.cs) l.length false
theorem rowSp_row (l : List Span) : IsRow Span.cs (rowSp l) l := by
  unfold rowSp
  split
  · rename_i h; exact .inl ⟨rfl, List.length_eq_zero_iff.1 h⟩
  · exact .inr ⟨false, rfl⟩
/-- The element of a list at a place. -/
def nth (l : List Int) (i : Int) : Int := l.getD i.toNat 0
theorem nth_eq {l : List Int} {k : Nat} {x : Int} (h : l[k]? = some x) : nth l (k : Int) = x := by
  unfold nth; rw [List.getD_eq_getElem?_getD, Int.toNat_natCast, h]; rfl
def pickI (l : List Int) (n : Int) : Int := if l.length = 0 then 0 else nth l (n % l.length)
theorem before_end : ∀ {a b : List Int}, a = [] ∨ b = [] → before a b = decide (a.length < b.length)
  | [], [], _ => rfl
  | [], _ :: _, _ => by simp [before]
  | _ :: _, [], _ => by simp [before]
  | _ :: _, _ :: _, h => by rcases h with h | h <;> cases h

/-- A row of places, as numbers. -/
def nI (S : List Nat) : List Int := S.map Int.ofNat
theorem before_irrefl : ∀ a : List Int, before a a = false
  | [] => rfl
  | x :: a => by simp [before, before_irrefl a]
theorem before_trans : ∀ {a b c : List Int}, before a b = true → before b c = true → before a c = true
  | [], [], _, h, _ => by cases h
  | [], _ :: _, [], _, h => by cases h
  | [], _ :: _, _ :: _, _, _ => rfl
  | _ :: _, [], _, h, _ => by cases h
  | _ :: _, _ :: _, [], _, h => by cases h
  | x :: a, y :: b, z :: c, h1, h2 => by
    simp only [before] at h1 h2 ⊢
    by_cases hxy : x < y
    · by_cases hyz : y < z
      · rw [if_pos (show x < z by omega)]
      · rw [if_neg hyz] at h2
        by_cases hzy : z < y
        · rw [if_pos hzy] at h2; cases h2
        · rw [if_pos (show x < z by omega)]
    · rw [if_neg hxy] at h1
      by_cases hyx : y < x
      · rw [if_pos hyx] at h1; cases h1
      · rw [if_neg hyx] at h1
        have : x = y := by omega
        subst this
        by_cases hyz : x < z
        · rw [if_pos hyz]
        · rw [if_neg hyz] at h2 ⊢
          by_cases hzy : z < x
          · rw [if_pos hzy] at h2; cases h2
          · rw [if_neg hzy] at h2 ⊢
            exact before_trans h1 h2
theorem before_total : ∀ {a b : List Int}, a.length = b.length → before a b = false → before b a = false → a = b
  | [], [], _, _, _ => rfl
  | [], _ :: _, h, _, _ => by simp at h
  | _ :: _, [], h, _, _ => by simp at h
  | x :: a, y :: b, h, h1, h2 => by
    simp only [before] at h1 h2
    have hxy : ¬ x < y := fun h' => by rw [if_pos h'] at h1; cases h1
    have hyx : ¬ y < x := fun h' => by rw [if_pos h'] at h2; cases h2
    rw [if_neg hxy, if_neg hyx] at h1
    rw [if_neg hyx, if_neg hxy] at h2
    have : x = y := by omega
    subst this
    rw [before_total (by simpa using h) h1 h2]
theorem before_append (c : List Int) {a b : List Int} : before (c ++ a) (c ++ b) = before a b := by
  induction c with
  | nil => rfl
  | cons x c ih => simp only [List.cons_append, before, if_neg (Int.lt_irrefl x)]; exact ih
/-- Is the first row better than the second one? -/
def bet (a b : List Int) : Prop := a.length < b.length ∨ a.length = b.length ∧ before a b = true
theorem bet_irrefl (a : List Int) : ¬ bet a a := by
  rintro (h | ⟨_, h⟩)
  · omega
  · rw [before_irrefl] at h; cases h
theorem bet_trans {a b c : List Int} (h1 : bet a b) (h2 : bet b c) : bet a c := by
  rcases h1 with h1 | ⟨h1, g1⟩ <;> rcases h2 with h2 | ⟨h2, g2⟩
  · exact .inl (by omega)
  · exact .inl (by omega)
  · exact .inl (by omega)
  · exact .inr ⟨by omega, before_trans g1 g2⟩
theorem bet_total {a b : List Int} (h1 : ¬ bet a b) (h2 : ¬ bet b a) : a = b := by
  unfold bet at h1 h2
  have hl : a.length = b.length := by omega
  refine before_total hl ?_ ?_
  · cases h : before a b with
    | false => rfl
    | true => exact absurd (.inr ⟨hl, h⟩) h1
  · cases h : before b a with
    | false => rfl
    | true => exact absurd (.inr ⟨hl.symm, h⟩) h2

/-- A row of places below n, increasing. -/
def rowN (n : Nat) (S : List Nat) : Prop := ∃ p : Nat → Bool, S = (List.range n).filter p
/-- The first of the least rows that are bad. -/
structure Least (bad : List Nat → Bool) (n : Nat) (S : List Nat) : Prop where
  row : rowN n S
  ne : S ≠ []
  isBad : bad S = true
  min : ∀ S', rowN n S' → S' ≠ [] → bad S' = true → ¬ bet (nI S') (nI S)
theorem nI_inj {a b : List Nat} (h : nI a = nI b) : a = b := by
  unfold nI at h
  exact List.map_inj_right (fun _ _ h => Int.ofNat.inj h) |>.1 h
theorem least_one {bad : List Nat → Bool} {n : Nat} {S S' : List Nat} (h : Least bad n S) (h' : Least bad n S') : S = S' :=
  nI_inj (bet_total (h'.min S h.row h.ne h.isBad) (h.min S' h'.row h'.ne h'.isBad))
theorem range_sorted (n : Nat) (p : Nat → Bool) : ((List.range n).filter p).Pairwise (· < ·) := List.pairwise_lt_range.filter p
theorem sorted_mem_ext {a b : List Nat} (ha : a.Pairwise (· < ·)) (hb : b.Pairwise (· < ·)) (h : ∀ x, x ∈ a ↔ x ∈ b) : a = b := by
  induction a generalizing b with
  | nil =>
    cases b with
    | nil => rfl
    | cons y b => have := (h y).2 (by simp); cases this
  | cons x a ih =>
    cases b with
    | nil => have := (h x).1 (by simp); cases this
    | cons y b =>
      rw [List.pairwise_cons] at ha hb
      have hx := (h x).1 (by simp)
      have hy := (h y).2 (by simp)
      have hxy : x = y := by
        rcases List.mem_cons.1 hx with hx | hx
        · exact hx
        · rcases List.mem_cons.1 hy with hy | hy
          · exact hy.symm
          · have := ha.1 y hy; have := hb.1 x hx; omega
      subst hxy
      rw [ih ha.2 hb.2 fun z => ?_]
      have hz := h z
      simp only [List.mem_cons] at hz
      constructor
      · intro hza
        have := ha.1 z hza
        rcases hz.1 (.inr hza) with rfl | h
        · omega
        · exact h
      · intro hzb
        have := hb.1 z hzb
        rcases hz.2 (.inr hzb) with rfl | h
        · omega
        · exact h
/-- A row is one that is increasing and below n. -/
theorem rowN_iff {n : Nat} {S : List Nat} : rowN n S ↔ S.Pairwise (· < ·) ∧ ∀ x ∈ S, x < n := by
  constructor
  · rintro ⟨p, rfl⟩
    exact ⟨range_sorted n p, fun x hx => List.mem_range.1 (List.mem_filter.1 hx).1⟩
  · rintro ⟨h1, h2⟩
    refine ⟨fun x => decide (x ∈ S), sorted_mem_ext h1 (range_sorted n _) fun x => ?_⟩
    simp only [List.mem_filter, List.mem_range, decide_eq_true_eq]
    exact ⟨fun h => ⟨h2 x h, h⟩, fun h => h.2⟩
/-- More places, from fr on. -/
structure More (n fr m : Nat) (J : List Nat) : Prop where
  len : J.length = m
  inc : J.Pairwise (· < ·)
  lo : ∀ x ∈ J, fr ≤ x
  hi : ∀ x ∈ J, x < n
/-- The search: found, and what was looked at last. -/
def cho (n : Nat) (bad : List Nat → Bool) : Nat → List Nat → Nat → List Nat → Bool × List Nat
  | 0, S, _, _ => (bad S, S)
  | m + 1, S, fr, o => (List.range' fr (n - fr)).foldl (fun acc i => if acc.1 then acc else cho n bad m (S ++ [i]) (i + 1) acc.2) (false, o)
def choTo (n : Nat) (bad : List Nat → Bool) (m : Nat) (S : List Nat) (fr : Nat) (o : List Nat) (j : Nat) : Bool × List Nat := (List.range' fr j).foldl (fun acc i => if acc.1 then acc else cho n bad m (S ++ [i]) (i + 1) acc.2) (false, o)
theorem cho_succ (n : Nat) (bad : List Nat → Bool) (m : Nat) (S : List Nat) (fr : Nat) (o : List Nat) : cho n bad (m + 1) S fr o = choTo n bad m S fr o (n - fr) := rfl
theorem choTo_succ {n : Nat} {bad : List Nat → Bool} {m : Nat} {S : List Nat} {fr : Nat} {o : List Nat} {j : Nat} (h : (choTo n bad m S fr o j).1 = false) :
    choTo n bad m S fr o (j + 1) = cho n bad m (S ++ [fr + j]) (fr + j + 1) (choTo n bad m S fr o j).2 := by
  unfold choTo at h ⊢
  rw [List.range'_1_concat, List.foldl_append]
  simp only [List.foldl_cons, List.foldl_nil]
  rw [if_neg (by rw [h]; simp)]
theorem choTo_stop {n : Nat} {bad : List Nat → Bool} {m : Nat} {S : List Nat} {fr : Nat} {o : List Nat} {j : Nat} (h : (choTo n bad m S fr o j).1 = true) : ∀ d, choTo n bad m S fr o (j + d) = choTo n bad m S fr o j
  | 0 => rfl
  | d + 1 => by
    have ih := choTo_stop h d
    rw [← Nat.add_assoc]
    unfold choTo at h ih ⊢
    rw [List.range'_1_concat, List.foldl_append, ih]
    simp only [List.foldl_cons, List.foldl_nil]
    rw [if_pos h]
/-- What the search has come to behind so many sizes. -/
def falT (n : Nat) (bad : List Nat → Bool) : Nat → Bool × List Nat
  | 0 => (false, [])
  | k + 1 => if (falT n bad k).1 then falT n bad k else cho n bad (k + 1) [] 0 (falT n bad k).2
theorem falT_stop {n : Nat} {bad : List Nat → Bool} {k : Nat} (h : (falT n bad k).1 = true) : ∀ d, falT n bad (k + d) = falT n bad k
  | 0 => rfl
  | d + 1 => by
    have ih := falT_stop h d
    rw [← Nat.add_assoc, falT, ih, if_pos h]
theorem falT_next {n : Nat} {bad : List Nat → Bool} {k : Nat} (h : (falT n bad k).1 = false) : falT n bad (k + 1) = cho n bad (k + 1) [] 0 (falT n bad k).2 := by
  rw [falT, if_neg (by rw [h]; simp)]
structure Found (bad : List Nat → Bool) (n fr m : Nat) (St out J : List Nat) : Prop where
  more : More n fr m J
  isBad : bad (St ++ J) = true
  out : out = St ++ J
  first : ∀ J', More n fr m J' → bad (St ++ J') = true → before (nI J') (nI J) = false
theorem cho_found {n : Nat} {bad : List Nat → Bool} : ∀ (m : Nat) (S : List Nat) (fr : Nat) (o : List Nat),
    ((cho n bad m S fr o).1 = true → ∃ J, Found bad n fr m S (cho n bad m S fr o).2 J) ∧
    ((cho n bad m S fr o).1 = false → ∀ J, More n fr m J → bad (S ++ J) = false)
  | 0, S, fr, o => by
    have nilJ : ∀ J, More n fr 0 J → J = [] := fun J hJ => List.length_eq_zero_iff.1 hJ.len
    constructor
    · intro h
      simp only [cho] at h ⊢
      refine ⟨[], ⟨⟨rfl, List.Pairwise.nil, by simp, by simp⟩, by rw [List.append_nil]; exact h, by rw [List.append_nil], ?_⟩⟩
      intro J' hJ' _; rw [nilJ J' hJ']; rfl
    · intro h J hJ
      simp only [cho] at h
      rw [nilJ J hJ, List.append_nil]; exact h
  | m + 1, S, fr, o => by
    rw [cho_succ]
    have key : ∀ j, fr + j ≤ n ∨ j = 0 →
        ((choTo n bad m S fr o j).1 = true → ∃ J, Found bad n fr (m + 1) S (choTo n bad m S fr o j).2 J) ∧
        ((choTo n bad m S fr o j).1 = false → ∀ J, More n fr (m + 1) J → (∃ x J', J = x :: J' ∧ x < fr + j) → bad (S ++ J) = false) := by
      intro j
      induction j with
      | zero =>
        intro _
        refine ⟨fun h => (by cases h), fun _ J hJ ⟨x, J', e, hx⟩ => ?_⟩
        have := hJ.lo x (by rw [e]; simp)
        omega
      | succ j ih =>
        intro hj
        have hj' : fr + j < n := by omega
        obtain ⟨ih1, ih2⟩ := ih (by omega)
        cases hf : (choTo n bad m S fr o j).1 with
        | true =>
          have e : choTo n bad m S fr o (j + 1) = choTo n bad m S fr o j := choTo_stop hf 1
          rw [e]
          exact ⟨ih1, fun h => by rw [hf] at h; cases h⟩
        | false =>
          rw [choTo_succ hf]
          have hrec := cho_found (bad := bad) (n := n) m (S ++ [fr + j]) (fr + j + 1) (choTo n bad m S fr o j).2
          constructor
          · intro h
            obtain ⟨J, hJ⟩ := hrec.1 h
            refine ⟨(fr + j) :: J, ⟨⟨by simp [hJ.more.len], ?_, ?_, ?_⟩, ?_, ?_, ?_⟩⟩
            · exact List.pairwise_cons.2 ⟨fun x hx => by have := hJ.more.lo x hx; omega, hJ.more.inc⟩
            · intro x hx
              rcases List.mem_cons.1 hx with rfl | hx
              · omega
              · have := hJ.more.lo x hx; omega
            · intro x hx
              rcases List.mem_cons.1 hx with rfl | hx
              · omega
              · exact hJ.more.hi x hx
            · have := hJ.isBad; rwa [List.append_assoc] at this
            · rw [hJ.out, List.append_assoc]; rfl
            · intro J' hJ' hb
              match J', hJ' with
              | [], hJ' => have := hJ'.len; simp at this
              | x :: J', hJ' =>
                have hx := hJ'.lo x (by simp)
                have hlt : ¬ x < fr + j := fun hlt => by rw [ih2 hf _ hJ' ⟨x, J', rfl, hlt⟩] at hb; cases hb
                show before ((x : Int) :: nI J') (((fr + j : Nat) : Int) :: nI J) = false
                simp only [before]
                rw [if_neg (by omega)]
                by_cases hgt : x = fr + j
                · subst hgt
                  rw [if_neg (by omega)]
                  have hp := List.pairwise_cons.1 hJ'.inc
                  refine hJ.first J' ⟨by have := hJ'.len; simpa using this, hp.2, fun y hy => by have := hp.1 y hy; omega, fun y hy => hJ'.hi y (List.mem_cons_of_mem _ hy)⟩ ?_
                  rw [List.append_assoc]; exact hb
                · rw [if_pos (by omega)]
          · intro h J hJ ⟨x, J', e, hx⟩
            subst e
            by_cases hxj : x = fr + j
            · subst hxj
              have hp := List.pairwise_cons.1 hJ.inc
              have := hrec.2 h J' ⟨by have := hJ.len; simpa using this, hp.2, fun y hy => by have := hp.1 y hy; omega, fun y hy => hJ.hi y (List.mem_cons_of_mem _ hy)⟩
              rw [List.append_assoc] at this; exact this
            · exact ih2 hf _ hJ ⟨x, J', rfl, by omega⟩
    have k := key (n - fr) (by omega)
    refine ⟨k.1, fun h J hJ => ?_⟩
    match J, hJ with
    | [], hJ => have := hJ.len; simp at this
    | x :: J', hJ =>
      have h1 := hJ.hi x (by simp)
      have h2 := hJ.lo x (by simp)
      exact k.2 h _ hJ ⟨x, J', rfl, by omega⟩
/-- What the search comes to, behind so many sizes. -/
theorem falT_law {n : Nat} {bad : List Nat → Bool} : ∀ k, k ≤ n →
    ((falT n bad k).1 = true → ∃ S, Least bad n S ∧ (falT n bad k).2 = S) ∧
    ((falT n bad k).1 = false → ∀ S, rowN n S → S ≠ [] → S.length ≤ k → bad S = false)
  | 0, _ => ⟨fun h => (by cases h), fun _ S hS hne hl => absurd (List.length_eq_zero_iff.1 (show S.length = 0 by omega)) hne⟩
  | k + 1, hk => by
    obtain ⟨ih1, ih2⟩ := falT_law (n := n) (bad := bad) k (by omega)
    cases hf : (falT n bad k).1 with
    | true =>
      have e : falT n bad (k + 1) = falT n bad k := falT_stop hf 1
      rw [e]
      exact ⟨ih1, fun h => by rw [hf] at h; cases h⟩
    | false =>
      rw [falT_next hf]
      have c := cho_found (bad := bad) (n := n) (k + 1) [] 0 (falT n bad k).2
      have toMore : ∀ S, rowN n S → S.length = k + 1 → More n 0 (k + 1) S := fun S hS hl => ⟨hl, (rowN_iff.1 hS).1, fun x _ => Nat.zero_le x, (rowN_iff.1 hS).2⟩
      constructor
      · intro h
        obtain ⟨J, hJ⟩ := c.1 h
        have hb : bad J = true := hJ.isBad
        refine ⟨J, ⟨rowN_iff.2 ⟨hJ.more.inc, hJ.more.hi⟩, ?_, hb, fun S' hS' hne' hb' hbet => ?_⟩, hJ.out⟩
        · intro h0
          have := hJ.more.len
          rw [h0] at this; simp at this
        · have l1 : (nI S').length = S'.length := List.length_map _
          have l2 : (nI J).length = k + 1 := by rw [nI, List.length_map, hJ.more.len]
          rcases hbet with hlt | ⟨heq, hbf⟩
          · rw [ih2 hf S' hS' hne' (by omega)] at hb'; cases hb'
          · have := hJ.first S' (toMore S' hS' (by omega)) hb'
            rw [this] at hbf; cases hbf
      · intro h S hS hne hl
        by_cases hlk : S.length ≤ k
        · exact ih2 hf S hS hne hlk
        · exact c.2 h S (toMore S hS (by omega))
theorem rowN_len {n : Nat} {S : List Nat} (h : rowN n S) : S.length ≤ n := by
  obtain ⟨p, rfl⟩ := h
  have := List.length_filter_le p (List.range n)
  simpa using this
theorem row_all (n : Nat) : rowN n (List.range n) := ⟨fun _ => true, (List.filter_eq_self.2 (fun _ _ => rfl)).symm⟩
/-- The specification's search: what it has come to behind so many sets. -/
def refStep (bad : List Nat → Bool) (n : Nat) (best : List Nat) (set : Nat) : List Nat :=
  let S := (List.range n).filter set.testBit
  if bad S then (if best.length = 0 ∨ S.length < best.length ∨ S.length = best.length ∧ before (nI S) (nI best) = true then S else best) else best
def refTo (bad : List Nat → Bool) (n k : Nat) : List Nat := (List.range' 1 k).foldl (refStep bad n) []
theorem refTo_succ (bad : List Nat → Bool) (n k : Nat) : refTo bad n (k + 1) = refStep bad n (refTo bad n k) (k + 1) := by
  unfold refTo
  rw [List.range'_1_concat, List.foldl_append, Nat.add_comm 1 k]; rfl
def setN (n s : Nat) : List Nat := (List.range n).filter s.testBit
theorem setN_ne {n s : Nat} (h1 : 1 ≤ s) (h2 : s < 2 ^ n) : setN n s ≠ [] := by
  intro h
  unfold setN at h
  rw [List.filter_eq_nil_iff] at h
  have : s = 0 := by
    apply Nat.eq_of_testBit_eq
    intro i
    rw [Nat.zero_testBit]
    by_cases hi : i < n
    · have := h i (List.mem_range.2 hi)
      simpa using this
    · exact Nat.testBit_lt_two_pow (Nat.lt_of_lt_of_le h2 (Nat.pow_le_pow_right (by omega) (by omega)))
  omega
theorem set_of (p : Nat → Bool) : ∀ n : Nat, ∃ s, s < 2 ^ n ∧ ∀ i, i < n → s.testBit i = p i
  | 0 => ⟨0, by simp, fun i h => by omega⟩
  | n + 1 => by
    obtain ⟨s, h1, h2⟩ := set_of p n
    have hlt : s < 2 ^ (n + 1) := Nat.lt_of_lt_of_le h1 (Nat.pow_le_pow_right (by omega) (by omega))
    cases hp : p n with
    | false =>
      refine ⟨s, hlt, fun i hi => ?_⟩
      by_cases hin : i = n
      · subst hin; rw [hp]; exact Nat.testBit_lt_two_pow h1
      · exact h2 i (by omega)
    | true =>
      refine ⟨s ||| 2 ^ n, Nat.or_lt_two_pow hlt (Nat.pow_lt_pow_right (by omega) (by omega)), fun i hi => ?_⟩
      rw [Nat.testBit_or, Nat.testBit_two_pow]
      by_cases hin : i = n
      · subst hin; simp [hp]
      · rw [h2 i (by omega)]
        have : decide (n = i) = false := by simp; omega
        rw [this, Bool.or_false]
theorem setN_of {n : Nat} {S : List Nat} (h : rowN n S) (hne : S ≠ []) : ∃ s, 1 ≤ s ∧ s < 2 ^ n ∧ setN n s = S := by
  obtain ⟨p, rfl⟩ := h
  obtain ⟨s, h1, h2⟩ := set_of p n
  have e : setN n s = (List.range n).filter p := List.filter_congr fun i hi => h2 i (List.mem_range.1 hi)
  refine ⟨s, ?_, h1, e⟩
  rcases Nat.eq_zero_or_pos s with h0 | h0
  · exfalso; apply hne
    rw [← e, h0]
    unfold setN
    rw [List.filter_eq_nil_iff]
    intro i _; simp
  · exact h0
theorem setN_t {k s : Nat} (h : s.testBit k = true) : setN (k + 1) s = setN k s ++ [k] := by simp [setN, List.range_succ, List.filter_append, h]
theorem setN_f {k s : Nat} (h : s.testBit k = false) : setN (k + 1) s = setN k s := by simp [setN, List.range_succ, List.filter_append, h]
theorem setN_len (k s : Nat) : (setN k s).length ≤ k := by
  have := List.length_filter_le s.testBit (List.range k)
  simpa [setN] using this
theorem nI_snoc (S : List Nat) (k : Nat) : nI (S ++ [k]) = nI S ++ [(k : Int)] := by simp [nI]
theorem nI_len (S : List Nat) : (nI S).length = S.length := List.length_map _

theorem refTo_law (bad : List Nat → Bool) (n : Nat) : ∀ k, k < 2 ^ n →
    (refTo bad n k = [] ∧ ∀ s, 1 ≤ s → s ≤ k → setN n s ≠ [] → bad (setN n s) = false) ∨
    (refTo bad n k ≠ [] ∧ rowN n (refTo bad n k) ∧ bad (refTo bad n k) = true ∧ ∀ s, 1 ≤ s → s ≤ k → setN n s ≠ [] → bad (setN n s) = true → ¬ bet (nI (setN n s)) (nI (refTo bad n k)))
  | 0, _ => .inl ⟨rfl, fun s h1 h2 => by omega⟩
  | k + 1, hk => by
    have ih := refTo_law bad n k (by omega)
    rw [refTo_succ]
    unfold refStep
    simp only
    rw [show (List.range n).filter (k + 1).testBit = setN n (k + 1) from rfl]
    have nl : ∀ S : List Nat, (nI S).length = S.length := fun S => List.length_map _
    cases hb : bad (setN n (k + 1)) with
    | false =>
      rw [if_neg (by simp)]
      rcases ih with ⟨e, h⟩ | ⟨e, h1, h2, h⟩
      · refine .inl ⟨e, fun s a b hne => ?_⟩
        by_cases hs : s = k + 1
        · subst hs; exact hb
        · exact h s a (by omega) hne
      · refine .inr ⟨e, h1, h2, fun s a b hne hb' => ?_⟩
        by_cases hs : s = k + 1
        · subst hs; rw [hb] at hb'; cases hb'
        · exact h s a (by omega) hne hb'
    | true =>
      rw [if_pos rfl]
      have hrow : rowN n (setN n (k + 1)) := ⟨_, rfl⟩
      by_cases hc : (refTo bad n k).length = 0 ∨ (setN n (k + 1)).length < (refTo bad n k).length ∨ (setN n (k + 1)).length = (refTo bad n k).length ∧ before (nI (setN n (k + 1))) (nI (refTo bad n k)) = true
      · rw [if_pos hc]
        have hne : setN n (k + 1) ≠ [] := setN_ne (by omega) hk
        refine .inr ⟨hne, hrow, hb, fun s a b hne' hb' hbet => ?_⟩
        by_cases hs : s = k + 1
        · subst hs; exact bet_irrefl _ hbet
        · rcases ih with ⟨e, h⟩ | ⟨e, h1, h2, h⟩
          · rw [h s a (by omega) hne'] at hb'; cases hb'
          · refine h s a (by omega) hne' hb' (bet_trans hbet ?_)
            rcases hc with h0 | h0 | h0
            · exact absurd (List.length_eq_zero_iff.1 h0) e
            · exact .inl (by rw [nl, nl]; exact h0)
            · exact .inr ⟨by rw [nl, nl]; exact h0.1, h0.2⟩
      · rw [if_neg hc]
        rcases ih with ⟨e, h⟩ | ⟨e, h1, h2, h⟩
        · exact absurd (.inl (by rw [e]; rfl)) hc
        · refine .inr ⟨e, h1, h2, fun s a b hne hb' hbet => ?_⟩
          by_cases hs : s = k + 1
          · subst hs
            rcases hbet with h0 | h0
            · rw [nl, nl] at h0; exact hc (.inr (.inl h0))
            · rw [nl, nl] at h0; exact hc (.inr (.inr h0))
          · exact h s a (by omega) hne hb' hbet
/-- BOTH SEARCHES COME TO THE SAME. -/
theorem searches (bad : List Nat → Bool) (n : Nat) :
    ((falT n bad n).1 = false ∧ refTo bad n (2 ^ n - 1) = [] ∧ ∀ S, rowN n S → S ≠ [] → bad S = false) ∨
    ((falT n bad n).1 = true ∧ ∃ S, Least bad n S ∧ (falT n bad n).2 = S ∧ refTo bad n (2 ^ n - 1) = S) := by
  have hpos : 0 < 2 ^ n := Nat.pow_pos (by omega)
  have r := refTo_law bad n (2 ^ n - 1) (by omega)
  have c := falT_law (bad := bad) n (Nat.le_refl n)
  cases hf : (falT n bad n).1 with
  | false =>
    have hall : ∀ S, rowN n S → S ≠ [] → bad S = false := fun S hS hne => c.2 hf S hS hne (rowN_len hS)
    refine .inl ⟨rfl, ?_, hall⟩
    rcases r with ⟨e, _⟩ | ⟨e, h1, h2, _⟩
    · exact e
    · rw [hall _ h1 e] at h2; cases h2
  | true =>
    obtain ⟨S, hS, e1⟩ := c.1 hf
    refine .inr ⟨rfl, S, hS, e1, ?_⟩
    rcases r with ⟨e, h⟩ | ⟨e, h1, h2, h⟩
    · obtain ⟨s, a, b, c⟩ := setN_of hS.row hS.ne
      have := h s a (by omega) (by rw [c]; exact hS.ne)
      rw [c, hS.isBad] at this; cases this
    · exact least_one ⟨h1, e, h2, fun S' r1 r2 r3 => by
        obtain ⟨s, a, b, c⟩ := setN_of r1 r2
        rw [← c]
        exact h s a (by omega) (by rw [c]; exact r2) (by rw [c]; exact r3)⟩ hS
/-- A smaller row than the least one is not bad. -/
theorem least_less {bad : List Nat → Bool} {n : Nat} {S : List Nat} (h : Least bad n S) {k : Nat} (hk : k < S.length) (h1 : 1 < S.length) : rowN n (S.eraseIdx k) ∧ S.eraseIdx k ≠ [] ∧ bad (S.eraseIdx k) = false := by
  have hr := rowN_iff.1 h.row
  have hl := List.length_eraseIdx_of_lt hk
  have hrow : rowN n (S.eraseIdx k) := rowN_iff.2 ⟨hr.1.sublist (List.eraseIdx_sublist S k), fun x hx => hr.2 x ((List.eraseIdx_sublist S k).mem hx)⟩
  have hne : S.eraseIdx k ≠ [] := fun e => by rw [e] at hl; simp at hl; omega
  refine ⟨hrow, hne, ?_⟩
  cases hb : bad (S.eraseIdx k) with
  | false => rfl
  | true =>
    refine absurd (.inl ?_) (h.min _ hrow hne hb)
    unfold nI
    rw [List.length_map, List.length_map, hl]; omega
/-- The elements at places. -/
def selA {α : Type} (l : List α) (S : List Nat) : List α := S.filterMap (l[·]?)
theorem selA_len {α : Type} {l : List α} : ∀ {S : List Nat}, (∀ x ∈ S, x < l.length) → (selA l S).length = S.length
  | [], _ => rfl
  | x :: S, h => by
    have hx := h x (by simp)
    unfold selA
    rw [List.filterMap_cons, List.getElem?_eq_getElem hx]
    simp only [List.length_cons]
    exact congrArg (· + 1) (selA_len (l := l) (S := S) fun y hy => h y (List.mem_cons_of_mem _ hy))
theorem selA_snoc {α : Type} {l : List α} {S : List Nat} {k : Nat} {x : α} (hx : l[k]? = some x) : selA l (S ++ [k]) = selA l S ++ [x] := by
  unfold selA; rw [List.filterMap_append]; simp [hx]
theorem selA_sub {α : Type} {l : List α} {S : List Nat} {x : α} (h : x ∈ selA l S) : x ∈ l := by
  obtain ⟨i, _, hi⟩ := List.mem_filterMap.1 h
  exact List.mem_of_getElem? hi
theorem selA_range {α : Type} (l : List α) : selA l (List.range l.length) = l := by
  have : ∀ k, k ≤ l.length → (List.range k).filterMap (l[·]?) = l.take k := by
    intro k
    induction k with
    | zero => intro _; simp
    | succ k ih =>
      intro hk
      rw [List.range_succ, List.filterMap_append, ih (by omega)]
      simp only [List.filterMap_cons, List.filterMap_nil]
      rw [List.getElem?_eq_getElem (by omega), List.take_add_one, List.getElem?_eq_getElem (by omega)]
      rfl
  unfold selA
  rw [this l.length (Nat.le_refl _), List.take_length]
/-- Numbers as places. -/
def toN (a : List Int) : List Nat := a.map Int.toNat
theorem toN_nI (S : List Nat) : toN (nI S) = S := by
  unfold toN nI
  rw [List.map_map]
  exact List.map_id S
noncomputable def rowB (n : Nat) (S : List Nat) : Bool := @decide (rowN n S) (Classical.propDecidable _)
theorem rowB_t {n : Nat} {S : List Nat} (h : rowN n S) : rowB n S = true := by unfold rowB; exact @decide_eq_true _ (Classical.propDecidable _) h
theorem rowB_of {n : Nat} {S : List Nat} (h : rowB n S = true) : rowN n S := by unfold rowB at h; exact @of_decide_eq_true _ (Classical.propDecidable _) h
theorem nI_erase {S : List Nat} {k : Nat} : ints (nI (S.eraseIdx k)) = (ints (nI S)).take k ++ (ints (nI S)).drop (k + 1) := by
  unfold ints nI
  rw [List.eraseIdx_eq_take_drop_succ]
  simp only [List.map_append, List.map_take, List.map_drop]
end Go.Oh
