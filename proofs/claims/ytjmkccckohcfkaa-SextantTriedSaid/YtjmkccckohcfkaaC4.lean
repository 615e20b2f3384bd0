/- What the claim leans on, text 4. -/
import Derived.Test.YtjmkccckohcfkaaRows
import Derived.Test.YtjmkccckohcfkaaC3
set_option linter.unusedSimpArgs false
set_option linter.unusedVariables false

/- Part Ty. -/
namespace Go.Proofs.Ytjmkccckohcfkaa
open Go.Pm
@[go_sem] theorem Try.agg3 : aggO Try.prog 3 = some false := by kernel_rfl
@[go_sem] theorem Try.pln3 : plainO Try.prog 3 = some true := by kernel_rfl
@[go_sem] theorem Try.sz3 : szO Try.prog 3 = some 1 := by kernel_rfl
@[go_sem] theorem Try.zero3 : zeroL Try.prog 3 = some [.int .i64 0] := by kernel_rfl
@[go_sem] theorem Try.small3 : smallO Try.prog 3 = some (1, 8) := by kernel_rfl
@[go_sem] theorem Try.zt3 : zeroT Try.prog 3 = some (.int .i64 0) := by kernel_rfl
@[go_sem] theorem Try.knd3 : kindO Try.prog 3 = some .i64 := by kernel_rfl
@[go_sem] theorem Try.und3 : Program.underlying Try.prog 3 = some (.int .i64) := by kernel_rfl
@[go_sem] theorem Try.agg4 : aggO Try.prog 4 = some false := by kernel_rfl
@[go_sem] theorem Try.pln4 : plainO Try.prog 4 = some true := by kernel_rfl
@[go_sem] theorem Try.sz4 : szO Try.prog 4 = some 1 := by kernel_rfl
@[go_sem] theorem Try.zero4 : zeroL Try.prog 4 = some [.bool false] := by kernel_rfl
@[go_sem] theorem Try.small4 : smallO Try.prog 4 = some (1, 1) := by kernel_rfl
@[go_sem] theorem Try.zt4 : zeroT Try.prog 4 = some (.bool false) := by kernel_rfl
@[go_sem] theorem Try.eq4 (a b : Bool) : eqT Try.prog 20 4 (.bool a) (.bool b) = some (a == b) := by kernel_rfl
@[go_sem] theorem Try.und4 : Program.underlying Try.prog 4 = some .bool := by kernel_rfl
@[go_sem] theorem Try.agg22 : aggO Try.prog 22 = some false := by kernel_rfl
@[go_sem] theorem Try.pln22 : plainO Try.prog 22 = some true := by kernel_rfl
@[go_sem] theorem Try.sz22 : szO Try.prog 22 = some 1 := by kernel_rfl
@[go_sem] theorem Try.zero22 : zeroL Try.prog 22 = some [.nilSl] := by kernel_rfl
@[go_sem] theorem Try.small22 : smallO Try.prog 22 = some (1, 24) := by kernel_rfl
@[go_sem] theorem Try.zt22 : zeroT Try.prog 22 = some (.nilSl) := by kernel_rfl
@[go_sem] theorem Try.eqn22 : eqT Try.prog 20 22 .nilSl .nilSl = some true := by kernel_rfl
@[go_sem] theorem Try.eqs22 (cs : List TV) (n : Nat) (f : Bool) : eqT Try.prog 20 22 (.sl cs n f) .nilSl = some false := by kernel_rfl
@[go_sem] theorem Try.eqt22 (cs : List TV) (n : Nat) (f : Bool) : eqT Try.prog 20 22 .nilSl (.sl cs n f) = some false := by kernel_rfl
@[go_sem] theorem Try.sl22 : sliceO Try.prog 22 = some 24 := by kernel_rfl
@[go_sem] theorem Try.und22 : Program.underlying Try.prog 22 = some (.slice 24) := by kernel_rfl
@[go_sem] theorem Try.agg24 : aggO Try.prog 24 = some true := by kernel_rfl
@[go_sem] theorem Try.pln24 : plainO Try.prog 24 = some true := by kernel_rfl
@[go_sem] theorem Try.sz24 : szO Try.prog 24 = some 2 := by kernel_rfl
@[go_sem] theorem Try.zero24 : zeroL Try.prog 24 = some [.int .i64 0, .int .i64 0] := by kernel_rfl
@[go_sem] theorem Try.small24 : smallO Try.prog 24 = some (2, 16) := by kernel_rfl
@[go_sem] theorem Try.zt24 : zeroT Try.prog 24 = some (.agg [.int .i64 0, .int .i64 0]) := by kernel_rfl
@[go_sem] theorem Try.fld24_0 : fieldO Try.prog 24 0 = some (0, 3) := by kernel_rfl
@[go_sem] theorem Try.fld24_1 : fieldO Try.prog 24 1 = some (1, 3) := by kernel_rfl
@[go_sem] theorem Try.bld24 (parts : List (Nat × TV)) : buildO Try.prog 24 parts = (fillT (fun i => ([(0, 1), (1, 1)] : List (Nat × Nat))[i]?) [.int .i64 0, .int .i64 0] parts).map .agg := by kernel_rfl
@[go_sem] theorem Try.eq24 (a0 b0 : Int) (a1 b1 : Int) : eqT Try.prog 20 24 (.agg [.int .i64 a0, .int .i64 a1]) (.agg [.int .i64 b0, .int .i64 b1]) = some ((a0 == b0) && ((a1 == b1) && true)) := by kernel_rfl
@[go_sem] theorem Try.eqg24 : Program.eqGuardType Try.prog (Program.depth Try.prog) 24 = false := by kernel_rfl
@[go_sem] theorem Try.agg26 : aggO Try.prog 26 = some true := by kernel_rfl
@[go_sem] theorem Try.pln26 : plainO Try.prog 26 = some true := by kernel_rfl
@[go_sem] theorem Try.sz26 : szO Try.prog 26 = some 6 := by kernel_rfl
@[go_sem] theorem Try.zero26 : zeroL Try.prog 26 = some [.int .i64 0, .nilSl, .int .i64 0, .int .i64 0, .int .i64 0, .nilSl] := by kernel_rfl
@[go_sem] theorem Try.small26 : smallO Try.prog 26 = some (6, 80) := by kernel_rfl
@[go_sem] theorem Try.zt26 : zeroT Try.prog 26 = some (.agg [.int .i64 0, .nilSl, .int .i64 0, .int .i64 0, .int .i64 0, .nilSl]) := by kernel_rfl
@[go_sem] theorem Try.fld26_0 : fieldO Try.prog 26 0 = some (0, 3) := by kernel_rfl
@[go_sem] theorem Try.fld26_1 : fieldO Try.prog 26 1 = some (1, 22) := by kernel_rfl
@[go_sem] theorem Try.fld26_2 : fieldO Try.prog 26 2 = some (2, 24) := by kernel_rfl
@[go_sem] theorem Try.fld26_3 : fieldO Try.prog 26 3 = some (4, 3) := by kernel_rfl
@[go_sem] theorem Try.fld26_4 : fieldO Try.prog 26 4 = some (5, 22) := by kernel_rfl
@[go_sem] theorem Try.bld26 (parts : List (Nat × TV)) : buildO Try.prog 26 parts = (fillT (fun i => ([(0, 1), (1, 1), (2, 2), (4, 1), (5, 1)] : List (Nat × Nat))[i]?) [.int .i64 0, .nilSl, .int .i64 0, .int .i64 0, .int .i64 0, .nilSl] parts).map .agg := by kernel_rfl
@[go_sem] theorem Try.bldp26 (parts : List (Nat × PV)) : buildP Try.prog 26 parts = fillP (fun i => ([(0, 1), (1, 1), (2, 2), (4, 1), (5, 1)] : List (Nat × Nat))[i]?) [.t (.int .i64 0), .t (.nilSl), .t (.int .i64 0), .t (.int .i64 0), .t (.int .i64 0), .t (.nilSl)] parts := by kernel_rfl
@[go_sem] theorem Try.eqg26 : Program.eqGuardType Try.prog (Program.depth Try.prog) 26 = false := by kernel_rfl
@[go_sem] theorem Try.agg28 : aggO Try.prog 28 = some true := by kernel_rfl
@[go_sem] theorem Try.pln28 : plainO Try.prog 28 = some true := by kernel_rfl
@[go_sem] theorem Try.sz28 : szO Try.prog 28 = some 2 := by kernel_rfl
@[go_sem] theorem Try.zero28 : zeroL Try.prog 28 = some [.int .i64 0, .int .i64 0] := by kernel_rfl
@[go_sem] theorem Try.small28 : smallO Try.prog 28 = some (2, 16) := by kernel_rfl
@[go_sem] theorem Try.zt28 : zeroT Try.prog 28 = some (.agg [.int .i64 0, .int .i64 0]) := by kernel_rfl
@[go_sem] theorem Try.fld28_0 : fieldO Try.prog 28 0 = some (0, 3) := by kernel_rfl
@[go_sem] theorem Try.fld28_1 : fieldO Try.prog 28 1 = some (1, 3) := by kernel_rfl
@[go_sem] theorem Try.bld28 (parts : List (Nat × TV)) : buildO Try.prog 28 parts = (fillT (fun i => ([(0, 1), (1, 1)] : List (Nat × Nat))[i]?) [.int .i64 0, .int .i64 0] parts).map .agg := by kernel_rfl
@[go_sem] theorem Try.eq28 (a0 b0 : Int) (a1 b1 : Int) : eqT Try.prog 20 28 (.agg [.int .i64 a0, .int .i64 a1]) (.agg [.int .i64 b0, .int .i64 b1]) = some ((a0 == b0) && ((a1 == b1) && true)) := by kernel_rfl
@[go_sem] theorem Try.eqg28 : Program.eqGuardType Try.prog (Program.depth Try.prog) 28 = false := by kernel_rfl
@[go_sem] theorem Try.agg29 : aggO Try.prog 29 = some false := by kernel_rfl
@[go_sem] theorem Try.pln29 : plainO Try.prog 29 = some true := by kernel_rfl
@[go_sem] theorem Try.sz29 : szO Try.prog 29 = some 1 := by kernel_rfl
@[go_sem] theorem Try.zero29 : zeroL Try.prog 29 = some [.int .i64 0] := by kernel_rfl
@[go_sem] theorem Try.small29 : smallO Try.prog 29 = some (1, 8) := by kernel_rfl
@[go_sem] theorem Try.zt29 : zeroT Try.prog 29 = some (.int .i64 0) := by kernel_rfl
@[go_sem] theorem Try.knd29 : kindO Try.prog 29 = some .i64 := by kernel_rfl
@[go_sem] theorem Try.und29 : Program.underlying Try.prog 29 = some (.int .i64) := by kernel_rfl
@[go_sem] theorem Try.agg37 : aggO Try.prog 37 = some false := by kernel_rfl
@[go_sem] theorem Try.pln37 : plainO Try.prog 37 = some true := by kernel_rfl
@[go_sem] theorem Try.sz37 : szO Try.prog 37 = some 1 := by kernel_rfl
@[go_sem] theorem Try.zero37 : zeroL Try.prog 37 = some [.nilSl] := by kernel_rfl
@[go_sem] theorem Try.small37 : smallO Try.prog 37 = some (1, 24) := by kernel_rfl
@[go_sem] theorem Try.zt37 : zeroT Try.prog 37 = some (.nilSl) := by kernel_rfl
@[go_sem] theorem Try.eqn37 : eqT Try.prog 20 37 .nilSl .nilSl = some true := by kernel_rfl
@[go_sem] theorem Try.eqs37 (cs : List TV) (n : Nat) (f : Bool) : eqT Try.prog 20 37 (.sl cs n f) .nilSl = some false := by kernel_rfl
@[go_sem] theorem Try.eqt37 (cs : List TV) (n : Nat) (f : Bool) : eqT Try.prog 20 37 .nilSl (.sl cs n f) = some false := by kernel_rfl
@[go_sem] theorem Try.sl37 : sliceO Try.prog 37 = some 67 := by kernel_rfl
@[go_sem] theorem Try.und37 : Program.underlying Try.prog 37 = some (.slice 67) := by kernel_rfl
@[go_sem] theorem Try.agg41 : aggO Try.prog 41 = some false := by kernel_rfl
@[go_sem] theorem Try.pln41 : plainO Try.prog 41 = some true := by kernel_rfl
@[go_sem] theorem Try.sz41 : szO Try.prog 41 = some 1 := by kernel_rfl
@[go_sem] theorem Try.zero41 : zeroL Try.prog 41 = some [.nilSl] := by kernel_rfl
@[go_sem] theorem Try.small41 : smallO Try.prog 41 = some (1, 24) := by kernel_rfl
@[go_sem] theorem Try.zt41 : zeroT Try.prog 41 = some (.nilSl) := by kernel_rfl
@[go_sem] theorem Try.eqn41 : eqT Try.prog 20 41 .nilSl .nilSl = some true := by kernel_rfl
@[go_sem] theorem Try.eqs41 (cs : List TV) (n : Nat) (f : Bool) : eqT Try.prog 20 41 (.sl cs n f) .nilSl = some false := by kernel_rfl
@[go_sem] theorem Try.eqt41 (cs : List TV) (n : Nat) (f : Bool) : eqT Try.prog 20 41 .nilSl (.sl cs n f) = some false := by kernel_rfl
@[go_sem] theorem Try.sl41 : sliceO Try.prog 41 = some 84 := by kernel_rfl
@[go_sem] theorem Try.und41 : Program.underlying Try.prog 41 = some (.slice 84) := by kernel_rfl
@[go_sem] theorem Try.agg45 : aggO Try.prog 45 = some false := by kernel_rfl
@[go_sem] theorem Try.pln45 : plainO Try.prog 45 = some true := by kernel_rfl
@[go_sem] theorem Try.sz45 : szO Try.prog 45 = some 1 := by kernel_rfl
@[go_sem] theorem Try.zero45 : zeroL Try.prog 45 = some [.nilSl] := by kernel_rfl
@[go_sem] theorem Try.small45 : smallO Try.prog 45 = some (1, 24) := by kernel_rfl
@[go_sem] theorem Try.zt45 : zeroT Try.prog 45 = some (.nilSl) := by kernel_rfl
@[go_sem] theorem Try.eqn45 : eqT Try.prog 20 45 .nilSl .nilSl = some true := by kernel_rfl
@[go_sem] theorem Try.eqs45 (cs : List TV) (n : Nat) (f : Bool) : eqT Try.prog 20 45 (.sl cs n f) .nilSl = some false := by kernel_rfl
@[go_sem] theorem Try.eqt45 (cs : List TV) (n : Nat) (f : Bool) : eqT Try.prog 20 45 .nilSl (.sl cs n f) = some false := by kernel_rfl
@[go_sem] theorem Try.sl45 : sliceO Try.prog 45 = some 3 := by kernel_rfl
@[go_sem] theorem Try.und45 : Program.underlying Try.prog 45 = some (.slice 3) := by kernel_rfl
@[go_sem] theorem Try.agg50 : aggO Try.prog 50 = some false := by kernel_rfl
@[go_sem] theorem Try.pln50 : plainO Try.prog 50 = some true := by kernel_rfl
@[go_sem] theorem Try.sz50 : szO Try.prog 50 = some 1 := by kernel_rfl
@[go_sem] theorem Try.zero50 : zeroL Try.prog 50 = some [.nilSl] := by kernel_rfl
@[go_sem] theorem Try.small50 : smallO Try.prog 50 = some (1, 24) := by kernel_rfl
@[go_sem] theorem Try.zt50 : zeroT Try.prog 50 = some (.nilSl) := by kernel_rfl
@[go_sem] theorem Try.eqn50 : eqT Try.prog 20 50 .nilSl .nilSl = some true := by kernel_rfl
@[go_sem] theorem Try.eqs50 (cs : List TV) (n : Nat) (f : Bool) : eqT Try.prog 20 50 (.sl cs n f) .nilSl = some false := by kernel_rfl
@[go_sem] theorem Try.eqt50 (cs : List TV) (n : Nat) (f : Bool) : eqT Try.prog 20 50 .nilSl (.sl cs n f) = some false := by kernel_rfl
@[go_sem] theorem Try.sl50 : sliceO Try.prog 50 = some 77 := by kernel_rfl
@[go_sem] theorem Try.und50 : Program.underlying Try.prog 50 = some (.slice 77) := by kernel_rfl
@[go_sem] theorem Try.agg67 : aggO Try.prog 67 = some true := by kernel_rfl
@[go_sem] theorem Try.pln67 : plainO Try.prog 67 = some true := by kernel_rfl
@[go_sem] theorem Try.sz67 : szO Try.prog 67 = some 2 := by kernel_rfl
@[go_sem] theorem Try.zero67 : zeroL Try.prog 67 = some [.int .i64 0, .int .i64 0] := by kernel_rfl
@[go_sem] theorem Try.small67 : smallO Try.prog 67 = some (2, 16) := by kernel_rfl
@[go_sem] theorem Try.zt67 : zeroT Try.prog 67 = some (.agg [.int .i64 0, .int .i64 0]) := by kernel_rfl
@[go_sem] theorem Try.fld67_0 : fieldO Try.prog 67 0 = some (0, 3) := by kernel_rfl
@[go_sem] theorem Try.fld67_1 : fieldO Try.prog 67 1 = some (1, 3) := by kernel_rfl
@[go_sem] theorem Try.bld67 (parts : List (Nat × TV)) : buildO Try.prog 67 parts = (fillT (fun i => ([(0, 1), (1, 1)] : List (Nat × Nat))[i]?) [.int .i64 0, .int .i64 0] parts).map .agg := by kernel_rfl
@[go_sem] theorem Try.eq67 (a0 b0 : Int) (a1 b1 : Int) : eqT Try.prog 20 67 (.agg [.int .i64 a0, .int .i64 a1]) (.agg [.int .i64 b0, .int .i64 b1]) = some ((a0 == b0) && ((a1 == b1) && true)) := by kernel_rfl
@[go_sem] theorem Try.eqg67 : Program.eqGuardType Try.prog (Program.depth Try.prog) 67 = false := by kernel_rfl
@[go_sem] theorem Try.agg70 : aggO Try.prog 70 = some false := by kernel_rfl
@[go_sem] theorem Try.pln70 : plainO Try.prog 70 = some true := by kernel_rfl
@[go_sem] theorem Try.sz70 : szO Try.prog 70 = some 1 := by kernel_rfl
@[go_sem] theorem Try.zero70 : zeroL Try.prog 70 = some [.nilFn] := by kernel_rfl
@[go_sem] theorem Try.small70 : smallO Try.prog 70 = some (1, 8) := by kernel_rfl
@[go_sem] theorem Try.zt70 : zeroT Try.prog 70 = some (.nilFn) := by kernel_rfl
@[go_sem] theorem Try.agg77 : aggO Try.prog 77 = some true := by kernel_rfl
@[go_sem] theorem Try.pln77 : plainO Try.prog 77 = some true := by kernel_rfl
@[go_sem] theorem Try.sz77 : szO Try.prog 77 = some 3 := by kernel_rfl
@[go_sem] theorem Try.zero77 : zeroL Try.prog 77 = some [.int .i64 0, .int .i64 0, .nilSl] := by kernel_rfl
@[go_sem] theorem Try.small77 : smallO Try.prog 77 = some (3, 40) := by kernel_rfl
@[go_sem] theorem Try.zt77 : zeroT Try.prog 77 = some (.agg [.int .i64 0, .int .i64 0, .nilSl]) := by kernel_rfl
@[go_sem] theorem Try.fld77_0 : fieldO Try.prog 77 0 = some (0, 3) := by kernel_rfl
@[go_sem] theorem Try.fld77_1 : fieldO Try.prog 77 1 = some (1, 3) := by kernel_rfl
@[go_sem] theorem Try.fld77_2 : fieldO Try.prog 77 2 = some (2, 22) := by kernel_rfl
@[go_sem] theorem Try.bld77 (parts : List (Nat × TV)) : buildO Try.prog 77 parts = (fillT (fun i => ([(0, 1), (1, 1), (2, 1)] : List (Nat × Nat))[i]?) [.int .i64 0, .int .i64 0, .nilSl] parts).map .agg := by kernel_rfl
@[go_sem] theorem Try.bldp77 (parts : List (Nat × PV)) : buildP Try.prog 77 parts = fillP (fun i => ([(0, 1), (1, 1), (2, 1)] : List (Nat × Nat))[i]?) [.t (.int .i64 0), .t (.int .i64 0), .t (.nilSl)] parts := by kernel_rfl
@[go_sem] theorem Try.eqg77 : Program.eqGuardType Try.prog (Program.depth Try.prog) 77 = false := by kernel_rfl
@[go_sem] theorem Try.agg81 : aggO Try.prog 81 = some false := by kernel_rfl
@[go_sem] theorem Try.pln81 : plainO Try.prog 81 = some true := by kernel_rfl
@[go_sem] theorem Try.sz81 : szO Try.prog 81 = some 1 := by kernel_rfl
@[go_sem] theorem Try.zero81 : zeroL Try.prog 81 = some [.nilSl] := by kernel_rfl
@[go_sem] theorem Try.small81 : smallO Try.prog 81 = some (1, 24) := by kernel_rfl
@[go_sem] theorem Try.zt81 : zeroT Try.prog 81 = some (.nilSl) := by kernel_rfl
@[go_sem] theorem Try.eqn81 : eqT Try.prog 20 81 .nilSl .nilSl = some true := by kernel_rfl
@[go_sem] theorem Try.eqs81 (cs : List TV) (n : Nat) (f : Bool) : eqT Try.prog 20 81 (.sl cs n f) .nilSl = some false := by kernel_rfl
@[go_sem] theorem Try.eqt81 (cs : List TV) (n : Nat) (f : Bool) : eqT Try.prog 20 81 .nilSl (.sl cs n f) = some false := by kernel_rfl
@[go_sem] theorem Try.sl81 : sliceO Try.prog 81 = some 26 := by kernel_rfl
@[go_sem] theorem Try.und81 : Program.underlying Try.prog 81 = some (.slice 26) := by kernel_rfl
@[go_sem] theorem Try.agg84 : aggO Try.prog 84 = some true := by kernel_rfl
@[go_sem] theorem Try.pln84 : plainO Try.prog 84 = some true := by kernel_rfl
@[go_sem] theorem Try.sz84 : szO Try.prog 84 = some 3 := by kernel_rfl
@[go_sem] theorem Try.zero84 : zeroL Try.prog 84 = some [.int .i64 0, .int .i64 0, .int .i64 0] := by kernel_rfl
@[go_sem] theorem Try.small84 : smallO Try.prog 84 = some (3, 24) := by kernel_rfl
@[go_sem] theorem Try.zt84 : zeroT Try.prog 84 = some (.agg [.int .i64 0, .int .i64 0, .int .i64 0]) := by kernel_rfl
@[go_sem] theorem Try.fld84_0 : fieldO Try.prog 84 0 = some (0, 28) := by kernel_rfl
@[go_sem] theorem Try.fld84_1 : fieldO Try.prog 84 1 = some (2, 3) := by kernel_rfl
@[go_sem] theorem Try.bld84 (parts : List (Nat × TV)) : buildO Try.prog 84 parts = (fillT (fun i => ([(0, 2), (2, 1)] : List (Nat × Nat))[i]?) [.int .i64 0, .int .i64 0, .int .i64 0] parts).map .agg := by kernel_rfl
@[go_sem] theorem Try.eq84 (a0 b0 : Int) (a1 b1 : Int) (a2 b2 : Int) : eqT Try.prog 20 84 (.agg [.int .i64 a0, .int .i64 a1, .int .i64 a2]) (.agg [.int .i64 b0, .int .i64 b1, .int .i64 b2]) = some (((a0 == b0) && ((a1 == b1) && true)) && ((a2 == b2) && true)) := by kernel_rfl
@[go_sem] theorem Try.eqg84 : Program.eqGuardType Try.prog (Program.depth Try.prog) 84 = false := by kernel_rfl
@[go_sem] theorem Try.agg89 : aggO Try.prog 89 = some true := by kernel_rfl
@[go_sem] theorem Try.pln89 : plainO Try.prog 89 = some true := by kernel_rfl
@[go_sem] theorem Try.sz89 : szO Try.prog 89 = some 6 := by kernel_rfl
@[go_sem] theorem Try.zero89 : zeroL Try.prog 89 = some [.int .i64 0, .nilSl, .int .i64 0, .int .i64 0, .int .i64 0, .nilSl] := by kernel_rfl
@[go_sem] theorem Try.small89 : smallO Try.prog 89 = some (6, 80) := by kernel_rfl
@[go_sem] theorem Try.zt89 : zeroT Try.prog 89 = some (.agg [.int .i64 0, .nilSl, .int .i64 0, .int .i64 0, .int .i64 0, .nilSl]) := by kernel_rfl
@[go_sem] theorem Try.fld89_0 : fieldO Try.prog 89 0 = some (0, 26) := by kernel_rfl
@[go_sem] theorem Try.bld89 (parts : List (Nat × TV)) : buildO Try.prog 89 parts = (fillT (fun i => ([(0, 6)] : List (Nat × Nat))[i]?) [.int .i64 0, .nilSl, .int .i64 0, .int .i64 0, .int .i64 0, .nilSl] parts).map .agg := by kernel_rfl
@[go_sem] theorem Try.bldp89 (parts : List (Nat × PV)) : buildP Try.prog 89 parts = fillP (fun i => ([(0, 6)] : List (Nat × Nat))[i]?) [.t (.int .i64 0), .t (.nilSl), .t (.int .i64 0), .t (.int .i64 0), .t (.int .i64 0), .t (.nilSl)] parts := by kernel_rfl
@[go_sem] theorem Try.eqg89 : Program.eqGuardType Try.prog (Program.depth Try.prog) 89 = false := by kernel_rfl
@[go_sem] theorem Try.agg97 : aggO Try.prog 97 = some false := by kernel_rfl
@[go_sem] theorem Try.pln97 : plainO Try.prog 97 = some true := by kernel_rfl
@[go_sem] theorem Try.sz97 : szO Try.prog 97 = some 1 := by kernel_rfl
@[go_sem] theorem Try.zero97 : zeroL Try.prog 97 = some [.nilSl] := by kernel_rfl
@[go_sem] theorem Try.small97 : smallO Try.prog 97 = some (1, 24) := by kernel_rfl
@[go_sem] theorem Try.zt97 : zeroT Try.prog 97 = some (.nilSl) := by kernel_rfl
@[go_sem] theorem Try.eqn97 : eqT Try.prog 20 97 .nilSl .nilSl = some true := by kernel_rfl
@[go_sem] theorem Try.eqs97 (cs : List TV) (n : Nat) (f : Bool) : eqT Try.prog 20 97 (.sl cs n f) .nilSl = some false := by kernel_rfl
@[go_sem] theorem Try.eqt97 (cs : List TV) (n : Nat) (f : Bool) : eqT Try.prog 20 97 .nilSl (.sl cs n f) = some false := by kernel_rfl
@[go_sem] theorem Try.sl97 : sliceO Try.prog 97 = some 141 := by kernel_rfl
@[go_sem] theorem Try.und97 : Program.underlying Try.prog 97 = some (.slice 141) := by kernel_rfl
@[go_sem] theorem Try.agg99 : aggO Try.prog 99 = some true := by kernel_rfl
@[go_sem] theorem Try.pln99 : plainO Try.prog 99 = some true := by kernel_rfl
@[go_sem] theorem Try.sz99 : szO Try.prog 99 = some 2 := by kernel_rfl
@[go_sem] theorem Try.zero99 : zeroL Try.prog 99 = some [.int .i64 0, .int .i64 0] := by kernel_rfl
@[go_sem] theorem Try.small99 : smallO Try.prog 99 = some (2, 16) := by kernel_rfl
@[go_sem] theorem Try.zt99 : zeroT Try.prog 99 = some (.agg [.int .i64 0, .int .i64 0]) := by kernel_rfl
@[go_sem] theorem Try.fld99_0 : fieldO Try.prog 99 0 = some (0, 3) := by kernel_rfl
@[go_sem] theorem Try.fld99_1 : fieldO Try.prog 99 1 = some (1, 3) := by kernel_rfl
@[go_sem] theorem Try.bld99 (parts : List (Nat × TV)) : buildO Try.prog 99 parts = (fillT (fun i => ([(0, 1), (1, 1)] : List (Nat × Nat))[i]?) [.int .i64 0, .int .i64 0] parts).map .agg := by kernel_rfl
@[go_sem] theorem Try.eq99 (a0 b0 : Int) (a1 b1 : Int) : eqT Try.prog 20 99 (.agg [.int .i64 a0, .int .i64 a1]) (.agg [.int .i64 b0, .int .i64 b1]) = some ((a0 == b0) && ((a1 == b1) && true)) := by kernel_rfl
@[go_sem] theorem Try.eqg99 : Program.eqGuardType Try.prog (Program.depth Try.prog) 99 = false := by kernel_rfl
@[go_sem] theorem Try.agg101 : aggO Try.prog 101 = some true := by kernel_rfl
@[go_sem] theorem Try.pln101 : plainO Try.prog 101 = some true := by kernel_rfl
@[go_sem] theorem Try.sz101 : szO Try.prog 101 = some 2 := by kernel_rfl
@[go_sem] theorem Try.zero101 : zeroL Try.prog 101 = some [.int .i64 0, .nilSl] := by kernel_rfl
@[go_sem] theorem Try.small101 : smallO Try.prog 101 = some (2, 32) := by kernel_rfl
@[go_sem] theorem Try.zt101 : zeroT Try.prog 101 = some (.agg [.int .i64 0, .nilSl]) := by kernel_rfl
@[go_sem] theorem Try.fld101_0 : fieldO Try.prog 101 0 = some (0, 3) := by kernel_rfl
@[go_sem] theorem Try.fld101_1 : fieldO Try.prog 101 1 = some (1, 22) := by kernel_rfl
@[go_sem] theorem Try.bld101 (parts : List (Nat × TV)) : buildO Try.prog 101 parts = (fillT (fun i => ([(0, 1), (1, 1)] : List (Nat × Nat))[i]?) [.int .i64 0, .nilSl] parts).map .agg := by kernel_rfl
@[go_sem] theorem Try.bldp101 (parts : List (Nat × PV)) : buildP Try.prog 101 parts = fillP (fun i => ([(0, 1), (1, 1)] : List (Nat × Nat))[i]?) [.t (.int .i64 0), .t (.nilSl)] parts := by kernel_rfl
@[go_sem] theorem Try.eqg101 : Program.eqGuardType Try.prog (Program.depth Try.prog) 101 = false := by kernel_rfl
@[go_sem] theorem Try.agg103 : aggO Try.prog 103 = some false := by kernel_rfl
@[go_sem] theorem Try.pln103 : plainO Try.prog 103 = some true := by kernel_rfl
@[go_sem] theorem Try.sz103 : szO Try.prog 103 = some 1 := by kernel_rfl
@[go_sem] theorem Try.zero103 : zeroL Try.prog 103 = some [.nilFn] := by kernel_rfl
@[go_sem] theorem Try.small103 : smallO Try.prog 103 = some (1, 8) := by kernel_rfl
@[go_sem] theorem Try.zt103 : zeroT Try.prog 103 = some (.nilFn) := by kernel_rfl
@[go_sem] theorem Try.agg105 : aggO Try.prog 105 = some false := by kernel_rfl
@[go_sem] theorem Try.pln105 : plainO Try.prog 105 = some true := by kernel_rfl
@[go_sem] theorem Try.sz105 : szO Try.prog 105 = some 1 := by kernel_rfl
@[go_sem] theorem Try.zero105 : zeroL Try.prog 105 = some [.nilFn] := by kernel_rfl
@[go_sem] theorem Try.small105 : smallO Try.prog 105 = some (1, 8) := by kernel_rfl
@[go_sem] theorem Try.zt105 : zeroT Try.prog 105 = some (.nilFn) := by kernel_rfl
@[go_sem] theorem Try.agg108 : aggO Try.prog 108 = some true := by kernel_rfl
@[go_sem] theorem Try.pln108 : plainO Try.prog 108 = some true := by kernel_rfl
@[go_sem] theorem Try.sz108 : szO Try.prog 108 = some 3 := by kernel_rfl
@[go_sem] theorem Try.zero108 : zeroL Try.prog 108 = some [.int .i64 0, .int .i64 0, .int .i64 0] := by kernel_rfl
@[go_sem] theorem Try.small108 : smallO Try.prog 108 = some (3, 24) := by kernel_rfl
@[go_sem] theorem Try.zt108 : zeroT Try.prog 108 = some (.agg [.int .i64 0, .int .i64 0, .int .i64 0]) := by kernel_rfl
@[go_sem] theorem Try.fld108_0 : fieldO Try.prog 108 0 = some (0, 67) := by kernel_rfl
@[go_sem] theorem Try.fld108_1 : fieldO Try.prog 108 1 = some (2, 3) := by kernel_rfl
@[go_sem] theorem Try.bld108 (parts : List (Nat × TV)) : buildO Try.prog 108 parts = (fillT (fun i => ([(0, 2), (2, 1)] : List (Nat × Nat))[i]?) [.int .i64 0, .int .i64 0, .int .i64 0] parts).map .agg := by kernel_rfl
@[go_sem] theorem Try.eq108 (a0 b0 : Int) (a1 b1 : Int) (a2 b2 : Int) : eqT Try.prog 20 108 (.agg [.int .i64 a0, .int .i64 a1, .int .i64 a2]) (.agg [.int .i64 b0, .int .i64 b1, .int .i64 b2]) = some (((a0 == b0) && ((a1 == b1) && true)) && ((a2 == b2) && true)) := by kernel_rfl
@[go_sem] theorem Try.eqg108 : Program.eqGuardType Try.prog (Program.depth Try.prog) 108 = false := by kernel_rfl
@[go_sem] theorem Try.agg109 : aggO Try.prog 109 = some true := by kernel_rfl
@[go_sem] theorem Try.pln109 : plainO Try.prog 109 = some true := by kernel_rfl
@[go_sem] theorem Try.sz109 : szO Try.prog 109 = some 2 := by kernel_rfl
@[go_sem] theorem Try.zero109 : zeroL Try.prog 109 = some [.nilFn, .nilFn] := by kernel_rfl
@[go_sem] theorem Try.small109 : smallO Try.prog 109 = some (2, 16) := by kernel_rfl
@[go_sem] theorem Try.zt109 : zeroT Try.prog 109 = some (.agg [.nilFn, .nilFn]) := by kernel_rfl
@[go_sem] theorem Try.bld109 (parts : List (Nat × TV)) : buildO Try.prog 109 parts = (fillT (fun i => some (i * 1, 1)) [.nilFn, .nilFn] parts).map .agg := by kernel_rfl
@[go_sem] theorem Try.eqg109 : Program.eqGuardType Try.prog (Program.depth Try.prog) 109 = false := by kernel_rfl
@[go_sem] theorem Try.arr109 : arrayO Try.prog 109 = some (2, 105) := by kernel_rfl
@[go_sem] theorem Try.und109 : Program.underlying Try.prog 109 = some (.array 2 105) := by kernel_rfl
@[go_sem] theorem Try.agg110 : aggO Try.prog 110 = some false := by kernel_rfl
@[go_sem] theorem Try.pln110 : plainO Try.prog 110 = some true := by kernel_rfl
@[go_sem] theorem Try.sz110 : szO Try.prog 110 = some 1 := by kernel_rfl
@[go_sem] theorem Try.zero110 : zeroL Try.prog 110 = some [.nilFn] := by kernel_rfl
@[go_sem] theorem Try.small110 : smallO Try.prog 110 = some (1, 8) := by kernel_rfl
@[go_sem] theorem Try.zt110 : zeroT Try.prog 110 = some (.nilFn) := by kernel_rfl
@[go_sem] theorem Try.agg115 : aggO Try.prog 115 = some false := by kernel_rfl
@[go_sem] theorem Try.pln115 : plainO Try.prog 115 = some true := by kernel_rfl
@[go_sem] theorem Try.sz115 : szO Try.prog 115 = some 1 := by kernel_rfl
@[go_sem] theorem Try.zero115 : zeroL Try.prog 115 = some [.nilFn] := by kernel_rfl
@[go_sem] theorem Try.small115 : smallO Try.prog 115 = some (1, 8) := by kernel_rfl
@[go_sem] theorem Try.zt115 : zeroT Try.prog 115 = some (.nilFn) := by kernel_rfl
@[go_sem] theorem Try.agg118 : aggO Try.prog 118 = some true := by kernel_rfl
@[go_sem] theorem Try.pln118 : plainO Try.prog 118 = some true := by kernel_rfl
@[go_sem] theorem Try.sz118 : szO Try.prog 118 = some 12 := by kernel_rfl
@[go_sem] theorem Try.zero118 : zeroL Try.prog 118 = some [.bool false, .bool false, .bool false, .bool false, .bool false, .bool false, .bool false, .bool false, .bool false, .bool false, .bool false, .bool false] := by kernel_rfl
@[go_sem] theorem Try.small118 : smallO Try.prog 118 = some (12, 12) := by kernel_rfl
@[go_sem] theorem Try.zt118 : zeroT Try.prog 118 = some (.agg [.bool false, .bool false, .bool false, .bool false, .bool false, .bool false, .bool false, .bool false, .bool false, .bool false, .bool false, .bool false]) := by kernel_rfl
@[go_sem] theorem Try.bld118 (parts : List (Nat × TV)) : buildO Try.prog 118 parts = (fillT (fun i => some (i * 1, 1)) [.bool false, .bool false, .bool false, .bool false, .bool false, .bool false, .bool false, .bool false, .bool false, .bool false, .bool false, .bool false] parts).map .agg := by kernel_rfl
@[go_sem] theorem Try.eq118 (a0 b0 : Bool) (a1 b1 : Bool) (a2 b2 : Bool) (a3 b3 : Bool) (a4 b4 : Bool) (a5 b5 : Bool) (a6 b6 : Bool) (a7 b7 : Bool) (a8 b8 : Bool) (a9 b9 : Bool) (a10 b10 : Bool) (a11 b11 : Bool) : eqT Try.prog 20 118 (.agg [.bool a0, .bool a1, .bool a2, .bool a3, .bool a4, .bool a5, .bool a6, .bool a7, .bool a8, .bool a9, .bool a10, .bool a11]) (.agg [.bool b0, .bool b1, .bool b2, .bool b3, .bool b4, .bool b5, .bool b6, .bool b7, .bool b8, .bool b9, .bool b10, .bool b11]) = some ((a0 == b0) && ((a1 == b1) && ((a2 == b2) && ((a3 == b3) && ((a4 == b4) && ((a5 == b5) && ((a6 == b6) && ((a7 == b7) && ((a8 == b8) && ((a9 == b9) && ((a10 == b10) && ((a11 == b11) && true)))))))))))) := by kernel_rfl
@[go_sem] theorem Try.eqg118 : Program.eqGuardType Try.prog (Program.depth Try.prog) 118 = false := by kernel_rfl
@[go_sem] theorem Try.arr118 : arrayO Try.prog 118 = some (12, 4) := by kernel_rfl
@[go_sem] theorem Try.und118 : Program.underlying Try.prog 118 = some (.array 12 4) := by kernel_rfl
@[go_sem] theorem Try.agg119 : aggO Try.prog 119 = some false := by kernel_rfl
@[go_sem] theorem Try.pln119 : plainO Try.prog 119 = some true := by kernel_rfl
@[go_sem] theorem Try.sz119 : szO Try.prog 119 = some 1 := by kernel_rfl
@[go_sem] theorem Try.zero119 : zeroL Try.prog 119 = some [.nilMap] := by kernel_rfl
@[go_sem] theorem Try.small119 : smallO Try.prog 119 = some (1, 8) := by kernel_rfl
@[go_sem] theorem Try.map119 : mapO Try.prog 119 = some (3, 22) := by kernel_rfl
@[go_sem] theorem Try.und119 : Program.underlying Try.prog 119 = some (.map 3 22) := by kernel_rfl
@[go_sem] theorem Try.zt119 : zeroT Try.prog 119 = some (.nilMap) := by kernel_rfl
@[go_sem] theorem Try.agg121 : aggO Try.prog 121 = some true := by kernel_rfl
@[go_sem] theorem Try.pln121 : plainO Try.prog 121 = some true := by kernel_rfl
@[go_sem] theorem Try.sz121 : szO Try.prog 121 = some 13 := by kernel_rfl
@[go_sem] theorem Try.zero121 : zeroL Try.prog 121 = some [.bool false, .bool false, .bool false, .bool false, .bool false, .bool false, .bool false, .bool false, .bool false, .bool false, .bool false, .bool false, .nilMap] := by kernel_rfl
@[go_sem] theorem Try.small121 : smallO Try.prog 121 = some (13, 24) := by kernel_rfl
@[go_sem] theorem Try.zt121 : zeroT Try.prog 121 = some (.agg [.bool false, .bool false, .bool false, .bool false, .bool false, .bool false, .bool false, .bool false, .bool false, .bool false, .bool false, .bool false, .nilMap]) := by kernel_rfl
@[go_sem] theorem Try.fld121_0 : fieldO Try.prog 121 0 = some (0, 118) := by kernel_rfl
@[go_sem] theorem Try.fld121_1 : fieldO Try.prog 121 1 = some (12, 119) := by kernel_rfl
@[go_sem] theorem Try.bld121 (parts : List (Nat × TV)) : buildO Try.prog 121 parts = (fillT (fun i => ([(0, 12), (12, 1)] : List (Nat × Nat))[i]?) [.bool false, .bool false, .bool false, .bool false, .bool false, .bool false, .bool false, .bool false, .bool false, .bool false, .bool false, .bool false, .nilMap] parts).map .agg := by kernel_rfl
@[go_sem] theorem Try.bldp121 (parts : List (Nat × PV)) : buildP Try.prog 121 parts = fillP (fun i => ([(0, 12), (12, 1)] : List (Nat × Nat))[i]?) [.t (.bool false), .t (.bool false), .t (.bool false), .t (.bool false), .t (.bool false), .t (.bool false), .t (.bool false), .t (.bool false), .t (.bool false), .t (.bool false), .t (.bool false), .t (.bool false), .t (.nilMap)] parts := by kernel_rfl
@[go_sem] theorem Try.eqg121 : Program.eqGuardType Try.prog (Program.depth Try.prog) 121 = false := by kernel_rfl
@[go_sem] theorem Try.agg128 : aggO Try.prog 128 = some false := by kernel_rfl
@[go_sem] theorem Try.pln128 : plainO Try.prog 128 = some true := by kernel_rfl
@[go_sem] theorem Try.sz128 : szO Try.prog 128 = some 1 := by kernel_rfl
@[go_sem] theorem Try.zero128 : zeroL Try.prog 128 = some [.nilFn] := by kernel_rfl
@[go_sem] theorem Try.small128 : smallO Try.prog 128 = some (1, 8) := by kernel_rfl
@[go_sem] theorem Try.zt128 : zeroT Try.prog 128 = some (.nilFn) := by kernel_rfl
@[go_sem] theorem Try.agg130 : aggO Try.prog 130 = some true := by kernel_rfl
@[go_sem] theorem Try.pln130 : plainO Try.prog 130 = some true := by kernel_rfl
@[go_sem] theorem Try.sz130 : szO Try.prog 130 = some 4 := by kernel_rfl
@[go_sem] theorem Try.zero130 : zeroL Try.prog 130 = some [.int .i64 0, .int .i64 0, .nilSl, .nilFn] := by kernel_rfl
@[go_sem] theorem Try.small130 : smallO Try.prog 130 = some (4, 48) := by kernel_rfl
@[go_sem] theorem Try.zt130 : zeroT Try.prog 130 = some (.agg [.int .i64 0, .int .i64 0, .nilSl, .nilFn]) := by kernel_rfl
@[go_sem] theorem Try.fld130_0 : fieldO Try.prog 130 0 = some (0, 77) := by kernel_rfl
@[go_sem] theorem Try.fld130_1 : fieldO Try.prog 130 1 = some (3, 128) := by kernel_rfl
@[go_sem] theorem Try.bld130 (parts : List (Nat × TV)) : buildO Try.prog 130 parts = (fillT (fun i => ([(0, 3), (3, 1)] : List (Nat × Nat))[i]?) [.int .i64 0, .int .i64 0, .nilSl, .nilFn] parts).map .agg := by kernel_rfl
@[go_sem] theorem Try.bldp130 (parts : List (Nat × PV)) : buildP Try.prog 130 parts = fillP (fun i => ([(0, 3), (3, 1)] : List (Nat × Nat))[i]?) [.t (.int .i64 0), .t (.int .i64 0), .t (.nilSl), .t (.nilFn)] parts := by kernel_rfl
@[go_sem] theorem Try.eqg130 : Program.eqGuardType Try.prog (Program.depth Try.prog) 130 = false := by kernel_rfl
@[go_sem] theorem Try.agg132 : aggO Try.prog 132 = some false := by kernel_rfl
@[go_sem] theorem Try.pln132 : plainO Try.prog 132 = some true := by kernel_rfl
@[go_sem] theorem Try.sz132 : szO Try.prog 132 = some 1 := by kernel_rfl
@[go_sem] theorem Try.zero132 : zeroL Try.prog 132 = some [.nilSl] := by kernel_rfl
@[go_sem] theorem Try.small132 : smallO Try.prog 132 = some (1, 24) := by kernel_rfl
@[go_sem] theorem Try.zt132 : zeroT Try.prog 132 = some (.nilSl) := by kernel_rfl
@[go_sem] theorem Try.eqn132 : eqT Try.prog 20 132 .nilSl .nilSl = some true := by kernel_rfl
@[go_sem] theorem Try.eqs132 (cs : List TV) (n : Nat) (f : Bool) : eqT Try.prog 20 132 (.sl cs n f) .nilSl = some false := by kernel_rfl
@[go_sem] theorem Try.eqt132 (cs : List TV) (n : Nat) (f : Bool) : eqT Try.prog 20 132 .nilSl (.sl cs n f) = some false := by kernel_rfl
@[go_sem] theorem Try.sl132 : sliceO Try.prog 132 = some 130 := by kernel_rfl
@[go_sem] theorem Try.und132 : Program.underlying Try.prog 132 = some (.slice 130) := by kernel_rfl
@[go_sem] theorem Try.agg139 : aggO Try.prog 139 = some false := by kernel_rfl
@[go_sem] theorem Try.pln139 : plainO Try.prog 139 = some true := by kernel_rfl
@[go_sem] theorem Try.sz139 : szO Try.prog 139 = some 1 := by kernel_rfl
@[go_sem] theorem Try.zero139 : zeroL Try.prog 139 = some [.nilFn] := by kernel_rfl
@[go_sem] theorem Try.small139 : smallO Try.prog 139 = some (1, 8) := by kernel_rfl
@[go_sem] theorem Try.zt139 : zeroT Try.prog 139 = some (.nilFn) := by kernel_rfl
@[go_sem] theorem Try.agg141 : aggO Try.prog 141 = some false := by kernel_rfl
@[go_sem] theorem Try.pln141 : plainO Try.prog 141 = some false := by kernel_rfl
@[go_sem] theorem Try.sz141 : szO Try.prog 141 = some 1 := by kernel_rfl
@[go_sem] theorem Try.zero141 : zeroL Try.prog 141 = some [.nilIf] := by kernel_rfl
@[go_sem] theorem Try.small141 : smallO Try.prog 141 = some (1, 16) := by kernel_rfl
@[go_sem] theorem Try.zt141 : zeroT Try.prog 141 = some (.nilIf) := by kernel_rfl
@[go_sem] theorem Try.agg143 : aggO Try.prog 143 = some false := by kernel_rfl
@[go_sem] theorem Try.pln143 : plainO Try.prog 143 = some true := by kernel_rfl
@[go_sem] theorem Try.sz143 : szO Try.prog 143 = some 1 := by kernel_rfl
@[go_sem] theorem Try.zero143 : zeroL Try.prog 143 = some [.nilFn] := by kernel_rfl
@[go_sem] theorem Try.small143 : smallO Try.prog 143 = some (1, 8) := by kernel_rfl
@[go_sem] theorem Try.zt143 : zeroT Try.prog 143 = some (.nilFn) := by kernel_rfl
@[go_sem] theorem Try.agg144 : aggO Try.prog 144 = some false := by kernel_rfl
@[go_sem] theorem Try.pln144 : plainO Try.prog 144 = some true := by kernel_rfl
@[go_sem] theorem Try.sz144 : szO Try.prog 144 = some 1 := by kernel_rfl
@[go_sem] theorem Try.zero144 : zeroL Try.prog 144 = some [.nilFn] := by kernel_rfl
@[go_sem] theorem Try.small144 : smallO Try.prog 144 = some (1, 8) := by kernel_rfl
@[go_sem] theorem Try.zt144 : zeroT Try.prog 144 = some (.nilFn) := by kernel_rfl
theorem Try.mixes : Try.prog.follows .mixedOrders = true := by kernel_rfl
end Go.Proofs.Ytjmkccckohcfkaa

/- Part Pb. -/
namespace Go.Oc
open Go Go.Pm

/-- A number that an int can hold. -/
def In64 (n : Int) : Prop := -9223372036854775808 ≤ n ∧ n ≤ 9223372036854775807
theorem wrap_id {n : Int} (h : In64 n) : IntKind.i64.wrap n = n := wrap_in h.1 h.2

def inB (n lo hi : Int) : Bool := decide (lo ≤ n) && decide (n ≤ hi)
theorem inB_iff {n lo hi : Int} : inB n lo hi = true ↔ lo ≤ n ∧ n ≤ hi := by simp [inB]

structure Span where
  lo : Int
  hi : Int
  deriving DecidableEq
def Span.cs (s : Span) : List TV := [.int .i64 s.lo, .int .i64 s.hi]
def Span.t (s : Span) : TV := .agg s.cs
def spannedB (s : Span) (lo hi : Int) : Bool := decide (lo ≤ s.lo) && decide (s.lo ≤ s.hi) && decide (s.hi ≤ hi)
def widerS (s : Span) (n : Int) (first : Bool) : Span := if first then ⟨n, n⟩ else ⟨min s.lo n, max s.hi n⟩
def chosen (lo hi n : Int) : Int := if lo ≥ hi then lo else if 9223372036854775807 < hi - lo + 1 then min (max n lo) hi else lo + n % (hi - lo + 1)
theorem chosen_mem {lo hi : Int} (n : Int) (h : lo ≤ hi) : lo ≤ chosen lo hi n ∧ chosen lo hi n ≤ hi := by
  unfold chosen
  split
  · omega
  · split
    · omega
    · have h1 := Int.emod_nonneg n (show hi - lo + 1 ≠ 0 by omega)
      have h2 := Int.emod_lt_of_pos n (show 0 < hi - lo + 1 by omega)
      omega
theorem chosen_low {lo hi : Int} (n : Int) (h : ¬ lo ≤ hi) : chosen lo hi n = lo := by
  unfold chosen; rw [if_pos (by omega)]

/-- A list of ints, as cells. -/
def ints (l : List Int) : List TV := l.map (TV.int .i64)
theorem ints_at {l : List Int} {k : Nat} {x : Int} (h : l[k]? = some x) : (ints l).drop (k * 1) = .int .i64 x :: ints (l.drop (k + 1)) := by
  unfold ints
  rw [Nat.mul_one, ← List.map_drop]
  have hk := (List.getElem?_eq_some_iff.1 h).1
  rw [List.drop_eq_getElem_cons hk, List.map_cons]
  congr 2
  exact (List.getElem?_eq_some_iff.1 h).2
theorem ints_inj : ∀ {a b : List Int}, ints a = ints b → a = b
  | [], [], _ => rfl
  | x :: a, y :: b, h => by
    simp only [ints, List.map_cons, List.cons.injEq, TV.int.injEq, true_and] at h
    rw [h.1, ints_inj (a := a) (b := b) h.2]
  | [], _ :: _, h => by simp [ints] at h
  | _ :: _, [], h => by simp [ints] at h
theorem ints_len (l : List Int) : (ints l).length = l.length := by simp [ints]
noncomputable def unints (cs : List TV) : Option (List Int) := open Classical in if h : ∃ l, cs = ints l then some h.choose else none
theorem unints_eq (l : List Int) : unints (ints l) = some l := by
  have h : ∃ l', ints l = ints l' := ⟨l, rfl⟩
  unfold unints
  rw [dif_pos h]
  congr 1
  exact (ints_inj h.choose_spec).symm

/-- Lists of structs. -/
theorem flat_at {α : Type} (c : α → List TV) {n : Nat} (hc : ∀ x, (c x).length = n) : ∀ {l : List α} {k : Nat} {x : α}, l[k]? = some x → (l.flatMap c).drop (k * n) = c x ++ (l.drop (k + 1)).flatMap c
  | [], k, x, h => by simp at h
  | y :: l, 0, x, h => by simp at h; subst h; simp
  | y :: l, k + 1, x, h => by
    simp at h
    have := flat_at c hc h
    simp only [List.flatMap_cons, List.drop_succ_cons, Nat.add_mul, Nat.one_mul]
    rw [Nat.add_comm, List.drop_append, hc y]
    simp [List.drop_eq_nil_of_le, hc y, this]
theorem flat_len {α : Type} (c : α → List TV) {n : Nat} (hc : ∀ x, (c x).length = n) (l : List α) : (l.flatMap c).length = l.length * n := by
  induction l with
  | nil => simp
  | cons x l ih => simp only [List.flatMap_cons, List.length_append, hc, ih, List.length_cons, Nat.add_mul]; omega
theorem flat_inj {α : Type} {c : α → List TV} {n : Nat} (hc : ∀ x, (c x).length = n) (hn : 0 < n) (hi : ∀ x y, c x = c y → x = y) : ∀ {a b : List α}, a.flatMap c = b.flatMap c → a = b
  | [], [], _ => rfl
  | x :: a, y :: b, h => by
    simp only [List.flatMap_cons] at h
    have h1 := List.append_inj h (by rw [hc, hc])
    rw [hi x y h1.1, flat_inj hc hn hi h1.2]
  | [], y :: b, h => by have := congrArg List.length h; simp [hc] at this; omega
  | x :: a, [], h => by have := congrArg List.length h; simp [hc] at this; omega
noncomputable def unflat {α : Type} (c : α → List TV) (cs : List TV) : Option (List α) := open Classical in if h : ∃ l, cs = l.flatMap c then some h.choose else none
theorem unflat_eq {α : Type} {c : α → List TV} {n : Nat} (hc : ∀ x, (c x).length = n) (hn : 0 < n) (hi : ∀ x y, c x = c y → x = y) (l : List α) : unflat c (l.flatMap c) = some l := by
  have h : ∃ l' : List α, l.flatMap c = l'.flatMap c := ⟨l, rfl⟩
  unfold unflat
  rw [dif_pos h]
  congr 1
  exact (flat_inj hc hn hi h.choose_spec).symm
theorem unflat_some {α : Type} {c : α → List TV} {cs : List TV} {l : List α} (h : unflat c cs = some l) : cs = l.flatMap c := by
  unfold unflat at h
  split at h
  · rename_i hc; cases h; exact hc.choose_spec
  · cases h
theorem unints_some {cs : List TV} {l : List Int} (h : unints cs = some l) : cs = ints l := by
  unfold unints at h
  split at h
  · rename_i hc; cases h; exact hc.choose_spec
  · cases h

/-- A row of structs. -/
def IsRow {α : Type} (c : α → List TV) (s : TV) (l : List α) : Prop := (s = .nilSl ∧ l = []) ∨ ∃ full, s = .sl (l.flatMap c) l.length full
noncomputable def rowL {α : Type} (un : List TV → Option (List α)) : TV → Option (List α)
  | .nilSl => un []
  | .sl cs n _ => match un cs with
    | some l => if n = l.length then some l else none
    | none => none
  | _ => none
attribute [go_sem] rowL
theorem rowL_some {α : Type} {c : α → List TV} {un : List TV → Option (List α)} (h0 : un [] = some []) (hu : ∀ {cs l}, un cs = some l → cs = l.flatMap c) {s : TV} {l : List α} (h : rowL un s = some l) : IsRow c s l := by
  unfold rowL at h
  split at h
  · rw [h0] at h; cases h; exact .inl ⟨rfl, rfl⟩
  · split at h
    · rename_i l' hl
      split at h
      · rename_i hn
        cases h
        have := hu hl
        subst this; subst hn
        exact .inr ⟨_, rfl⟩
      · cases h
    · cases h
  · cases h
theorem IsRow.ne {α : Type} {c : α → List TV} {s : TV} {l : List α} (h : IsRow c s l) (hl : 1 ≤ l.length) : ∃ full, s = .sl (l.flatMap c) l.length full := by
  rcases h with ⟨_, rfl⟩ | h
  · simp at hl
  · exact h

theorem get_lt {α : Type} {l : List α} {k : Nat} (h : (k : Int) < (l.length : Int)) : ∃ x, l[k]? = some x := ⟨l[k]'(by omega), List.getElem?_eq_getElem (by omega)⟩
theorem take_all {α : Type} (p : α → Bool) {l : List α} {k : Nat} {x : α} (h : l[k]? = some x) : (l.take (k + 1)).all p = ((l.take k).all p && p x) := by
  rw [List.take_add_one, h]; simp
theorem take_snoc {α : Type} {l : List α} {k : Nat} {x : α} (h : l[k]? = some x) : l.take (k + 1) = l.take k ++ [x] := by
  rw [List.take_add_one, h]; rfl
theorem all_of_take {α : Type} {p : α → Bool} {l : List α} {k : Nat} (h : (l.take k).all p = false) : l.all p = false := by
  rw [← List.take_append_drop k l, List.all_append, h]; rfl

/-- May the first list stand before the second one? -/
def before : List Int → List Int → Bool
  | [], [] => false
  | [], _ :: _ => true
  | _ :: _, [] => false
  | x :: a, y :: b => if x < y then true else if y < x then false else before a b
def risingB : Int → List Int → Int → Bool
  | _, [], _ => true
  | lo, x :: l, hi => decide (lo ≤ x) && decide (x < hi) && risingB (x + 1) l hi
/-- The numbers of a set, below another one. -/
def members (set below : Nat) : List Int := ((List.range below).filter set.testBit).map Int.ofNat
end Go.Oc

/- Part Hp. -/
namespace Go.Oh
open Go Go.Pm Go.Oc

/-- One number, as cells. -/
def ic (n : Int) : List TV := [.int .i64 n]
theorem ic_ints (l : List Int) : l.flatMap ic = ints l := by
  induction l with
  | nil => rfl
  | cons x l ih => rw [List.flatMap_cons, ih]; rfl
noncomputable def unI (cs : List TV) : Option (List Int) := unflat ic cs
theorem unI_ic (l : List Int) : unI (l.flatMap ic) = some l := unflat_eq (n := 1) (fun _ => rfl) (by decide) (fun x y h => by simpa [ic] using h) l
theorem unI_eq (l : List Int) : unI (ints l) = some l := by rw [← ic_ints]; exact unI_ic l
theorem unI_nil : unI [] = some [] := unI_ic []
theorem unI_some {cs : List TV} {l : List Int} (h : unI cs = some l) : cs = l.flatMap ic := unflat_some h
noncomputable def unS (cs : List TV) : Option (List Span) := unflat Span.cs cs
theorem unS_eq (l : List Span) : unS (l.flatMap Span.cs) = some l := unflat_eq (n := 2) (fun _ => rfl) (by decide) (fun x y h => by
  obtain ⟨a, b⟩ := x; obtain ⟨c, d⟩ := y
  simp only [Span.cs, List.cons.injEq, TV.int.injEq, true_and, and_true] at h
  rw [h.1, h.2]) l
theorem unS_nil : unS [] = some [] := unS_eq []
theorem unS_some {cs : List TV} {l : List Span} (h : unS cs = some l) : cs = l.flatMap Span.cs := unflat_some h
theorem rowS_is {s : TV} {l : List Span} (h : IsRow Span.cs s l) : rowL unS s = some l := by
  rcases h with ⟨rfl, rfl⟩ | ⟨f, rfl⟩
  · exact unS_nil
  · simp [rowL, unS_eq]
theorem rowI_is {s : TV} {l : List Int} (h : IsRow ic s l) : rowL unI s = some l := by
  rcases h with ⟨rfl, rfl⟩ | ⟨f, rfl⟩
  · exact unI_nil
  · simp [rowL, unI_ic]
attribute [go_sem] unS_eq unI_eq unI_ic unS_nil unI_nil
theorem ints_snoc (l : List Int) (x : Int) : ints (l ++ [x]) = ints l ++ [.int .i64 x] := by simp [ints]
/-- A row as it is handed back. -/
def rowI (l : List Int) : TV := if l.length = 0 then .nilSl else .sl (ints l) l.length false
theorem rowI_row (l : List Int) : IsRow ic (rowI l) l := by
  unfold rowI
  split
  · rename_i h; exact .inl ⟨rfl, List.length_eq_zero_iff.1 h⟩
  · exact .inr ⟨false, by rw [ic_ints]⟩
theorem rowI_ne {l : List Int} (h : l.length ≠ 0) : rowI l = .sl (ints l) l.length false := by unfold rowI; rw [if_neg h]
def rowSp (l : List Span) : TV := if l.length = 0 then .nilSl else .sl (l.flatMap Span.cs) l.length false
theorem rowSp_row (l : List Span) : IsRow Span.cs (rowSp l) l := by
  unfold rowSp
  split
  · rename_i h; exact .inl ⟨rfl, List.length_eq_zero_iff.1 h⟩
  · exact .inr ⟨false, rfl⟩
/-- The element of a list at a place. -/
def nth (l : List Int) (i : Int) : Int := l.getD i.toNat 0
theorem nth_eq {l : List Int} {k : Nat} {x : Int} (h : l[k]? = some x) : nth l (k : Int) = x := by
  unfold nth; rw [List.getD_eq_getElem?_getD, Int.toNat_natCast, h]; rfl
def pickI (l : List Int) (n : Int) : Int := if l.length = 0 then 0 else nth l (n % l.length)
theorem before_end : ∀ {a b : List Int}, a = [] ∨ b = [] → before a b = decide (a.length < b.length)
  | [], [], _ => rfl
  | [], _ :: _, _ => by simp [before]
  | _ :: _, [], _ => by simp [before]
  | _ :: _, _ :: _, h => by rcases h with h | h <;> cases h

/-- A row of places, as numbers. -/
def nI (S : List Nat) : List Int := S.map Int.ofNat
theorem before_irrefl : ∀ a : List Int, before a a = false
  | [] => rfl
  | x :: a => by simp [before, before_irrefl a]
theorem before_trans : ∀ {a b c : List Int}, before a b = true → before b c = true → before a c = true
  | [], [], _, h, _ => by cases h
  | [], _ :: _, [], _, h => by cases h
  | [], _ :: _, _ :: _, _, _ => rfl
  | _ :: _, [], _, h, _ => by cases h
  | _ :: _, _ :: _, [], _, h => by cases h
  | x :: a, y :: b, z :: c, h1, h2 => by
    simp only [before] at h1 h2 ⊢
    by_cases hxy : x < y
    · by_cases hyz : y < z
      · rw [if_pos (show x < z by omega)]
      · rw [if_neg hyz] at h2
        by_cases hzy : z < y
        · rw [if_pos hzy] at h2; cases h2
        · rw [if_pos (show x < z by omega)]
    · rw [if_neg hxy] at h1
      by_cases hyx : y < x
      · rw [if_pos hyx] at h1; cases h1
      · rw [if_neg hyx] at h1
        have : x = y := by omega
        subst this
        by_cases hyz : x < z
        · rw [if_pos hyz]
        · rw [if_neg hyz] at h2 ⊢
          by_cases hzy : z < x
          · rw [if_pos hzy] at h2; cases h2
          · rw [if_neg hzy] at h2 ⊢
            exact before_trans h1 h2
theorem before_total : ∀ {a b : List Int}, a.length = b.length → before a b = false → before b a = false → a = b
  | [], [], _, _, _ => rfl
  | [], _ :: _, h, _, _ => by simp at h
  | _ :: _, [], h, _, _ => by simp at h
  | x :: a, y :: b, h, h1, h2 => by
    simp only [before] at h1 h2
    have hxy : ¬ x < y := fun h' => by rw [if_pos h'] at h1; cases h1
    have hyx : ¬ y < x := fun h' => by rw [if_pos h'] at h2; cases h2
    rw [if_neg hxy, if_neg hyx] at h1
    rw [if_neg hyx, if_neg hxy] at h2
    have : x = y := by omega
    subst this
    rw [before_total (by simpa using h) h1 h2]
theorem before_append (c : List Int) {a b : List Int} : before (c ++ a) (c ++ b) = before a b := by
  induction c with
  | nil => rfl
  | cons x c ih => simp only [List.cons_append, before, if_neg (Int.lt_irrefl x)]; exact ih
/-- Is the first row better than the second one? -/
def bet (a b : List Int) : Prop := a.length < b.length ∨ a.length = b.length ∧ before a b = true
theorem bet_irrefl (a : List Int) : ¬ bet a a := by
  rintro (h | ⟨_, h⟩)
  · omega
  · rw [before_irrefl] at h; cases h
theorem bet_trans {a b c : List Int} (h1 : bet a b) (h2 : bet b c) : bet a c := by
  rcases h1 with h1 | ⟨h1, g1⟩ <;> rcases h2 with h2 | ⟨h2, g2⟩
  · exact .inl (by omega)
  · exact .inl (by omega)
  · exact .inl (by omega)
  · exact .inr ⟨by omega, before_trans g1 g2⟩
theorem bet_total {a b : List Int} (h1 : ¬ bet a b) (h2 : ¬ bet b a) : a = b := by
  unfold bet at h1 h2
  have hl : a.length = b.length := by omega
  refine before_total hl ?_ ?_
  · cases h : before a b with
    | false => rfl
    | true => exact absurd (.inr ⟨hl, h⟩) h1
  · cases h : before b a with
    | false => rfl
    | true => exact absurd (.inr ⟨hl.symm, h⟩) h2

/-- A row of places below n, increasing. -/
def rowN (n : Nat) (S : List Nat) : Prop := ∃ p : Nat → Bool, S = (List.range n).filter p
/-- The first of the least rows that are bad. -/
structure Least (bad : List Nat → Bool) (n : Nat) (S : List Nat) : Prop where
  row : rowN n S
  ne : S ≠ []
  isBad : bad S = true
  min : ∀ S', rowN n S' → S' ≠ [] → bad S' = true → ¬ bet (nI S') (nI S)
theorem nI_inj {a b : List Nat} (h : nI a = nI b) : a = b := by
  unfold nI at h
  exact List.map_inj_right (fun _ _ h => Int.ofNat.inj h) |>.1 h
theorem least_one {bad : List Nat → Bool} {n : Nat} {S S' : List Nat} (h : Least bad n S) (h' : Least bad n S') : S = S' :=
  nI_inj (bet_total (h'.min S h.row h.ne h.isBad) (h.min S' h'.row h'.ne h'.isBad))
theorem range_sorted (n : Nat) (p : Nat → Bool) : ((List.range n).filter p).Pairwise (· < ·) := List.pairwise_lt_range.filter p
theorem sorted_mem_ext {a b : List Nat} (ha : a.Pairwise (· < ·)) (hb : b.Pairwise (· < ·)) (h : ∀ x, x ∈ a ↔ x ∈ b) : a = b := by
  induction a generalizing b with
  | nil =>
    cases b with
    | nil => rfl
    | cons y b => have := (h y).2 (by simp); cases this
  | cons x a ih =>
    cases b with
    | nil => have := (h x).1 (by simp); cases this
    | cons y b =>
      rw [List.pairwise_cons] at ha hb
      have hx := (h x).1 (by simp)
      have hy := (h y).2 (by simp)
      have hxy : x = y := by
        rcases List.mem_cons.1 hx with hx | hx
        · exact hx
        · rcases List.mem_cons.1 hy with hy | hy
          · exact hy.symm
          · have := ha.1 y hy; have := hb.1 x hx; omega
      subst hxy
      rw [ih ha.2 hb.2 fun z => ?_]
      have hz := h z
      simp only [List.mem_cons] at hz
      constructor
      · intro hza
        have := ha.1 z hza
        rcases hz.1 (.inr hza) with rfl | h
        · omega
        · exact h
      · intro hzb
        have := hb.1 z hzb
        rcases hz.2 (.inr hzb) with rfl | h
        · omega
        · exact h
/-- A row is one that is increasing and below n. -/
theorem rowN_iff {n : Nat} {S : List Nat} : rowN n S ↔ S.Pairwise (· < ·) ∧ ∀ x ∈ S, x < n := by
  constructor
  · rintro ⟨p, rfl⟩
    exact ⟨range_sorted n p, fun x hx => List.mem_range.1 (List.mem_filter.1 hx).1⟩
  · rintro ⟨h1, h2⟩
    refine ⟨fun x => decide (x ∈ S), sorted_mem_ext h1 (range_sorted n _) fun x => ?_⟩
    simp only [List.mem_filter, List.mem_range, decide_eq_true_eq]
    exact ⟨fun h => ⟨h2 x h, h⟩, fun h => h.2⟩
/-- More places, from fr on. -/
structure More (n fr m : Nat) (J : List Nat) : Prop where
  len : J.length = m
  inc : J.Pairwise (· < ·)
  lo : ∀ x ∈ J, fr ≤ x
  hi : ∀ x ∈ J, x < n
/-- The search: found, and what was looked at last. -/
def cho (n : Nat) (bad : List Nat → Bool) : Nat → List Nat → Nat → List Nat → Bool × List Nat
  | 0, S, _, _ => (bad S, S)
  | m + 1, S, fr, o => (List.range' fr (n - fr)).foldl (fun acc i => if acc.1 then acc else cho n bad m (S ++ [i]) (i + 1) acc.2) (false, o)
def choTo (n : Nat) (bad : List Nat → Bool) (m : Nat) (S : List Nat) (fr : Nat) (o : List Nat) (j : Nat) : Bool × List Nat := (List.range' fr j).foldl (fun acc i => if acc.1 then acc else cho n bad m (S ++ [i]) (i + 1) acc.2) (false, o)
theorem cho_succ (n : Nat) (bad : List Nat → Bool) (m : Nat) (S : List Nat) (fr : Nat) (o : List Nat) : cho n bad (m + 1) S fr o = choTo n bad m S fr o (n - fr) := rfl
theorem choTo_succ {n : Nat} {bad : List Nat → Bool} {m : Nat} {S : List Nat} {fr : Nat} {o : List Nat} {j : Nat} (h : (choTo n bad m S fr o j).1 = false) :
    choTo n bad m S fr o (j + 1) = cho n bad m (S ++ [fr + j]) (fr + j + 1) (choTo n bad m S fr o j).2 := by
  unfold choTo at h ⊢
  rw [List.range'_1_concat, List.foldl_append]
  simp only [List.foldl_cons, List.foldl_nil]
  rw [if_neg (by rw [h]; simp)]
theorem choTo_stop {n : Nat} {bad : List Nat → Bool} {m : Nat} {S : List Nat} {fr : Nat} {o : List Nat} {j : Nat} (h : (choTo n bad m S fr o j).1 = true) : ∀ d, choTo n bad m S fr o (j + d) = choTo n bad m S fr o j
  | 0 => rfl
  | d + 1 => by
    have ih := choTo_stop h d
    rw [← Nat.add_assoc]
    unfold choTo at h ih ⊢
    rw [List.range'_1_concat, List.foldl_append, ih]
    simp only [List.foldl_cons, List.foldl_nil]
    rw [if_pos h]
/-- What the search has come to behind so many sizes. -/
def falT (n : Nat) (bad : List Nat → Bool) : Nat → Bool × List Nat
  | 0 => (false, [])
  | k + 1 => if (falT n bad k).1 then falT n bad k else cho n bad (k + 1) [] 0 (falT n bad k).2
theorem falT_stop {n : Nat} {bad : List Nat → Bool} {k : Nat} (h : (falT n bad k).1 = true) : ∀ d, falT n bad (k + d) = falT n bad k
  | 0 => rfl
  | d + 1 => by
    have ih := falT_stop h d
    rw [← Nat.add_assoc, falT, ih, if_pos h]
theorem falT_next {n : Nat} {bad : List Nat → Bool} {k : Nat} (h : (falT n bad k).1 = false) : falT n bad (k + 1) = cho n bad (k + 1) [] 0 (falT n bad k).2 := by
  rw [falT, if_neg (by rw [h]; simp)]
structure Found (bad : List Nat → Bool) (n fr m : Nat) (St out J : List Nat) : Prop where
  more : More n fr m J
  isBad : bad (St ++ J) = true
  out : out = St ++ J
  first : ∀ J', More n fr m J' → bad (St ++ J') = true → before (nI J') (nI J) = false
theorem cho_found {n : Nat} {bad : List Nat → Bool} : ∀ (m : Nat) (S : List Nat) (fr : Nat) (o : List Nat),
    ((cho n bad m S fr o).1 = true → ∃ J, Found bad n fr m S (cho n bad m S fr o).2 J) ∧
    ((cho n bad m S fr o).1 = false → ∀ J, More n fr m J → bad (S ++ J) = false)
  | 0, S, fr, o => by
    have nilJ : ∀ J, More n fr 0 J → J = [] := fun J hJ => List.length_eq_zero_iff.1 hJ.len
    constructor
    · intro h
      simp only [cho] at h ⊢
      refine ⟨[], ⟨⟨rfl, List.Pairwise.nil, by simp, by simp⟩, by rw [List.append_nil]; exact h, by rw [List.append_nil], ?_⟩⟩
      intro J' hJ' _; rw [nilJ J' hJ']; rfl
    · intro h J hJ
      simp only [cho] at h
      rw [nilJ J hJ, List.append_nil]; exact h
  | m + 1, S, fr, o => by
    rw [cho_succ]
    have key : ∀ j, fr + j ≤ n ∨ j = 0 →
        ((choTo n bad m S fr o j).1 = true → ∃ J, Found bad n fr (m + 1) S (choTo n bad m S fr o j).2 J) ∧
        ((choTo n bad m S fr o j).1 = false → ∀ J, More n fr (m + 1) J → (∃ x J', J = x :: J' ∧ x < fr + j) → bad (S ++ J) = false) := by
      intro j
      induction j with
      | zero =>
        intro _
        refine ⟨fun h => (by cases h), fun _ J hJ ⟨x, J', e, hx⟩ => ?_⟩
        have := hJ.lo x (by rw [e]; simp)
        omega
      | succ j ih =>
        intro hj
        have hj' : fr + j < n := by omega
        obtain ⟨ih1, ih2⟩ := ih (by omega)
        cases hf : (choTo n bad m S fr o j).1 with
        | true =>
          have e : choTo n bad m S fr o (j + 1) = choTo n bad m S fr o j := choTo_stop hf 1
          rw [e]
          exact ⟨ih1, fun h => by rw [hf] at h; cases h⟩
        | false =>
          rw [choTo_succ hf]
          have hrec := cho_found (bad := bad) (n := n) m (S ++ [fr + j]) (fr + j + 1) (choTo n bad m S fr o j).2
          constructor
          · intro h
            obtain ⟨J, hJ⟩ := hrec.1 h
            refine ⟨(fr + j) :: J, ⟨⟨by simp [hJ.more.len], ?_, ?_, ?_⟩, ?_, ?_, ?_⟩⟩
            · exact List.pairwise_cons.2 ⟨fun x hx => by have := hJ.more.lo x hx; omega, hJ.more.inc⟩
            · intro x hx
              rcases List.mem_cons.1 hx with rfl | hx
              · omega
              · have := hJ.more.lo x hx; omega
            · intro x hx
              rcases List.mem_cons.1 hx with rfl | hx
              · omega
              · exact hJ.more.hi x hx
            · have := hJ.isBad; rwa [List.append_assoc] at this
            · rw [hJ.out, List.append_assoc]; rfl
            · intro J' hJ' hb
              match J', hJ' with
              | [], hJ' => have := hJ'.len; simp at this
              | x :: J', hJ' =>
                have hx := hJ'.lo x (by simp)
                have hlt : ¬ x < fr + j := fun hlt => by rw [ih2 hf _ hJ' ⟨x, J', rfl, hlt⟩] at hb; cases hb
                show before ((x : Int) :: nI J') (((fr + j : Nat) : Int) :: nI J) = false
                simp only [before]
                rw [if_neg (by omega)]
                by_cases hgt : x = fr + j
                · subst hgt
                  rw [if_neg (by omega)]
                  have hp := List.pairwise_cons.1 hJ'.inc
                  refine hJ.first J' ⟨by have := hJ'.len; simpa using this, hp.2, fun y hy => by have := hp.1 y hy; omega, fun y hy => hJ'.hi y (List.mem_cons_of_mem _ hy)⟩ ?_
                  rw [List.append_assoc]; exact hb
                · rw [if_pos (by omega)]
          · intro h J hJ ⟨x, J', e, hx⟩
            subst e
            by_cases hxj : x = fr + j
            · subst hxj
              have hp := List.pairwise_cons.1 hJ.inc
              have := hrec.2 h J' ⟨by have := hJ.len; simpa using this, hp.2, fun y hy => by have := hp.1 y hy; omega, fun y hy => hJ.hi y (List.mem_cons_of_mem _ hy)⟩
              rw [List.append_assoc] at this; exact this
            · exact ih2 hf _ hJ ⟨x, J', rfl, by omega⟩
    have k := key (n - fr) (by omega)
    refine ⟨k.1, fun h J hJ => ?_⟩
    match J, hJ with
    | [], hJ => have := hJ.len; simp at this
    | x :: J', hJ =>
      have h1 := hJ.hi x (by simp)
      have h2 := hJ.lo x (by simp)
      exact k.2 h _ hJ ⟨x, J', rfl, by omega⟩
/-- What the search comes to, behind so many sizes. -/
theorem falT_law {n : Nat} {bad : List Nat → Bool} : ∀ k, k ≤ n →
    ((falT n bad k).1 = true → ∃ S, Least bad n S ∧ (falT n bad k).2 = S) ∧
    ((falT n bad k).1 = false → ∀ S, rowN n S → S ≠ [] → S.length ≤ k → bad S = false)
  | 0, _ => ⟨fun h => (by cases h), fun _ S hS hne hl => absurd (List.length_eq_zero_iff.1 (show S.length = 0 by omega)) hne⟩
  | k + 1, hk => by
    obtain ⟨ih1, ih2⟩ := falT_law (n := n) (bad := bad) k (by omega)
    cases hf : (falT n bad k).1 with
    | true =>
      have e : falT n bad (k + 1) = falT n bad k := falT_stop hf 1
      rw [e]
      exact ⟨ih1, fun h => by rw [hf] at h; cases h⟩
    | false =>
      rw [falT_next hf]
      have c := cho_found (bad := bad) (n := n) (k + 1) [] 0 (falT n bad k).2
      have toMore : ∀ S, rowN n S → S.length = k + 1 → More n 0 (k + 1) S := fun S hS hl => ⟨hl, (rowN_iff.1 hS).1, fun x _ => Nat.zero_le x, (rowN_iff.1 hS).2⟩
      constructor
      · intro h
        obtain ⟨J, hJ⟩ := c.1 h
        have hb : bad J = true := hJ.isBad
        refine ⟨J, ⟨rowN_iff.2 ⟨hJ.more.inc, hJ.more.hi⟩, ?_, hb, fun S' hS' hne' hb' hbet => ?_⟩, hJ.out⟩
        · intro h0
          have := hJ.more.len
          rw [h0] at this; simp at this
        · have l1 : (nI S').length = S'.length := List.length_map _
          have l2 : (nI J).length = k + 1 := by rw [nI, List.length_map, hJ.more.len]
          rcases hbet with hlt | ⟨heq, hbf⟩
          · rw [ih2 hf S' hS' hne' (by omega)] at hb'; cases hb'
          · have := hJ.first S' (toMore S' hS' (by omega)) hb'
            rw [this] at hbf; cases hbf
      · intro h S hS hne hl
        by_cases hlk : S.length ≤ k
        · exact ih2 hf S hS hne hlk
        · exact c.2 h S (toMore S hS (by omega))
theorem rowN_len {n : Nat} {S : List Nat} (h : rowN n S) : S.length ≤ n := by
  obtain ⟨p, rfl⟩ := h
  have := List.length_filter_le p (List.range n)
  simpa using this
theorem row_all (n : Nat) : rowN n (List.range n) := ⟨fun _ => true, (List.filter_eq_self.2 (fun _ _ => rfl)).symm⟩
/-- The specification's search: what it has come to behind so many sets. -/
def refStep (bad : List Nat → Bool) (n : Nat) (best : List Nat) (set : Nat) : List Nat :=
  let S := (List.range n).filter set.testBit
  if bad S then (if best.length = 0 ∨ S.length < best.length ∨ S.length = best.length ∧ before (nI S) (nI best) = true then S else best) else best
def refTo (bad : List Nat → Bool) (n k : Nat) : List Nat := (List.range' 1 k).foldl (refStep bad n) []
theorem refTo_succ (bad : List Nat → Bool) (n k : Nat) : refTo bad n (k + 1) = refStep bad n (refTo bad n k) (k + 1) := by
  unfold refTo
  rw [List.range'_1_concat, List.foldl_append, Nat.add_comm 1 k]; rfl
def setN (n s : Nat) : List Nat := (List.range n).filter s.testBit
theorem setN_ne {n s : Nat} (h1 : 1 ≤ s) (h2 : s < 2 ^ n) : setN n s ≠ [] := by
  intro h
  unfold setN at h
  rw [List.filter_eq_nil_iff] at h
  have : s = 0 := by
    apply Nat.eq_of_testBit_eq
    intro i
    rw [Nat.zero_testBit]
    by_cases hi : i < n
    · have := h i (List.mem_range.2 hi)
      simpa using this
    · exact Nat.testBit_lt_two_pow (Nat.lt_of_lt_of_le h2 (Nat.pow_le_pow_right (by omega) (by omega)))
  omega
theorem set_of (p : Nat → Bool) : ∀ n : Nat, ∃ s, s < 2 ^ n ∧ ∀ i, i < n → s.testBit i = p i
  | 0 => ⟨0, by simp, fun i h => by omega⟩
  | n + 1 => by
    obtain ⟨s, h1, h2⟩ := set_of p n
    have hlt : s < 2 ^ (n + 1) := Nat.lt_of_lt_of_le h1 (Nat.pow_le_pow_right (by omega) (by omega))
    cases hp : p n with
    | false =>
      refine ⟨s, hlt, fun i hi => ?_⟩
      by_cases hin : i = n
      · subst hin; rw [hp]; exact Nat.testBit_lt_two_pow h1
      · exact h2 i (by omega)
    | true =>
      refine ⟨s ||| 2 ^ n, Nat.or_lt_two_pow hlt (Nat.pow_lt_pow_right (by omega) (by omega)), fun i hi => ?_⟩
      rw [Nat.testBit_or, Nat.testBit_two_pow]
      by_cases hin : i = n
      · subst hin; simp [hp]
      · rw [h2 i (by omega)]
        have : decide (n = i) = false := by simp; omega
        rw [this, Bool.or_false]
theorem setN_of {n : Nat} {S : List Nat} (h : rowN n S) (hne : S ≠ []) : ∃ s, 1 ≤ s ∧ s < 2 ^ n ∧ setN n s = S := by
  obtain ⟨p, rfl⟩ := h
  obtain ⟨s, h1, h2⟩ := set_of p n
  have e : setN n s = (List.range n).filter p := List.filter_congr fun i hi => h2 i (List.mem_range.1 hi)
  refine ⟨s, ?_, h1, e⟩
  rcases Nat.eq_zero_or_pos s with h0 | h0
  · exfalso; apply hne
    rw [← e, h0]
    unfold setN
    rw [List.filter_eq_nil_iff]
    intro i _; simp
  · exact h0
theorem setN_t {k s : Nat} (h : s.testBit k = true) : setN (k + 1) s = setN k s ++ [k] := by simp [setN, List.range_succ, List.filter_append, h]
theorem setN_f {k s : Nat} (h : s.testBit k = false) : setN (k + 1) s = setN k s := by simp [setN, List.range_succ, List.filter_append, h]
theorem setN_len (k s : Nat) : (setN k s).length ≤ k := by
  have := List.length_filter_le s.testBit (List.range k)
  simpa [setN] using this
theorem nI_snoc (S : List Nat) (k : Nat) : nI (S ++ [k]) = nI S ++ [(k : Int)] := by simp [nI]
theorem nI_len (S : List Nat) : (nI S).length = S.length := List.length_map _

theorem refTo_law (bad : List Nat → Bool) (n : Nat) : ∀ k, k < 2 ^ n →
    (refTo bad n k = [] ∧ ∀ s, 1 ≤ s → s ≤ k → setN n s ≠ [] → bad (setN n s) = false) ∨
    (refTo bad n k ≠ [] ∧ rowN n (refTo bad n k) ∧ bad (refTo bad n k) = true ∧ ∀ s, 1 ≤ s → s ≤ k → setN n s ≠ [] → bad (setN n s) = true → ¬ bet (nI (setN n s)) (nI (refTo bad n k)))
  | 0, _ => .inl ⟨rfl, fun s h1 h2 => by omega⟩
  | k + 1, hk => by
    have ih := refTo_law bad n k (by omega)
    rw [refTo_succ]
    unfold refStep
    simp only
    rw [show (List.range n).filter (k + 1).testBit = setN n (k + 1) from rfl]
    have nl : ∀ S : List Nat, (nI S).length = S.length := fun S => List.length_map _
    cases hb : bad (setN n (k + 1)) with
    | false =>
      rw [if_neg (by simp)]
      rcases ih with ⟨e, h⟩ | ⟨e, h1, h2, h⟩
      · refine .inl ⟨e, fun s a b hne => ?_⟩
        by_cases hs : s = k + 1
        · subst hs; exact hb
        · exact h s a (by omega) hne
      · refine .inr ⟨e, h1, h2, fun s a b hne hb' => ?_⟩
        by_cases hs : s = k + 1
        · subst hs; rw [hb] at hb'; cases hb'
        · exact h s a (by omega) hne hb'
    | true =>
      rw [if_pos rfl]
      have hrow : rowN n (setN n (k + 1)) := ⟨_, rfl⟩
      by_cases hc : (refTo bad n k).length = 0 ∨ (setN n (k + 1)).length < (refTo bad n k).length ∨ (setN n (k + 1)).length = (refTo bad n k).length ∧ before (nI (setN n (k + 1))) (nI (refTo bad n k)) = true
      · rw [if_pos hc]
        have hne : setN n (k + 1) ≠ [] := setN_ne (by omega) hk
        refine .inr ⟨hne, hrow, hb, fun s a b hne' hb' hbet => ?_⟩
        by_cases hs : s = k + 1
        · subst hs; exact bet_irrefl _ hbet
        · rcases ih with ⟨e, h⟩ | ⟨e, h1, h2, h⟩
          · rw [h s a (by omega) hne'] at hb'; cases hb'
          · refine h s a (by omega) hne' hb' (bet_trans hbet ?_)
            rcases hc with h0 | h0 | h0
            · exact absurd (List.length_eq_zero_iff.1 h0) e
            · exact .inl (by rw [nl, nl]; exact h0)
            · exact .inr ⟨by rw [nl, nl]; exact h0.1, h0.2⟩
      · rw [if_neg hc]
        rcases ih with ⟨e, h⟩ | ⟨e, h1, h2, h⟩
        · exact absurd (.inl (by rw [e]; rfl)) hc
        · refine .inr ⟨e, h1, h2, fun s a b hne hb' hbet => ?_⟩
          by_cases hs : s = k + 1
          · subst hs
            rcases hbet with h0 | h0
            · rw [nl, nl] at h0; exact hc (.inr (.inl h0))
            · rw [nl, nl] at h0; exact hc (.inr (.inr h0))
          · exact h s a (by omega) hne hb' hbet
/-- BOTH SEARCHES COME TO THE SAME. -/
theorem searches (bad : List Nat → Bool) (n : Nat) :
    ((falT n bad n).1 = false ∧ refTo bad n (2 ^ n - 1) = [] ∧ ∀ S, rowN n S → S ≠ [] → bad S = false) ∨
    ((falT n bad n).1 = true ∧ ∃ S, Least bad n S ∧ (falT n bad n).2 = S ∧ refTo bad n (2 ^ n - 1) = S) := by
  have hpos : 0 < 2 ^ n := Nat.pow_pos (by omega)
  have r := refTo_law bad n (2 ^ n - 1) (by omega)
  have c := falT_law (bad := bad) n (Nat.le_refl n)
  cases hf : (falT n bad n).1 with
  | false =>
    have hall : ∀ S, rowN n S → S ≠ [] → bad S = false := fun S hS hne => c.2 hf S hS hne (rowN_len hS)
    refine .inl ⟨rfl, ?_, hall⟩
    rcases r with ⟨e, _⟩ | ⟨e, h1, h2, _⟩
    · exact e
    · rw [hall _ h1 e] at h2; cases h2
  | true =>
    obtain ⟨S, hS, e1⟩ := c.1 hf
    refine .inr ⟨rfl, S, hS, e1, ?_⟩
    rcases r with ⟨e, h⟩ | ⟨e, h1, h2, h⟩
    · obtain ⟨s, a, b, c⟩ := setN_of hS.row hS.ne
      have := h s a (by omega) (by rw [c]; exact hS.ne)
      rw [c, hS.isBad] at this; cases this
    · exact least_one ⟨h1, e, h2, fun S' r1 r2 r3 => by
        obtain ⟨s, a, b, c⟩ := setN_of r1 r2
        rw [← c]
        exact h s a (by omega) (by rw [c]; exact r2) (by rw [c]; exact r3)⟩ hS
/-- A smaller row than the least one is not bad. -/
theorem least_less {bad : List Nat → Bool} {n : Nat} {S : List Nat} (h : Least bad n S) {k : Nat} (hk : k < S.length) (h1 : 1 < S.length) : rowN n (S.eraseIdx k) ∧ S.eraseIdx k ≠ [] ∧ bad (S.eraseIdx k) = false := by
  have hr := rowN_iff.1 h.row
  have hl := List.length_eraseIdx_of_lt hk
  have hrow : rowN n (S.eraseIdx k) := rowN_iff.2 ⟨hr.1.sublist (List.eraseIdx_sublist S k), fun x hx => hr.2 x ((List.eraseIdx_sublist S k).mem hx)⟩
  have hne : S.eraseIdx k ≠ [] := fun e => by rw [e] at hl; simp at hl; omega
  refine ⟨hrow, hne, ?_⟩
  cases hb : bad (S.eraseIdx k) with
  | false => rfl
  | true =>
    refine absurd (.inl ?_) (h.min _ hrow hne hb)
    unfold nI
    rw [List.length_map, List.length_map, hl]; omega
/-- The elements at places. -/
def selA {α : Type} (l : List α) (S : List Nat) : List α := S.filterMap (l[·]?)
theorem selA_len {α : Type} {l : List α} : ∀ {S : List Nat}, (∀ x ∈ S, x < l.length) → (selA l S).length = S.length
  | [], _ => rfl
  | x :: S, h => by
    have hx := h x (by simp)
    unfold selA
    rw [List.filterMap_cons, List.getElem?_eq_getElem hx]
    simp only [List.length_cons]
    exact congrArg (· + 1) (selA_len (l := l) (S := S) fun y hy => h y (List.mem_cons_of_mem _ hy))
theorem selA_snoc {α : Type} {l : List α} {S : List Nat} {k : Nat} {x : α} (hx : l[k]? = some x) : selA l (S ++ [k]) = selA l S ++ [x] := by
  unfold selA; rw [List.filterMap_append]; simp [hx]
theorem selA_sub {α : Type} {l : List α} {S : List Nat} {x : α} (h : x ∈ selA l S) : x ∈ l := by
  obtain ⟨i, _, hi⟩ := List.mem_filterMap.1 h
  exact List.mem_of_getElem? hi
theorem selA_range {α : Type} (l : List α) : selA l (List.range l.length) = l := by
  have : ∀ k, k ≤ l.length → (List.range k).filterMap (l[·]?) = l.take k := by
    intro k
    induction k with
    | zero => intro _; simp
    | succ k ih =>
      intro hk
      rw [List.range_succ, List.filterMap_append, ih (by omega)]
      simp only [List.filterMap_cons, List.filterMap_nil]
      rw [List.getElem?_eq_getElem (by omega), List.take_add_one, List.getElem?_eq_getElem (by omega)]
      rfl
  unfold selA
  rw [this l.length (Nat.le_refl _), List.take_length]
/-- Numbers as places. -/
def toN (a : List Int) : List Nat := a.map Int.toNat
theorem toN_nI (S : List Nat) : toN (nI S) = S := by
  unfold toN nI
  rw [List.map_map]
  exact List.map_id S
noncomputable def rowB (n : Nat) (S : List Nat) : Bool := @decide (rowN n S) (Classical.propDecidable _)
theorem rowB_t {n : Nat} {S : List Nat} (h : rowN n S) : rowB n S = true := by unfold rowB; exact @decide_eq_true _ (Classical.propDecidable _) h
theorem rowB_of {n : Nat} {S : List Nat} (h : rowB n S = true) : rowN n S := by unfold rowB at h; exact @of_decide_eq_true _ (Classical.propDecidable _) h
theorem nI_erase {S : List Nat} {k : Nat} : ints (nI (S.eraseIdx k)) = (ints (nI S)).take k ++ (ints (nI S)).drop (k + 1) := by
  unfold ints nI
  rw [List.eraseIdx_eq_take_drop_succ]
  simp only [List.map_append, List.map_take, List.map_drop]
end Go.Oh

/- Part Hb. -/
namespace Go.Proofs.Ytjmkccckohcfkaa
open Go.RowKit Go.Pm Go.Oc Go.Oh
set_option maxRecDepth 100000
set_option linter.unusedVariables false
set_option maxHeartbeats 1000000

/-- Cells that are trees. -/
@[go_sem] theorem map_ren_t (ids : List Nat) (cs : List TV) : List.map (PV.ren ids) (List.map PV.t cs) = List.map PV.t cs := by rw [List.map_map]; rfl
@[go_sem] theorem map_inv_t (ids : List Nat) (cs : List TV) : List.map (PV.inv ids) (List.map PV.t cs) = List.map PV.t cs := by rw [List.map_map]; rfl
@[go_sem] theorem all_under_t (k : Nat) (cs : List TV) : (List.map PV.t cs).all (PV.under k) = true := by rw [List.all_map, List.all_eq_true]; intro x _; rfl
@[go_sem] theorem cellsW_t (l : List PO) : ∀ cs : List TV, cellsW l (List.map PV.t cs) (List.map PV.t cs) = True
  | [] => by simp [cellsW]
  | c :: cs => by simp [cellsW, cellsW_t l cs, cellW, PV.toT]
@[go_sem] theorem flat_idsG_t (cs : List TV) : List.flatMap idsG (List.map PV.t cs) = [] := by
  induction cs with
  | nil => rfl
  | cons c cs ih => rw [List.map_cons, List.flatMap_cons, ih]; rfl
@[go_sem] theorem flat_idsP_t (cs : List TV) : List.flatMap idsP (List.map PV.t cs) = [] := by
  induction cs with
  | nil => rfl
  | cons c cs ih => rw [List.map_cons, List.flatMap_cons, ih]; rfl
theorem allO_toT : ∀ cs : List TV, allO (List.map PV.toT (List.map PV.t cs)) = some cs
  | [] => rfl
  | c :: cs => by rw [List.map_cons, List.map_cons]; simp only [PV.toT, allO, allO_toT cs]; rfl
theorem allO_thaw (h : Hp) : ∀ cs : List TV, allO (List.map (thawC h) (List.map PV.t cs)) = some cs
  | [] => rfl
  | c :: cs => by rw [List.map_cons, List.map_cons]; simp only [thawC, PV.toT, allO, allO_thaw h cs]; rfl
@[go_sem] theorem allO_thawA (h : Hp) (cs ds : List TV) : allO (List.map (thawC h) (List.map PV.t cs ++ List.map PV.t ds)) = some (cs ++ ds) := by rw [← List.map_append]; exact allO_thaw h _
attribute [go_sem] allO_toT allO_thaw

theorem hIn_c (n lo hi : Int) : PCalls Try.prog 33 [.int .i64 n, .int .i64 lo, .int .i64 hi] (.bool (inB n lo hi)) := by
  refine pcalls_by Try.mixes noSpec_ok (fn := Try.f33) Try.func33 rfl (by kernel_rfl) (by show 3 ≤ _; decide) ?_
  simp (decide := true) (maxSteps := 4000000) only [go_sem, Nat.reduceAdd, Nat.reduceSub, Nat.reduceMul, Nat.reduceDiv, Nat.reduceMod, Nat.reduceLT, Nat.reduceLeDiff, Nat.reduceEqDiff, Nat.reduceBEq, Nat.reduceBNe, Nat.reduceGT, Int.reduceAdd, Int.reduceSub, Int.reduceMul, Int.reduceNeg, Int.reduceLT, Int.reduceLE, Int.reduceEq, Int.reduceNe, Int.reduceBEq, Int.reduceBNe, Int.reduceToNat, Int.reduceGT, Int.reduceGE, ↓reduceIte, decide_true, decide_false, Try.f33, inB, ge_iff_le]
def hgIn : List TV → Option TV
  | [.int .i64 n, .int .i64 a, .int .i64 b] => some (.bool (inB n a b))
  | _ => none
theorem hgIn_ok : ∀ xs r, hgIn xs = some r → PCalls Try.prog 33 xs r := by
  intro xs r h
  unfold hgIn at h
  split at h
  · cases h; exact hIn_c _ _ _
  · cases h
noncomputable def spH1 : Pm.Spec := noSpec.one 33 hgIn
theorem spH1_ok : SpecOk Try.prog spH1 := Spec.one_ok hgIn_ok noSpec_ok
attribute [go_sem] hgIn
@[go_sem] theorem spH1_p (f : FuncId) (xs : List TV) : spH1.p f xs = Pm.Spec.p (noSpec.one 33 hgIn) f xs := rfl
@[go_sem] theorem spH1_h (f : FuncId) (ps : List PV) (hl : List PO) : spH1.h f ps hl = Pm.Spec.h (noSpec.one 33 hgIn) f ps hl := rfl
@[go_sem] theorem spH1_fz (f : FuncId) : spH1.fz f = Pm.Spec.fz (noSpec.one 33 hgIn) f := rfl
@[go_sem] theorem spH1_fr (f : FuncId) : spH1.fr f = Pm.Spec.fr (noSpec.one 33 hgIn) f := rfl
@[go_sem] theorem spH1_mu (t : TypeId) : spH1.mu t = Pm.Spec.mu (noSpec.one 33 hgIn) t := rfl
@[go_sem] theorem spH1_nf (t : TypeId) : spH1.nf t = Pm.Spec.nf (noSpec.one 33 hgIn) t := rfl
theorem hMod_c (n by_ : Int) (h : 0 < by_) (h2 : by_ ≤ 9223372036854775807) : PCalls Try.prog 42 [.int .i64 n, .int .i64 by_] (.int .i64 (n % by_)) := by
  refine pcalls_by Try.mixes noSpec_ok (fn := Try.f42) Try.func42 rfl (by kernel_rfl) (by show 2 ≤ _; decide) ?_
  have hne : ¬ by_ = 0 := by omega
  simp (decide := true) (maxSteps := 4000000) only [go_sem, Nat.reduceAdd, Nat.reduceSub, Nat.reduceMul, Nat.reduceDiv, Nat.reduceMod, Nat.reduceLT, Nat.reduceLeDiff, Nat.reduceEqDiff, Nat.reduceBEq, Nat.reduceBNe, Nat.reduceGT, Int.reduceAdd, Int.reduceSub, Int.reduceMul, Int.reduceNeg, Int.reduceLT, Int.reduceLE, Int.reduceEq, Int.reduceNe, Int.reduceBEq, Int.reduceBNe, Int.reduceToNat, Int.reduceGT, Int.reduceGE, ↓reduceIte, decide_true, decide_false, Try.f42, hne]
  have e := Int.tmod_eq_emod (a := n) (b := by_)
  have e1 := Int.emod_nonneg n hne
  have e2 := Int.emod_lt_of_pos n h
  by_cases hn : n.tmod by_ < 0
  · simp (decide := true) (maxSteps := 4000000) only [go_sem, Nat.reduceAdd, Nat.reduceSub, Nat.reduceMul, Nat.reduceDiv, Nat.reduceMod, Nat.reduceLT, Nat.reduceLeDiff, Nat.reduceEqDiff, Nat.reduceBEq, Nat.reduceBNe, Nat.reduceGT, Int.reduceAdd, Int.reduceSub, Int.reduceMul, Int.reduceNeg, Int.reduceLT, Int.reduceLE, Int.reduceEq, Int.reduceNe, Int.reduceBEq, Int.reduceBNe, Int.reduceToNat, Int.reduceGT, Int.reduceGE, ↓reduceIte, decide_true, decide_false, hn]
    have e3 : n.tmod by_ + by_ = n % by_ := by
      rw [e] at hn ⊢
      split at hn
      · omega
      · rename_i hc
        rw [if_neg hc]
        have : (by_.natAbs : Int) = by_ := by omega
        omega
    rw [e3, wrap_in (by omega) (by omega)]
  · simp (decide := true) (maxSteps := 4000000) only [go_sem, Nat.reduceAdd, Nat.reduceSub, Nat.reduceMul, Nat.reduceDiv, Nat.reduceMod, Nat.reduceLT, Nat.reduceLeDiff, Nat.reduceEqDiff, Nat.reduceBEq, Nat.reduceBNe, Nat.reduceGT, Int.reduceAdd, Int.reduceSub, Int.reduceMul, Int.reduceNeg, Int.reduceLT, Int.reduceLE, Int.reduceEq, Int.reduceNe, Int.reduceBEq, Int.reduceBNe, Int.reduceToNat, Int.reduceGT, Int.reduceGE, ↓reduceIte, decide_true, decide_false, hn]
    rw [e] at hn ⊢
    split at hn
    · rename_i hc; rw [if_pos hc]; simp
    · rename_i hc
      have : (by_.natAbs : Int) = by_ := by omega
      omega
def hgMod : List TV → Option TV
  | [.int .i64 n, .int .i64 b] => if 0 < b ∧ b ≤ 9223372036854775807 then some (.int .i64 (n % b)) else none
  | _ => none
theorem hgMod_ok : ∀ xs r, hgMod xs = some r → PCalls Try.prog 42 xs r := by
  intro xs r h
  unfold hgMod at h
  split at h
  · split at h
    · rename_i hc; cases h; exact hMod_c _ _ hc.1 hc.2
    · cases h
  · cases h
noncomputable def spH2 : Pm.Spec := spH1.one 42 hgMod
theorem spH2_ok : SpecOk Try.prog spH2 := Spec.one_ok hgMod_ok spH1_ok
attribute [go_sem] hgMod
@[go_sem] theorem spH2_p (f : FuncId) (xs : List TV) : spH2.p f xs = Pm.Spec.p (spH1.one 42 hgMod) f xs := rfl
@[go_sem] theorem spH2_h (f : FuncId) (ps : List PV) (hl : List PO) : spH2.h f ps hl = Pm.Spec.h (spH1.one 42 hgMod) f ps hl := rfl
@[go_sem] theorem spH2_fz (f : FuncId) : spH2.fz f = Pm.Spec.fz (spH1.one 42 hgMod) f := rfl
@[go_sem] theorem spH2_fr (f : FuncId) : spH2.fr f = Pm.Spec.fr (spH1.one 42 hgMod) f := rfl
@[go_sem] theorem spH2_mu (t : TypeId) : spH2.mu t = Pm.Spec.mu (spH1.one 42 hgMod) t := rfl
@[go_sem] theorem spH2_nf (t : TypeId) : spH2.nf t = Pm.Spec.nf (spH1.one 42 hgMod) t := rfl
theorem hAbs_c (n : Int) : PCalls Try.prog 49 [.int .i64 n] (.int .i64 (max n (IntKind.i64.wrap (0 - n)))) := by
  refine pcalls_by Try.mixes noSpec_ok (fn := Try.f49) Try.func49 rfl (by kernel_rfl) (by show 1 ≤ _; decide) ?_
  simp (decide := true) (maxSteps := 4000000) only [go_sem, Nat.reduceAdd, Nat.reduceSub, Nat.reduceMul, Nat.reduceDiv, Nat.reduceMod, Nat.reduceLT, Nat.reduceLeDiff, Nat.reduceEqDiff, Nat.reduceBEq, Nat.reduceBNe, Nat.reduceGT, Int.reduceAdd, Int.reduceSub, Int.reduceMul, Int.reduceNeg, Int.reduceLT, Int.reduceLE, Int.reduceEq, Int.reduceNe, Int.reduceBEq, Int.reduceBNe, Int.reduceToNat, Int.reduceGT, Int.reduceGE, ↓reduceIte, decide_true, decide_false, Try.f49]
def hgAbs : List TV → Option TV
  | [.int .i64 n] => some (.int .i64 (max n (IntKind.i64.wrap (0 - n))))
  | _ => none
theorem hgAbs_ok : ∀ xs r, hgAbs xs = some r → PCalls Try.prog 49 xs r := by
  intro xs r h
  unfold hgAbs at h
  split at h
  · cases h; exact hAbs_c _
  · cases h
noncomputable def spH3 : Pm.Spec := spH2.one 49 hgAbs
theorem spH3_ok : SpecOk Try.prog spH3 := Spec.one_ok hgAbs_ok spH2_ok
attribute [go_sem] hgAbs
@[go_sem] theorem spH3_p (f : FuncId) (xs : List TV) : spH3.p f xs = Pm.Spec.p (spH2.one 49 hgAbs) f xs := rfl
@[go_sem] theorem spH3_h (f : FuncId) (ps : List PV) (hl : List PO) : spH3.h f ps hl = Pm.Spec.h (spH2.one 49 hgAbs) f ps hl := rfl
@[go_sem] theorem spH3_fz (f : FuncId) : spH3.fz f = Pm.Spec.fz (spH2.one 49 hgAbs) f := rfl
@[go_sem] theorem spH3_fr (f : FuncId) : spH3.fr f = Pm.Spec.fr (spH2.one 49 hgAbs) f := rfl
@[go_sem] theorem spH3_mu (t : TypeId) : spH3.mu t = Pm.Spec.mu (spH2.one 49 hgAbs) t := rfl
@[go_sem] theorem spH3_nf (t : TypeId) : spH3.nf t = Pm.Spec.nf (spH2.one 49 hgAbs) t := rfl
theorem hSpanned_c (s : Span) (lo hi : Int) : PCalls Try.prog 41 [s.t, .int .i64 lo, .int .i64 hi] (.bool (spannedB s lo hi)) := by
  refine pcalls_by Try.mixes noSpec_ok (fn := Try.f41) Try.func41 rfl (by kernel_rfl) (by show 3 ≤ _; decide) ?_
  simp (decide := true) (maxSteps := 4000000) only [go_sem, Nat.reduceAdd, Nat.reduceSub, Nat.reduceMul, Nat.reduceDiv, Nat.reduceMod, Nat.reduceLT, Nat.reduceLeDiff, Nat.reduceEqDiff, Nat.reduceBEq, Nat.reduceBNe, Nat.reduceGT, Int.reduceAdd, Int.reduceSub, Int.reduceMul, Int.reduceNeg, Int.reduceLT, Int.reduceLE, Int.reduceEq, Int.reduceNe, Int.reduceBEq, Int.reduceBNe, Int.reduceToNat, Int.reduceGT, Int.reduceGE, ↓reduceIte, decide_true, decide_false, Try.f41, Span.t, Span.cs, spannedB]
def hgSpanned : List TV → Option TV
  | [.agg [.int .i64 x, .int .i64 y], .int .i64 a, .int .i64 b] => some (.bool (spannedB ⟨x, y⟩ a b))
  | _ => none
theorem hgSpanned_ok : ∀ xs r, hgSpanned xs = some r → PCalls Try.prog 41 xs r := by
  intro xs r h
  unfold hgSpanned at h
  split at h
  · cases h; exact hSpanned_c ⟨_, _⟩ _ _
  · cases h
noncomputable def spH4 : Pm.Spec := spH3.one 41 hgSpanned
theorem spH4_ok : SpecOk Try.prog spH4 := Spec.one_ok hgSpanned_ok spH3_ok
attribute [go_sem] hgSpanned
@[go_sem] theorem spH4_p (f : FuncId) (xs : List TV) : spH4.p f xs = Pm.Spec.p (spH3.one 41 hgSpanned) f xs := rfl
@[go_sem] theorem spH4_h (f : FuncId) (ps : List PV) (hl : List PO) : spH4.h f ps hl = Pm.Spec.h (spH3.one 41 hgSpanned) f ps hl := rfl
@[go_sem] theorem spH4_fz (f : FuncId) : spH4.fz f = Pm.Spec.fz (spH3.one 41 hgSpanned) f := rfl
@[go_sem] theorem spH4_fr (f : FuncId) : spH4.fr f = Pm.Spec.fr (spH3.one 41 hgSpanned) f := rfl
@[go_sem] theorem spH4_mu (t : TypeId) : spH4.mu t = Pm.Spec.mu (spH3.one 41 hgSpanned) t := rfl
@[go_sem] theorem spH4_nf (t : TypeId) : spH4.nf t = Pm.Spec.nf (spH3.one 41 hgSpanned) t := rfl
theorem hHolds_c (s : Span) (n : Int) : PCalls Try.prog 35 [s.t, .int .i64 n] (.bool (inB n s.lo s.hi)) := by
  refine pcalls_by Try.mixes spH4_ok (fn := Try.f35) Try.func35 rfl (by kernel_rfl) (by show 2 ≤ _; decide) ?_
  simp (decide := true) (maxSteps := 4000000) only [go_sem, Nat.reduceAdd, Nat.reduceSub, Nat.reduceMul, Nat.reduceDiv, Nat.reduceMod, Nat.reduceLT, Nat.reduceLeDiff, Nat.reduceEqDiff, Nat.reduceBEq, Nat.reduceBNe, Nat.reduceGT, Int.reduceAdd, Int.reduceSub, Int.reduceMul, Int.reduceNeg, Int.reduceLT, Int.reduceLE, Int.reduceEq, Int.reduceNe, Int.reduceBEq, Int.reduceBNe, Int.reduceToNat, Int.reduceGT, Int.reduceGE, ↓reduceIte, decide_true, decide_false, Try.f35, Span.t, Span.cs]
def hgHolds : List TV → Option TV
  | [.agg [.int .i64 x, .int .i64 y], .int .i64 n] => some (.bool (inB n x y))
  | _ => none
theorem hgHolds_ok : ∀ xs r, hgHolds xs = some r → PCalls Try.prog 35 xs r := by
  intro xs r h
  unfold hgHolds at h
  split at h
  · cases h; exact hHolds_c ⟨_, _⟩ _
  · cases h
noncomputable def spH5 : Pm.Spec := spH4.one 35 hgHolds
theorem spH5_ok : SpecOk Try.prog spH5 := Spec.one_ok hgHolds_ok spH4_ok
attribute [go_sem] hgHolds
@[go_sem] theorem spH5_p (f : FuncId) (xs : List TV) : spH5.p f xs = Pm.Spec.p (spH4.one 35 hgHolds) f xs := rfl
@[go_sem] theorem spH5_h (f : FuncId) (ps : List PV) (hl : List PO) : spH5.h f ps hl = Pm.Spec.h (spH4.one 35 hgHolds) f ps hl := rfl
@[go_sem] theorem spH5_fz (f : FuncId) : spH5.fz f = Pm.Spec.fz (spH4.one 35 hgHolds) f := rfl
@[go_sem] theorem spH5_fr (f : FuncId) : spH5.fr f = Pm.Spec.fr (spH4.one 35 hgHolds) f := rfl
@[go_sem] theorem spH5_mu (t : TypeId) : spH5.mu t = Pm.Spec.mu (spH4.one 35 hgHolds) t := rfl
@[go_sem] theorem spH5_nf (t : TypeId) : spH5.nf t = Pm.Spec.nf (spH4.one 35 hgHolds) t := rfl
theorem hWider_c (s : Span) (n : Int) (b : Bool) : PCalls Try.prog 74 [s.t, .int .i64 n, .bool b] (widerS s n b).t := by
  refine pcalls_by Try.mixes noSpec_ok (fn := Try.f74) Try.func74 rfl (by kernel_rfl) (by show 3 ≤ _; decide) ?_
  cases b <;> simp (decide := true) (maxSteps := 4000000) only [go_sem, Nat.reduceAdd, Nat.reduceSub, Nat.reduceMul, Nat.reduceDiv, Nat.reduceMod, Nat.reduceLT, Nat.reduceLeDiff, Nat.reduceEqDiff, Nat.reduceBEq, Nat.reduceBNe, Nat.reduceGT, Int.reduceAdd, Int.reduceSub, Int.reduceMul, Int.reduceNeg, Int.reduceLT, Int.reduceLE, Int.reduceEq, Int.reduceNe, Int.reduceBEq, Int.reduceBNe, Int.reduceToNat, Int.reduceGT, Int.reduceGE, ↓reduceIte, decide_true, decide_false, Try.f74, Span.t, Span.cs, widerS]
def hgWider : List TV → Option TV
  | [.agg [.int .i64 x, .int .i64 y], .int .i64 n, .bool b] => some (widerS ⟨x, y⟩ n b).t
  | _ => none
theorem hgWider_ok : ∀ xs r, hgWider xs = some r → PCalls Try.prog 74 xs r := by
  intro xs r h
  unfold hgWider at h
  split at h
  · cases h; exact hWider_c ⟨_, _⟩ _ _
  · cases h
noncomputable def spH6 : Pm.Spec := spH5.one 74 hgWider
theorem spH6_ok : SpecOk Try.prog spH6 := Spec.one_ok hgWider_ok spH5_ok
attribute [go_sem] hgWider
@[go_sem] theorem spH6_p (f : FuncId) (xs : List TV) : spH6.p f xs = Pm.Spec.p (spH5.one 74 hgWider) f xs := rfl
@[go_sem] theorem spH6_h (f : FuncId) (ps : List PV) (hl : List PO) : spH6.h f ps hl = Pm.Spec.h (spH5.one 74 hgWider) f ps hl := rfl
@[go_sem] theorem spH6_fz (f : FuncId) : spH6.fz f = Pm.Spec.fz (spH5.one 74 hgWider) f := rfl
@[go_sem] theorem spH6_fr (f : FuncId) : spH6.fr f = Pm.Spec.fr (spH5.one 74 hgWider) f := rfl
@[go_sem] theorem spH6_mu (t : TypeId) : spH6.mu t = Pm.Spec.mu (spH5.one 74 hgWider) t := rfl
@[go_sem] theorem spH6_nf (t : TypeId) : spH6.nf t = Pm.Spec.nf (spH5.one 74 hgWider) t := rfl
/-- Numbers whose sums and differences fit. -/
def hMid (n : Int) : Prop := -4000000000000000000 ≤ n ∧ n ≤ 4000000000000000000
theorem htdiv_floor {a b : Int} (h : 0 < b) : (a - a % b).tdiv b = a / b := by
  have h1 : a - a % b = b * (a / b) := by have := Int.mul_ediv_add_emod a b; omega
  rw [h1, Int.mul_tdiv_cancel_left _ (by omega)]
theorem hdiv_mid {a b : Int} (ha : hMid a) (h : 0 < b) : hMid (a / b) ∨ False := by
  refine .inl ⟨?_, ?_⟩
  · have := Int.ediv_le_ediv h ha.1
    rcases Int.lt_or_le a 0 with h0 | h0
    · have h2 : a ≤ a / b := by
        rw [Int.le_ediv_iff_mul_le h]
        have : a * b ≤ a * 1 := Int.mul_le_mul_of_nonpos_left (by omega) (by omega)
        omega
      have := ha.1; omega
    · have := Int.ediv_nonneg h0 (by omega : 0 ≤ b); omega
  · rcases Int.lt_or_le a 0 with h0 | h0
    · have : a / b < 0 := Int.ediv_neg_of_neg_of_pos h0 h
      omega
    · have := Int.ediv_le_self b h0; have := ha.2; omega
theorem hDown_c (a b : Int) (ha : hMid a) (hb : 0 < b) (hb2 : hMid b) : PCalls Try.prog 90 [.int .i64 a, .int .i64 b] (.int .i64 (a / b)) := by
  refine pcalls_by Try.mixes spH6_ok (fn := Try.f90) Try.func90 rfl (by kernel_rfl) (by show 2 ≤ _; decide) ?_
  have hne : ¬ b = 0 := by omega
  have e1 := Int.emod_nonneg a hne
  have e2 := Int.emod_lt_of_pos a hb
  have hbd : b ≤ 9223372036854775807 := by have := hb2.2; omega
  have hd := (hdiv_mid ha hb).resolve_right id
  simp (decide := true) (maxSteps := 4000000) only [go_sem, Nat.reduceAdd, Nat.reduceSub, Nat.reduceMul, Nat.reduceDiv, Nat.reduceMod, Nat.reduceLT, Nat.reduceLeDiff, Nat.reduceEqDiff, Nat.reduceBEq, Nat.reduceBNe, Nat.reduceGT, Int.reduceAdd, Int.reduceSub, Int.reduceMul, Int.reduceNeg, Int.reduceLT, Int.reduceLE, Int.reduceEq, Int.reduceNe, Int.reduceBEq, Int.reduceBNe, Int.reduceToNat, Int.reduceGT, Int.reduceGE, ↓reduceIte, decide_true, decide_false, Try.f90, hb, hbd, hne]
  rw [wrap_in (n := a - a % b) (by have := ha.1; have := hb2.2; omega) (by have := ha.2; omega), htdiv_floor hb, wrap_in (by have := hd.1; omega) (by have := hd.2; omega)]
def hgDown : List TV → Option TV
  | [.int .i64 a, .int .i64 b] => if (-4000000000000000000 ≤ a ∧ a ≤ 4000000000000000000) ∧ 0 < b ∧ b ≤ 4000000000000000000 then some (.int .i64 (a / b)) else none
  | _ => none
theorem hgDown_ok : ∀ xs r, hgDown xs = some r → PCalls Try.prog 90 xs r := by
  intro xs r h
  unfold hgDown at h
  split at h
  · split at h
    · rename_i hc; cases h; exact hDown_c _ _ hc.1 hc.2.1 ⟨by omega, hc.2.2⟩
    · cases h
  · cases h
noncomputable def spH7 : Pm.Spec := spH6.one 90 hgDown
theorem spH7_ok : SpecOk Try.prog spH7 := Spec.one_ok hgDown_ok spH6_ok
attribute [go_sem] hgDown
@[go_sem] theorem spH7_p (f : FuncId) (xs : List TV) : spH7.p f xs = Pm.Spec.p (spH6.one 90 hgDown) f xs := rfl
@[go_sem] theorem spH7_h (f : FuncId) (ps : List PV) (hl : List PO) : spH7.h f ps hl = Pm.Spec.h (spH6.one 90 hgDown) f ps hl := rfl
@[go_sem] theorem spH7_fz (f : FuncId) : spH7.fz f = Pm.Spec.fz (spH6.one 90 hgDown) f := rfl
@[go_sem] theorem spH7_fr (f : FuncId) : spH7.fr f = Pm.Spec.fr (spH6.one 90 hgDown) f := rfl
@[go_sem] theorem spH7_mu (t : TypeId) : spH7.mu t = Pm.Spec.mu (spH6.one 90 hgDown) t := rfl
@[go_sem] theorem spH7_nf (t : TypeId) : spH7.nf t = Pm.Spec.nf (spH6.one 90 hgDown) t := rfl
noncomputable def spH8 : Pm.Spec := spH7
theorem spH8_ok : SpecOk Try.prog spH8 := spH7_ok
@[go_sem] theorem spH8_p (f : FuncId) (xs : List TV) : spH8.p f xs = Pm.Spec.p (spH7) f xs := rfl
@[go_sem] theorem spH8_h (f : FuncId) (ps : List PV) (hl : List PO) : spH8.h f ps hl = Pm.Spec.h (spH7) f ps hl := rfl
@[go_sem] theorem spH8_fz (f : FuncId) : spH8.fz f = Pm.Spec.fz (spH7) f := rfl
@[go_sem] theorem spH8_fr (f : FuncId) : spH8.fr f = Pm.Spec.fr (spH7) f := rfl
@[go_sem] theorem spH8_mu (t : TypeId) : spH8.mu t = Pm.Spec.mu (spH7) t := rfl
@[go_sem] theorem spH8_nf (t : TypeId) : spH8.nf t = Pm.Spec.nf (spH7) t := rfl
theorem hChosen_c (lo hi n : Int) (h1 : In64 lo) (h2 : In64 hi) : PCalls Try.prog 37 [.int .i64 lo, .int .i64 hi, .int .i64 n] (.int .i64 (chosen lo hi n)) := by
  refine pcalls_by Try.mixes spH8_ok (fn := Try.f37) Try.func37 rfl (by kernel_rfl) (by show 3 ≤ _; decide) ?_
  obtain ⟨a1, a2⟩ := h1
  obtain ⟨b1, b2⟩ := h2
  unfold chosen
  by_cases hge : lo ≥ hi
  · simp (decide := true) (maxSteps := 4000000) only [go_sem, Nat.reduceAdd, Nat.reduceSub, Nat.reduceMul, Nat.reduceDiv, Nat.reduceMod, Nat.reduceLT, Nat.reduceLeDiff, Nat.reduceEqDiff, Nat.reduceBEq, Nat.reduceBNe, Nat.reduceGT, Int.reduceAdd, Int.reduceSub, Int.reduceMul, Int.reduceNeg, Int.reduceLT, Int.reduceLE, Int.reduceEq, Int.reduceNe, Int.reduceBEq, Int.reduceBNe, Int.reduceToNat, Int.reduceGT, Int.reduceGE, ↓reduceIte, decide_true, decide_false, Try.f37, hge]
  · by_cases hbig : 9223372036854775807 < hi - lo + 1
    · have e : IntKind.i64.wrap (IntKind.i64.wrap (hi - lo) + 1) < 1 := by simp only [IntKind.wrap_i64]; omega
      simp (decide := true) (maxSteps := 4000000) only [go_sem, Nat.reduceAdd, Nat.reduceSub, Nat.reduceMul, Nat.reduceDiv, Nat.reduceMod, Nat.reduceLT, Nat.reduceLeDiff, Nat.reduceEqDiff, Nat.reduceBEq, Nat.reduceBNe, Nat.reduceGT, Int.reduceAdd, Int.reduceSub, Int.reduceMul, Int.reduceNeg, Int.reduceLT, Int.reduceLE, Int.reduceEq, Int.reduceNe, Int.reduceBEq, Int.reduceBNe, Int.reduceToNat, Int.reduceGT, Int.reduceGE, ↓reduceIte, decide_true, decide_false, Try.f37, hge, e, hbig]
    · have e : IntKind.i64.wrap (IntKind.i64.wrap (hi - lo) + 1) = hi - lo + 1 := by rw [wrap_in (n := hi - lo) (by omega) (by omega), wrap_in (by omega) (by omega)]
      have e2 : ¬ hi - lo + 1 < 1 := by omega
      have e3 : 0 < hi - lo + 1 ∧ hi - lo + 1 ≤ 9223372036854775807 := by omega
      have m1 := Int.emod_nonneg n (show hi - lo + 1 ≠ 0 by omega)
      have m2 := Int.emod_lt_of_pos n (show 0 < hi - lo + 1 by omega)
      simp (decide := true) (maxSteps := 4000000) only [go_sem, Nat.reduceAdd, Nat.reduceSub, Nat.reduceMul, Nat.reduceDiv, Nat.reduceMod, Nat.reduceLT, Nat.reduceLeDiff, Nat.reduceEqDiff, Nat.reduceBEq, Nat.reduceBNe, Nat.reduceGT, Int.reduceAdd, Int.reduceSub, Int.reduceMul, Int.reduceNeg, Int.reduceLT, Int.reduceLE, Int.reduceEq, Int.reduceNe, Int.reduceBEq, Int.reduceBNe, Int.reduceToNat, Int.reduceGT, Int.reduceGE, ↓reduceIte, decide_true, decide_false, Try.f37, hge, hbig, e, e2, if_pos e3]
      rw [wrap_in (by omega) (by omega)]
def hgChosen : List TV → Option TV
  | [.int .i64 a, .int .i64 b, .int .i64 n] => if (-9223372036854775808 ≤ a ∧ a ≤ 9223372036854775807) ∧ -9223372036854775808 ≤ b ∧ b ≤ 9223372036854775807 then some (.int .i64 (chosen a b n)) else none
  | _ => none
theorem hgChosen_ok : ∀ xs r, hgChosen xs = some r → PCalls Try.prog 37 xs r := by
  intro xs r h
  unfold hgChosen at h
  split at h
  · split at h
    · rename_i hc; cases h; exact hChosen_c _ _ _ hc.1 hc.2
    · cases h
  · cases h
noncomputable def spH9 : Pm.Spec := spH8.one 37 hgChosen
theorem spH9_ok : SpecOk Try.prog spH9 := Spec.one_ok hgChosen_ok spH8_ok
attribute [go_sem] hgChosen
@[go_sem] theorem spH9_p (f : FuncId) (xs : List TV) : spH9.p f xs = Pm.Spec.p (spH8.one 37 hgChosen) f xs := rfl
@[go_sem] theorem spH9_h (f : FuncId) (ps : List PV) (hl : List PO) : spH9.h f ps hl = Pm.Spec.h (spH8.one 37 hgChosen) f ps hl := rfl
@[go_sem] theorem spH9_fz (f : FuncId) : spH9.fz f = Pm.Spec.fz (spH8.one 37 hgChosen) f := rfl
@[go_sem] theorem spH9_fr (f : FuncId) : spH9.fr f = Pm.Spec.fr (spH8.one 37 hgChosen) f := rfl
@[go_sem] theorem spH9_mu (t : TypeId) : spH9.mu t = Pm.Spec.mu (spH8.one 37 hgChosen) t := rfl
@[go_sem] theorem spH9_nf (t : TypeId) : spH9.nf t = Pm.Spec.nf (spH8.one 37 hgChosen) t := rfl
theorem hBit_c (s k : Nat) (hk : k < 64) : PCalls Try.prog 91 [.int .i64 s, .int .i64 k] (.bool (s.testBit k)) := by
  refine pcalls_by Try.mixes noSpec_ok (fn := Try.f91) Try.func91 rfl (by kernel_rfl) (by show 2 ≤ _; decide) ?_
  have hk0 : ¬ (k : Int) < 0 := by omega
  have e : (Int.fdiv (s : Int) (2 ^ (min k 64))) = ((s / 2 ^ k : Nat) : Int) := by
    rw [Nat.min_eq_left (by omega), Int.fdiv_eq_ediv_of_nonneg _ (Int.pow_nonneg (by omega))]
    simp
  have e2 : Int.tmod ((s / 2 ^ k : Nat) : Int) 2 = ((s / 2 ^ k % 2 : Nat) : Int) := by
    rw [Int.tmod_eq_emod_of_nonneg (Int.natCast_nonneg _)]; simp
  simp (decide := true) (maxSteps := 4000000) only [go_sem, Nat.reduceAdd, Nat.reduceSub, Nat.reduceMul, Nat.reduceDiv, Nat.reduceMod, Nat.reduceLT, Nat.reduceLeDiff, Nat.reduceEqDiff, Nat.reduceBEq, Nat.reduceBNe, Nat.reduceGT, Int.reduceAdd, Int.reduceSub, Int.reduceMul, Int.reduceNeg, Int.reduceLT, Int.reduceLE, Int.reduceEq, Int.reduceNe, Int.reduceBEq, Int.reduceBNe, Int.reduceToNat, Int.reduceGT, Int.reduceGE, ↓reduceIte, decide_true, decide_false, Try.f91, hk0, e, IntKind.bits]
  rw [e2, Nat.testBit_eq_decide_div_mod_eq]
  congr 1
  rw [Bool.eq_iff_iff, beq_iff_eq, decide_eq_true_eq]
  omega
def hgBit : List TV → Option TV
  | [.int .i64 s, .int .i64 k] => if 0 ≤ s ∧ 0 ≤ k ∧ k < 64 then some (.bool (s.toNat.testBit k.toNat)) else none
  | _ => none
theorem hgBit_ok : ∀ xs r, hgBit xs = some r → PCalls Try.prog 91 xs r := by
  intro xs r h
  unfold hgBit at h
  split at h
  · rename_i s k
    split at h
    · rename_i hc; cases h
      have := hBit_c s.toNat k.toNat (by omega)
      rwa [Int.toNat_of_nonneg hc.1, Int.toNat_of_nonneg hc.2.1] at this
    · cases h
  · cases h
noncomputable def spH10 : Pm.Spec := spH9.one 91 hgBit
theorem spH10_ok : SpecOk Try.prog spH10 := Spec.one_ok hgBit_ok spH9_ok
attribute [go_sem] hgBit
@[go_sem] theorem spH10_p (f : FuncId) (xs : List TV) : spH10.p f xs = Pm.Spec.p (spH9.one 91 hgBit) f xs := rfl
@[go_sem] theorem spH10_h (f : FuncId) (ps : List PV) (hl : List PO) : spH10.h f ps hl = Pm.Spec.h (spH9.one 91 hgBit) f ps hl := rfl
@[go_sem] theorem spH10_fz (f : FuncId) : spH10.fz f = Pm.Spec.fz (spH9.one 91 hgBit) f := rfl
@[go_sem] theorem spH10_fr (f : FuncId) : spH10.fr f = Pm.Spec.fr (spH9.one 91 hgBit) f := rfl
@[go_sem] theorem spH10_mu (t : TypeId) : spH10.mu t = Pm.Spec.mu (spH9.one 91 hgBit) t := rfl
@[go_sem] theorem spH10_nf (t : TypeId) : spH10.nf t = Pm.Spec.nf (spH9.one 91 hgBit) t := rfl
theorem hSame_c {a b : List Int} {s t : TV} (hs : IsRow ic s a) (ht : IsRow ic t b) (ha : a.length ≤ 9223372036854775806) : PCalls Try.prog 29 [s, t] (.bool (decide (a = b))) := by
  refine pcalls_by Try.mixes noSpec_ok (fn := Try.f29) Try.func29 rfl (by kernel_rfl) (by show 2 ≤ _; decide) ?_
  by_cases hl : a.length = b.length
  · by_cases h0 : a.length = 0
    · have ea : a = [] := List.length_eq_zero_iff.1 h0
      have eb : b = [] := List.length_eq_zero_iff.1 (by omega)
      subst ea; subst eb
      rcases hs with ⟨rfl, _⟩ | ⟨f1, rfl⟩ <;> rcases ht with ⟨rfl, _⟩ | ⟨f2, rfl⟩
      all_goals
        simp (decide := true) (maxSteps := 4000000) only [go_sem, Nat.reduceAdd, Nat.reduceSub, Nat.reduceMul, Nat.reduceDiv, Nat.reduceMod, Nat.reduceLT, Nat.reduceLeDiff, Nat.reduceEqDiff, Nat.reduceBEq, Nat.reduceBNe, Nat.reduceGT, Int.reduceAdd, Int.reduceSub, Int.reduceMul, Int.reduceNeg, Int.reduceLT, Int.reduceLE, Int.reduceEq, Int.reduceNe, Int.reduceBEq, Int.reduceBNe, Int.reduceToNat, Int.reduceGT, Int.reduceGE, ↓reduceIte, decide_true, decide_false, eq_self, Nat.mul_one, Nat.zero_mul, Nat.one_mul, Int.le_refl, Nat.le_refl, Int.cast_ofNat_Int, Try.f29, List.length_nil, bne_self_eq_false]
        refine pwpC_loopU (A := Unit) [0, 1] (fun _ => [(5, .t (.int .i64 0))]) (fun _ => []) (fun _ => 0) () (by decide) (fun _ => by rfl) ?_ fun Q1 hQ1 _ I1 hI1 => ?_
        · simp (decide := true) (maxSteps := 4000000) only [go_sem, Nat.reduceAdd, Nat.reduceSub, Nat.reduceMul, Nat.reduceDiv, Nat.reduceMod, Nat.reduceLT, Nat.reduceLeDiff, Nat.reduceEqDiff, Nat.reduceBEq, Nat.reduceBNe, Nat.reduceGT, Int.reduceAdd, Int.reduceSub, Int.reduceMul, Int.reduceNeg, Int.reduceLT, Int.reduceLE, Int.reduceEq, Int.reduceNe, Int.reduceBEq, Int.reduceBNe, Int.reduceToNat, Int.reduceGT, Int.reduceGE, ↓reduceIte, decide_true, decide_false, eq_self, Nat.mul_one, Nat.zero_mul, Nat.one_mul, Int.le_refl, Nat.le_refl, Int.cast_ofNat_Int]
        · simp (decide := true) (maxSteps := 4000000) only [go_sem, Nat.reduceAdd, Nat.reduceSub, Nat.reduceMul, Nat.reduceDiv, Nat.reduceMod, Nat.reduceLT, Nat.reduceLeDiff, Nat.reduceEqDiff, Nat.reduceBEq, Nat.reduceBNe, Nat.reduceGT, Int.reduceAdd, Int.reduceSub, Int.reduceMul, Int.reduceNeg, Int.reduceLT, Int.reduceLE, Int.reduceEq, Int.reduceNe, Int.reduceBEq, Int.reduceBNe, Int.reduceToNat, Int.reduceGT, Int.reduceGE, ↓reduceIte, decide_true, decide_false, eq_self, Nat.mul_one, Nat.zero_mul, Nat.one_mul, Int.le_refl, Nat.le_refl, Int.cast_ofNat_Int, List.length_nil]
          refine hQ1 _ _ ?_
          simp (decide := true) (maxSteps := 4000000) only [go_sem, Nat.reduceAdd, Nat.reduceSub, Nat.reduceMul, Nat.reduceDiv, Nat.reduceMod, Nat.reduceLT, Nat.reduceLeDiff, Nat.reduceEqDiff, Nat.reduceBEq, Nat.reduceBNe, Nat.reduceGT, Int.reduceAdd, Int.reduceSub, Int.reduceMul, Int.reduceNeg, Int.reduceLT, Int.reduceLE, Int.reduceEq, Int.reduceNe, Int.reduceBEq, Int.reduceBNe, Int.reduceToNat, Int.reduceGT, Int.reduceGE, ↓reduceIte, decide_true, decide_false, eq_self, Nat.mul_one, Nat.zero_mul, Nat.one_mul, Int.le_refl, Nat.le_refl, Int.cast_ofNat_Int]
    · obtain ⟨f1, rfl⟩ := hs.ne (by omega)
      obtain ⟨f2, rfl⟩ := ht.ne (by omega)
      rw [ic_ints, ic_ints]
      have hl' : ((a.length : Int) != (b.length : Int)) = false := bne_int_f (by omega)
      simp (decide := true) (maxSteps := 4000000) only [go_sem, Nat.reduceAdd, Nat.reduceSub, Nat.reduceMul, Nat.reduceDiv, Nat.reduceMod, Nat.reduceLT, Nat.reduceLeDiff, Nat.reduceEqDiff, Nat.reduceBEq, Nat.reduceBNe, Nat.reduceGT, Int.reduceAdd, Int.reduceSub, Int.reduceMul, Int.reduceNeg, Int.reduceLT, Int.reduceLE, Int.reduceEq, Int.reduceNe, Int.reduceBEq, Int.reduceBNe, Int.reduceToNat, Int.reduceGT, Int.reduceGE, ↓reduceIte, decide_true, decide_false, eq_self, Nat.mul_one, Nat.zero_mul, Nat.one_mul, Int.le_refl, Nat.le_refl, Int.cast_ofNat_Int, Try.f29, hl']
      refine pwpC_loopU (A := { k : Nat // a.take k = b.take k ∧ k ≤ a.length }) [0, 1] (fun k => [(5, .t (.int .i64 k.1))]) (fun k => []) (fun k => a.length - k.1) ⟨0, by simp⟩ (by decide) (fun _ => by rfl) ?_ fun Q1 hQ1 ⟨k, hk, hka⟩ I1 hI1 => ?_
      · simp (decide := true) (maxSteps := 4000000) only [go_sem, Nat.reduceAdd, Nat.reduceSub, Nat.reduceMul, Nat.reduceDiv, Nat.reduceMod, Nat.reduceLT, Nat.reduceLeDiff, Nat.reduceEqDiff, Nat.reduceBEq, Nat.reduceBNe, Nat.reduceGT, Int.reduceAdd, Int.reduceSub, Int.reduceMul, Int.reduceNeg, Int.reduceLT, Int.reduceLE, Int.reduceEq, Int.reduceNe, Int.reduceBEq, Int.reduceBNe, Int.reduceToNat, Int.reduceGT, Int.reduceGE, ↓reduceIte, decide_true, decide_false, eq_self, Nat.mul_one, Nat.zero_mul, Nat.one_mul, Int.le_refl, Nat.le_refl, Int.cast_ofNat_Int]
      · by_cases hlt : (k : Int) < a.length
        · have hltb : (k : Int) < b.length := by omega
          obtain ⟨x, hx⟩ := get_lt hlt
          obtain ⟨y, hy⟩ := get_lt hltb
          have d1 := ints_at hx
          have d2 := ints_at hy
          rw [Nat.mul_one] at d1 d2
          have hc1 : IntKind.i64.wrap (k + 1) = ((k + 1 : Nat) : Int) := by rw [wrap_in (by omega) (by omega)]; omega
          by_cases hxy : x = y
          · subst hxy
            simp (decide := true) (maxSteps := 4000000) only [go_sem, Nat.reduceAdd, Nat.reduceSub, Nat.reduceMul, Nat.reduceDiv, Nat.reduceMod, Nat.reduceLT, Nat.reduceLeDiff, Nat.reduceEqDiff, Nat.reduceBEq, Nat.reduceBNe, Nat.reduceGT, Int.reduceAdd, Int.reduceSub, Int.reduceMul, Int.reduceNeg, Int.reduceLT, Int.reduceLE, Int.reduceEq, Int.reduceNe, Int.reduceBEq, Int.reduceBNe, Int.reduceToNat, Int.reduceGT, Int.reduceGE, ↓reduceIte, decide_true, decide_false, eq_self, Nat.mul_one, Nat.zero_mul, Nat.one_mul, Int.le_refl, Nat.le_refl, Int.cast_ofNat_Int, hlt, hltb, d1, d2, bne_self_eq_false]
            refine hI1 _ ⟨k + 1, by rw [take_snoc hx, take_snoc hy, hk], by omega⟩ (by simp only; omega) ?_
            simp (decide := true) (maxSteps := 4000000) only [go_sem, Nat.reduceAdd, Nat.reduceSub, Nat.reduceMul, Nat.reduceDiv, Nat.reduceMod, Nat.reduceLT, Nat.reduceLeDiff, Nat.reduceEqDiff, Nat.reduceBEq, Nat.reduceBNe, Nat.reduceGT, Int.reduceAdd, Int.reduceSub, Int.reduceMul, Int.reduceNeg, Int.reduceLT, Int.reduceLE, Int.reduceEq, Int.reduceNe, Int.reduceBEq, Int.reduceBNe, Int.reduceToNat, Int.reduceGT, Int.reduceGE, ↓reduceIte, decide_true, decide_false, eq_self, Nat.mul_one, Nat.zero_mul, Nat.one_mul, Int.le_refl, Nat.le_refl, Int.cast_ofNat_Int, hc1]
          · have hb : (x != y) = true := bne_int_t hxy
            simp (decide := true) (maxSteps := 4000000) only [go_sem, Nat.reduceAdd, Nat.reduceSub, Nat.reduceMul, Nat.reduceDiv, Nat.reduceMod, Nat.reduceLT, Nat.reduceLeDiff, Nat.reduceEqDiff, Nat.reduceBEq, Nat.reduceBNe, Nat.reduceGT, Int.reduceAdd, Int.reduceSub, Int.reduceMul, Int.reduceNeg, Int.reduceLT, Int.reduceLE, Int.reduceEq, Int.reduceNe, Int.reduceBEq, Int.reduceBNe, Int.reduceToNat, Int.reduceGT, Int.reduceGE, ↓reduceIte, decide_true, decide_false, eq_self, Nat.mul_one, Nat.zero_mul, Nat.one_mul, Int.le_refl, Nat.le_refl, Int.cast_ofNat_Int, hlt, hltb, d1, d2, hb]
            refine hQ1 _ _ ?_
            have : decide (a = b) = false := by
              rw [decide_eq_false_iff_not]
              rintro rfl
              rw [hx] at hy; cases hy; exact hxy rfl
            simp (decide := true) (maxSteps := 4000000) only [go_sem, Nat.reduceAdd, Nat.reduceSub, Nat.reduceMul, Nat.reduceDiv, Nat.reduceMod, Nat.reduceLT, Nat.reduceLeDiff, Nat.reduceEqDiff, Nat.reduceBEq, Nat.reduceBNe, Nat.reduceGT, Int.reduceAdd, Int.reduceSub, Int.reduceMul, Int.reduceNeg, Int.reduceLT, Int.reduceLE, Int.reduceEq, Int.reduceNe, Int.reduceBEq, Int.reduceBNe, Int.reduceToNat, Int.reduceGT, Int.reduceGE, ↓reduceIte, decide_true, decide_false, eq_self, Nat.mul_one, Nat.zero_mul, Nat.one_mul, Int.le_refl, Nat.le_refl, Int.cast_ofNat_Int, this]
        · have hke : k = a.length := by omega
          subst hke
          simp (decide := true) (maxSteps := 4000000) only [go_sem, Nat.reduceAdd, Nat.reduceSub, Nat.reduceMul, Nat.reduceDiv, Nat.reduceMod, Nat.reduceLT, Nat.reduceLeDiff, Nat.reduceEqDiff, Nat.reduceBEq, Nat.reduceBNe, Nat.reduceGT, Int.reduceAdd, Int.reduceSub, Int.reduceMul, Int.reduceNeg, Int.reduceLT, Int.reduceLE, Int.reduceEq, Int.reduceNe, Int.reduceBEq, Int.reduceBNe, Int.reduceToNat, Int.reduceGT, Int.reduceGE, ↓reduceIte, decide_true, decide_false, eq_self, Nat.mul_one, Nat.zero_mul, Nat.one_mul, Int.le_refl, Nat.le_refl, Int.cast_ofNat_Int, hlt]
          refine hQ1 _ _ ?_
          have : decide (a = b) = true := by
            rw [decide_eq_true_eq]
            rwa [List.take_length, List.take_of_length_le (by omega)] at hk
          simp (decide := true) (maxSteps := 4000000) only [go_sem, Nat.reduceAdd, Nat.reduceSub, Nat.reduceMul, Nat.reduceDiv, Nat.reduceMod, Nat.reduceLT, Nat.reduceLeDiff, Nat.reduceEqDiff, Nat.reduceBEq, Nat.reduceBNe, Nat.reduceGT, Int.reduceAdd, Int.reduceSub, Int.reduceMul, Int.reduceNeg, Int.reduceLT, Int.reduceLE, Int.reduceEq, Int.reduceNe, Int.reduceBEq, Int.reduceBNe, Int.reduceToNat, Int.reduceGT, Int.reduceGE, ↓reduceIte, decide_true, decide_false, eq_self, Nat.mul_one, Nat.zero_mul, Nat.one_mul, Int.le_refl, Nat.le_refl, Int.cast_ofNat_Int, this]
  · have hl' : ((a.length : Int) != (b.length : Int)) = true := bne_int_t (by omega)
    have hd : decide (a = b) = false := by
      rw [decide_eq_false_iff_not]
      rintro rfl; exact hl rfl
    rcases hs with ⟨rfl, rfl⟩ | ⟨f1, rfl⟩ <;> rcases ht with ⟨rfl, rfl⟩ | ⟨f2, rfl⟩
    · exact absurd rfl hl
    all_goals
      try simp only [List.length_nil, Int.cast_ofNat_Int] at hl'
      simp (decide := true) (maxSteps := 4000000) only [go_sem, Nat.reduceAdd, Nat.reduceSub, Nat.reduceMul, Nat.reduceDiv, Nat.reduceMod, Nat.reduceLT, Nat.reduceLeDiff, Nat.reduceEqDiff, Nat.reduceBEq, Nat.reduceBNe, Nat.reduceGT, Int.reduceAdd, Int.reduceSub, Int.reduceMul, Int.reduceNeg, Int.reduceLT, Int.reduceLE, Int.reduceEq, Int.reduceNe, Int.reduceBEq, Int.reduceBNe, Int.reduceToNat, Int.reduceGT, Int.reduceGE, ↓reduceIte, decide_true, decide_false, eq_self, Nat.mul_one, Nat.zero_mul, Nat.one_mul, Int.le_refl, Nat.le_refl, Int.cast_ofNat_Int, Try.f29, hl', hd]
noncomputable def hgSame : List TV → Option TV
  | [s, t] => match rowL unI s, rowL unI t with
    | some a, some b => if a.length ≤ 9223372036854775806 then some (.bool (decide (a = b))) else none
    | _, _ => none
  | _ => none
theorem hgSame_ok : ∀ xs r, hgSame xs = some r → PCalls Try.prog 29 xs r := by
  intro xs r h
  unfold hgSame at h
  split at h
  · split at h
    · rename_i a b ha hb
      split at h
      · rename_i hc; cases h
        exact hSame_c (rowL_some (un := unI) unI_nil (@unI_some) ha) (rowL_some (un := unI) unI_nil (@unI_some) hb) hc
      · cases h
    · cases h
  · cases h
noncomputable def spH11 : Pm.Spec := spH10.one 29 hgSame
theorem spH11_ok : SpecOk Try.prog spH11 := Spec.one_ok hgSame_ok spH10_ok
attribute [go_sem] hgSame
@[go_sem] theorem spH11_p (f : FuncId) (xs : List TV) : spH11.p f xs = Pm.Spec.p (spH10.one 29 hgSame) f xs := rfl
@[go_sem] theorem spH11_h (f : FuncId) (ps : List PV) (hl : List PO) : spH11.h f ps hl = Pm.Spec.h (spH10.one 29 hgSame) f ps hl := rfl
@[go_sem] theorem spH11_fz (f : FuncId) : spH11.fz f = Pm.Spec.fz (spH10.one 29 hgSame) f := rfl
@[go_sem] theorem spH11_fr (f : FuncId) : spH11.fr f = Pm.Spec.fr (spH10.one 29 hgSame) f := rfl
@[go_sem] theorem spH11_mu (t : TypeId) : spH11.mu t = Pm.Spec.mu (spH10.one 29 hgSame) t := rfl
@[go_sem] theorem spH11_nf (t : TypeId) : spH11.nf t = Pm.Spec.nf (spH10.one 29 hgSame) t := rfl
theorem hSameSpans_c {a b : List Span} {s t : TV} (hs : IsRow Span.cs s a) (ht : IsRow Span.cs t b) (ha : a.length ≤ 9223372036854775806) : PCalls Try.prog 26 [s, t] (.bool (decide (a = b))) := by
  refine pcalls_by Try.mixes noSpec_ok (fn := Try.f26) Try.func26 rfl (by kernel_rfl) (by show 2 ≤ _; decide) ?_
  by_cases hl : a.length = b.length
  · by_cases h0 : a.length = 0
    · have ea : a = [] := List.length_eq_zero_iff.1 h0
      have eb : b = [] := List.length_eq_zero_iff.1 (by omega)
      subst ea; subst eb
      rcases hs with ⟨rfl, _⟩ | ⟨f1, rfl⟩ <;> rcases ht with ⟨rfl, _⟩ | ⟨f2, rfl⟩
      all_goals
        simp (decide := true) (maxSteps := 4000000) only [go_sem, Nat.reduceAdd, Nat.reduceSub, Nat.reduceMul, Nat.reduceDiv, Nat.reduceMod, Nat.reduceLT, Nat.reduceLeDiff, Nat.reduceEqDiff, Nat.reduceBEq, Nat.reduceBNe, Nat.reduceGT, Int.reduceAdd, Int.reduceSub, Int.reduceMul, Int.reduceNeg, Int.reduceLT, Int.reduceLE, Int.reduceEq, Int.reduceNe, Int.reduceBEq, Int.reduceBNe, Int.reduceToNat, Int.reduceGT, Int.reduceGE, ↓reduceIte, decide_true, decide_false, eq_self, Nat.mul_one, Nat.zero_mul, Nat.one_mul, Int.le_refl, Nat.le_refl, Int.cast_ofNat_Int, Try.f26, List.length_nil, bne_self_eq_false]
        refine pwpC_loopU (A := Unit) [0, 1] (fun _ => [(5, .t (.int .i64 0))]) (fun _ => []) (fun _ => 0) () (by decide) (fun _ => by rfl) ?_ fun Q1 hQ1 _ I1 hI1 => ?_
        · simp (decide := true) (maxSteps := 4000000) only [go_sem, Nat.reduceAdd, Nat.reduceSub, Nat.reduceMul, Nat.reduceDiv, Nat.reduceMod, Nat.reduceLT, Nat.reduceLeDiff, Nat.reduceEqDiff, Nat.reduceBEq, Nat.reduceBNe, Nat.reduceGT, Int.reduceAdd, Int.reduceSub, Int.reduceMul, Int.reduceNeg, Int.reduceLT, Int.reduceLE, Int.reduceEq, Int.reduceNe, Int.reduceBEq, Int.reduceBNe, Int.reduceToNat, Int.reduceGT, Int.reduceGE, ↓reduceIte, decide_true, decide_false, eq_self, Nat.mul_one, Nat.zero_mul, Nat.one_mul, Int.le_refl, Nat.le_refl, Int.cast_ofNat_Int]
        · simp (decide := true) (maxSteps := 4000000) only [go_sem, Nat.reduceAdd, Nat.reduceSub, Nat.reduceMul, Nat.reduceDiv, Nat.reduceMod, Nat.reduceLT, Nat.reduceLeDiff, Nat.reduceEqDiff, Nat.reduceBEq, Nat.reduceBNe, Nat.reduceGT, Int.reduceAdd, Int.reduceSub, Int.reduceMul, Int.reduceNeg, Int.reduceLT, Int.reduceLE, Int.reduceEq, Int.reduceNe, Int.reduceBEq, Int.reduceBNe, Int.reduceToNat, Int.reduceGT, Int.reduceGE, ↓reduceIte, decide_true, decide_false, eq_self, Nat.mul_one, Nat.zero_mul, Nat.one_mul, Int.le_refl, Nat.le_refl, Int.cast_ofNat_Int, List.length_nil]
          refine hQ1 _ _ ?_
          simp (decide := true) (maxSteps := 4000000) only [go_sem, Nat.reduceAdd, Nat.reduceSub, Nat.reduceMul, Nat.reduceDiv, Nat.reduceMod, Nat.reduceLT, Nat.reduceLeDiff, Nat.reduceEqDiff, Nat.reduceBEq, Nat.reduceBNe, Nat.reduceGT, Int.reduceAdd, Int.reduceSub, Int.reduceMul, Int.reduceNeg, Int.reduceLT, Int.reduceLE, Int.reduceEq, Int.reduceNe, Int.reduceBEq, Int.reduceBNe, Int.reduceToNat, Int.reduceGT, Int.reduceGE, ↓reduceIte, decide_true, decide_false, eq_self, Nat.mul_one, Nat.zero_mul, Nat.one_mul, Int.le_refl, Nat.le_refl, Int.cast_ofNat_Int]
    · obtain ⟨f1, rfl⟩ := hs.ne (by omega)
      obtain ⟨f2, rfl⟩ := ht.ne (by omega)
      have hl' : ((a.length : Int) != (b.length : Int)) = false := bne_int_f (by omega)
      simp (decide := true) (maxSteps := 4000000) only [go_sem, Nat.reduceAdd, Nat.reduceSub, Nat.reduceMul, Nat.reduceDiv, Nat.reduceMod, Nat.reduceLT, Nat.reduceLeDiff, Nat.reduceEqDiff, Nat.reduceBEq, Nat.reduceBNe, Nat.reduceGT, Int.reduceAdd, Int.reduceSub, Int.reduceMul, Int.reduceNeg, Int.reduceLT, Int.reduceLE, Int.reduceEq, Int.reduceNe, Int.reduceBEq, Int.reduceBNe, Int.reduceToNat, Int.reduceGT, Int.reduceGE, ↓reduceIte, decide_true, decide_false, eq_self, Nat.mul_one, Nat.zero_mul, Nat.one_mul, Int.le_refl, Nat.le_refl, Int.cast_ofNat_Int, Try.f26, hl']
      refine pwpC_loopU (A := { k : Nat // a.take k = b.take k ∧ k ≤ a.length }) [0, 1] (fun k => [(5, .t (.int .i64 k.1))]) (fun _ => []) (fun k => a.length - k.1) ⟨0, by simp⟩ (by decide) (fun _ => by rfl) ?_ fun Q1 hQ1 ⟨k, hk, hka⟩ I1 hI1 => ?_
      · simp (decide := true) (maxSteps := 4000000) only [go_sem, Nat.reduceAdd, Nat.reduceSub, Nat.reduceMul, Nat.reduceDiv, Nat.reduceMod, Nat.reduceLT, Nat.reduceLeDiff, Nat.reduceEqDiff, Nat.reduceBEq, Nat.reduceBNe, Nat.reduceGT, Int.reduceAdd, Int.reduceSub, Int.reduceMul, Int.reduceNeg, Int.reduceLT, Int.reduceLE, Int.reduceEq, Int.reduceNe, Int.reduceBEq, Int.reduceBNe, Int.reduceToNat, Int.reduceGT, Int.reduceGE, ↓reduceIte, decide_true, decide_false, eq_self, Nat.mul_one, Nat.zero_mul, Nat.one_mul, Int.le_refl, Nat.le_refl, Int.cast_ofNat_Int]
      · by_cases hlt : (k : Int) < a.length
        · have hltb : (k : Int) < b.length := by omega
          obtain ⟨x, hx⟩ := get_lt hlt
          obtain ⟨y, hy⟩ := get_lt hltb
          have d1 := flat_at Span.cs (n := 2) (fun _ => rfl) hx
          have d2 := flat_at Span.cs (n := 2) (fun _ => rfl) hy
          have hc1 : IntKind.i64.wrap (k + 1) = ((k + 1 : Nat) : Int) := by rw [wrap_in (by omega) (by omega)]; omega
          obtain ⟨x0, x1⟩ := x
          obtain ⟨y0, y1⟩ := y
          by_cases hxy : x0 = y0 ∧ x1 = y1
          · obtain ⟨rfl, rfl⟩ := hxy
            simp (decide := true) (maxSteps := 4000000) only [go_sem, Nat.reduceAdd, Nat.reduceSub, Nat.reduceMul, Nat.reduceDiv, Nat.reduceMod, Nat.reduceLT, Nat.reduceLeDiff, Nat.reduceEqDiff, Nat.reduceBEq, Nat.reduceBNe, Nat.reduceGT, Int.reduceAdd, Int.reduceSub, Int.reduceMul, Int.reduceNeg, Int.reduceLT, Int.reduceLE, Int.reduceEq, Int.reduceNe, Int.reduceBEq, Int.reduceBNe, Int.reduceToNat, Int.reduceGT, Int.reduceGE, ↓reduceIte, decide_true, decide_false, eq_self, Nat.mul_one, Nat.zero_mul, Nat.one_mul, Int.le_refl, Nat.le_refl, Int.cast_ofNat_Int, hlt, hltb, d1, d2, Span.cs, beq_self_eq_true]
            refine hI1 _ ⟨k + 1, by rw [take_snoc hx, take_snoc hy, hk], by omega⟩ (by simp only; omega) ?_
            simp (decide := true) (maxSteps := 4000000) only [go_sem, Nat.reduceAdd, Nat.reduceSub, Nat.reduceMul, Nat.reduceDiv, Nat.reduceMod, Nat.reduceLT, Nat.reduceLeDiff, Nat.reduceEqDiff, Nat.reduceBEq, Nat.reduceBNe, Nat.reduceGT, Int.reduceAdd, Int.reduceSub, Int.reduceMul, Int.reduceNeg, Int.reduceLT, Int.reduceLE, Int.reduceEq, Int.reduceNe, Int.reduceBEq, Int.reduceBNe, Int.reduceToNat, Int.reduceGT, Int.reduceGE, ↓reduceIte, decide_true, decide_false, eq_self, Nat.mul_one, Nat.zero_mul, Nat.one_mul, Int.le_refl, Nat.le_refl, Int.cast_ofNat_Int, hc1]
          · have hb : (x0 == y0 && x1 == y1) = false := by simpa using hxy
            simp (decide := true) (maxSteps := 4000000) only [go_sem, Nat.reduceAdd, Nat.reduceSub, Nat.reduceMul, Nat.reduceDiv, Nat.reduceMod, Nat.reduceLT, Nat.reduceLeDiff, Nat.reduceEqDiff, Nat.reduceBEq, Nat.reduceBNe, Nat.reduceGT, Int.reduceAdd, Int.reduceSub, Int.reduceMul, Int.reduceNeg, Int.reduceLT, Int.reduceLE, Int.reduceEq, Int.reduceNe, Int.reduceBEq, Int.reduceBNe, Int.reduceToNat, Int.reduceGT, Int.reduceGE, ↓reduceIte, decide_true, decide_false, eq_self, Nat.mul_one, Nat.zero_mul, Nat.one_mul, Int.le_refl, Nat.le_refl, Int.cast_ofNat_Int, hlt, hltb, d1, d2, Span.cs, hb]
            refine hQ1 _ _ ?_
            have : decide (a = b) = false := by
              rw [decide_eq_false_iff_not]
              rintro rfl
              rw [hx] at hy; cases hy; exact hxy ⟨rfl, rfl⟩
            simp (decide := true) (maxSteps := 4000000) only [go_sem, Nat.reduceAdd, Nat.reduceSub, Nat.reduceMul, Nat.reduceDiv, Nat.reduceMod, Nat.reduceLT, Nat.reduceLeDiff, Nat.reduceEqDiff, Nat.reduceBEq, Nat.reduceBNe, Nat.reduceGT, Int.reduceAdd, Int.reduceSub, Int.reduceMul, Int.reduceNeg, Int.reduceLT, Int.reduceLE, Int.reduceEq, Int.reduceNe, Int.reduceBEq, Int.reduceBNe, Int.reduceToNat, Int.reduceGT, Int.reduceGE, ↓reduceIte, decide_true, decide_false, eq_self, Nat.mul_one, Nat.zero_mul, Nat.one_mul, Int.le_refl, Nat.le_refl, Int.cast_ofNat_Int, this]
        · have hke : k = a.length := by omega
          subst hke
          simp (decide := true) (maxSteps := 4000000) only [go_sem, Nat.reduceAdd, Nat.reduceSub, Nat.reduceMul, Nat.reduceDiv, Nat.reduceMod, Nat.reduceLT, Nat.reduceLeDiff, Nat.reduceEqDiff, Nat.reduceBEq, Nat.reduceBNe, Nat.reduceGT, Int.reduceAdd, Int.reduceSub, Int.reduceMul, Int.reduceNeg, Int.reduceLT, Int.reduceLE, Int.reduceEq, Int.reduceNe, Int.reduceBEq, Int.reduceBNe, Int.reduceToNat, Int.reduceGT, Int.reduceGE, ↓reduceIte, decide_true, decide_false, eq_self, Nat.mul_one, Nat.zero_mul, Nat.one_mul, Int.le_refl, Nat.le_refl, Int.cast_ofNat_Int, hlt]
          refine hQ1 _ _ ?_
          have : decide (a = b) = true := by
            rw [decide_eq_true_eq]
            rwa [List.take_length, List.take_of_length_le (by omega)] at hk
          simp (decide := true) (maxSteps := 4000000) only [go_sem, Nat.reduceAdd, Nat.reduceSub, Nat.reduceMul, Nat.reduceDiv, Nat.reduceMod, Nat.reduceLT, Nat.reduceLeDiff, Nat.reduceEqDiff, Nat.reduceBEq, Nat.reduceBNe, Nat.reduceGT, Int.reduceAdd, Int.reduceSub, Int.reduceMul, Int.reduceNeg, Int.reduceLT, Int.reduceLE, Int.reduceEq, Int.reduceNe, Int.reduceBEq, Int.reduceBNe, Int.reduceToNat, Int.reduceGT, Int.reduceGE, ↓reduceIte, decide_true, decide_false, eq_self, Nat.mul_one, Nat.zero_mul, Nat.one_mul, Int.le_refl, Nat.le_refl, Int.cast_ofNat_Int, this]
  · have hl' : ((a.length : Int) != (b.length : Int)) = true := bne_int_t (by omega)
    have hd : decide (a = b) = false := by
      rw [decide_eq_false_iff_not]
      rintro rfl; exact hl rfl
    rcases hs with ⟨rfl, rfl⟩ | ⟨f1, rfl⟩ <;> rcases ht with ⟨rfl, rfl⟩ | ⟨f2, rfl⟩
    · exact absurd rfl hl
    all_goals
      try simp only [List.length_nil, Int.cast_ofNat_Int] at hl'
      simp (decide := true) (maxSteps := 4000000) only [go_sem, Nat.reduceAdd, Nat.reduceSub, Nat.reduceMul, Nat.reduceDiv, Nat.reduceMod, Nat.reduceLT, Nat.reduceLeDiff, Nat.reduceEqDiff, Nat.reduceBEq, Nat.reduceBNe, Nat.reduceGT, Int.reduceAdd, Int.reduceSub, Int.reduceMul, Int.reduceNeg, Int.reduceLT, Int.reduceLE, Int.reduceEq, Int.reduceNe, Int.reduceBEq, Int.reduceBNe, Int.reduceToNat, Int.reduceGT, Int.reduceGE, ↓reduceIte, decide_true, decide_false, eq_self, Nat.mul_one, Nat.zero_mul, Nat.one_mul, Int.le_refl, Nat.le_refl, Int.cast_ofNat_Int, Try.f26, hl', hd]
noncomputable def hgSameSpans : List TV → Option TV
  | [s, t] => match rowL unS s, rowL unS t with
    | some a, some b => if a.length ≤ 9223372036854775806 then some (.bool (decide (a = b))) else none
    | _, _ => none
  | _ => none
theorem hgSameSpans_ok : ∀ xs r, hgSameSpans xs = some r → PCalls Try.prog 26 xs r := by
  intro xs r h
  unfold hgSameSpans at h
  split at h
  · split at h
    · rename_i a b ha hb
      split at h
      · rename_i hc; cases h
        exact hSameSpans_c (rowL_some (un := unS) unS_nil (@unS_some) ha) (rowL_some (un := unS) unS_nil (@unS_some) hb) hc
      · cases h
    · cases h
  · cases h
noncomputable def spH12 : Pm.Spec := spH11.one 26 hgSameSpans
theorem spH12_ok : SpecOk Try.prog spH12 := Spec.one_ok hgSameSpans_ok spH11_ok
attribute [go_sem] hgSameSpans
@[go_sem] theorem spH12_p (f : FuncId) (xs : List TV) : spH12.p f xs = Pm.Spec.p (spH11.one 26 hgSameSpans) f xs := rfl
@[go_sem] theorem spH12_h (f : FuncId) (ps : List PV) (hl : List PO) : spH12.h f ps hl = Pm.Spec.h (spH11.one 26 hgSameSpans) f ps hl := rfl
@[go_sem] theorem spH12_fz (f : FuncId) : spH12.fz f = Pm.Spec.fz (spH11.one 26 hgSameSpans) f := rfl
@[go_sem] theorem spH12_fr (f : FuncId) : spH12.fr f = Pm.Spec.fr (spH11.one 26 hgSameSpans) f := rfl
@[go_sem] theorem spH12_mu (t : TypeId) : spH12.mu t = Pm.Spec.mu (spH11.one 26 hgSameSpans) t := rfl
@[go_sem] theorem spH12_nf (t : TypeId) : spH12.nf t = Pm.Spec.nf (spH11.one 26 hgSameSpans) t := rfl
theorem hPick_c {l : List Int} {s : TV} (hs : IsRow ic s l) (hl : l.length ≤ 9223372036854775806) (n : Int) : PCalls Try.prog 38 [s, .int .i64 n] (.int .i64 (pickI l n)) := by
  have hI := rowI_is hs
  refine pcalls_by Try.mixes spH12_ok (fn := Try.f38) Try.func38 rfl (by kernel_rfl) (by show 2 ≤ _; decide) ?_
  unfold pickI
  by_cases h0 : l.length = 0
  · have h0' : ((l.length : Int) == 0) = true := beq_int_t (by omega)
    rcases hs with ⟨rfl, rfl⟩ | ⟨full, rfl⟩ <;> simp (decide := true) (maxSteps := 4000000) only [go_sem, Nat.reduceAdd, Nat.reduceSub, Nat.reduceMul, Nat.reduceDiv, Nat.reduceMod, Nat.reduceLT, Nat.reduceLeDiff, Nat.reduceEqDiff, Nat.reduceBEq, Nat.reduceBNe, Nat.reduceGT, Int.reduceAdd, Int.reduceSub, Int.reduceMul, Int.reduceNeg, Int.reduceLT, Int.reduceLE, Int.reduceEq, Int.reduceNe, Int.reduceBEq, Int.reduceBNe, Int.reduceToNat, Int.reduceGT, Int.reduceGE, ↓reduceIte, decide_true, decide_false, eq_self, Nat.mul_one, Nat.zero_mul, Nat.one_mul, Int.le_refl, Nat.le_refl, Int.cast_ofNat_Int, Try.f38, h0, h0', List.length_nil]
  · have h0' : ((l.length : Int) == 0) = false := beq_int_f (by omega)
    obtain ⟨full, rfl⟩ := hs.ne (by omega)
    have hc : 0 < (l.length : Int) ∧ (l.length : Int) ≤ 9223372036854775807 := by omega
    have m1 := Int.emod_nonneg n (show (l.length : Int) ≠ 0 by omega)
    have m2 := Int.emod_lt_of_pos n (show 0 < (l.length : Int) by omega)
    obtain ⟨k, hk⟩ := Int.eq_ofNat_of_zero_le m1
    rw [hk] at m2
    obtain ⟨x, hx⟩ := get_lt m2
    have d := flat_at ic (n := 1) (fun _ => rfl) hx
    rw [Nat.mul_one] at d
    simp (decide := true) (maxSteps := 4000000) only [go_sem, Nat.reduceAdd, Nat.reduceSub, Nat.reduceMul, Nat.reduceDiv, Nat.reduceMod, Nat.reduceLT, Nat.reduceLeDiff, Nat.reduceEqDiff, Nat.reduceBEq, Nat.reduceBNe, Nat.reduceGT, Int.reduceAdd, Int.reduceSub, Int.reduceMul, Int.reduceNeg, Int.reduceLT, Int.reduceLE, Int.reduceEq, Int.reduceNe, Int.reduceBEq, Int.reduceBNe, Int.reduceToNat, Int.reduceGT, Int.reduceGE, ↓reduceIte, decide_true, decide_false, eq_self, Nat.mul_one, Nat.zero_mul, Nat.one_mul, Int.le_refl, Nat.le_refl, Int.cast_ofNat_Int, Try.f38, h0, h0', hc, hk, m2, d, ic, Int.toNat_natCast, nth_eq hx]
noncomputable def hgPick : List TV → Option TV
  | [s, .int .i64 n] => match rowL unI s with
    | some l => if l.length ≤ 9223372036854775806 then some (.int .i64 (pickI l n)) else none
    | none => none
  | _ => none
theorem hgPick_ok : ∀ xs r, hgPick xs = some r → PCalls Try.prog 38 xs r := by
  intro xs r h
  unfold hgPick at h
  split at h
  · split at h
    · rename_i l hl
      split at h
      · rename_i hc; cases h
        exact hPick_c (rowL_some (un := unI) unI_nil (@unI_some) hl) hc _
      · cases h
    · cases h
  · cases h
noncomputable def spH13 : Pm.Spec := spH12.one 38 hgPick
theorem spH13_ok : SpecOk Try.prog spH13 := Spec.one_ok hgPick_ok spH12_ok
attribute [go_sem] hgPick
@[go_sem] theorem spH13_p (f : FuncId) (xs : List TV) : spH13.p f xs = Pm.Spec.p (spH12.one 38 hgPick) f xs := rfl
@[go_sem] theorem spH13_h (f : FuncId) (ps : List PV) (hl : List PO) : spH13.h f ps hl = Pm.Spec.h (spH12.one 38 hgPick) f ps hl := rfl
@[go_sem] theorem spH13_fz (f : FuncId) : spH13.fz f = Pm.Spec.fz (spH12.one 38 hgPick) f := rfl
@[go_sem] theorem spH13_fr (f : FuncId) : spH13.fr f = Pm.Spec.fr (spH12.one 38 hgPick) f := rfl
@[go_sem] theorem spH13_mu (t : TypeId) : spH13.mu t = Pm.Spec.mu (spH12.one 38 hgPick) t := rfl
@[go_sem] theorem spH13_nf (t : TypeId) : spH13.nf t = Pm.Spec.nf (spH12.one 38 hgPick) t := rfl
theorem hBefore_c (a b : List Int) (fa fb : Bool) (ha : a.length ≤ 9223372036854775806) (hb : b.length ≤ 9223372036854775806) : PCalls Try.prog 47 [.sl (ints a) a.length fa, .sl (ints b) b.length fb] (.bool (before a b)) := by
  refine pcalls_by Try.mixes noSpec_ok (fn := Try.f47) Try.func47 rfl (by kernel_rfl) (by show 2 ≤ _; decide) ?_
  simp (decide := true) (maxSteps := 4000000) only [go_sem, Nat.reduceAdd, Nat.reduceSub, Nat.reduceMul, Nat.reduceDiv, Nat.reduceMod, Nat.reduceLT, Nat.reduceLeDiff, Nat.reduceEqDiff, Nat.reduceBEq, Nat.reduceBNe, Nat.reduceGT, Int.reduceAdd, Int.reduceSub, Int.reduceMul, Int.reduceNeg, Int.reduceLT, Int.reduceLE, Int.reduceEq, Int.reduceNe, Int.reduceBEq, Int.reduceBNe, Int.reduceToNat, Int.reduceGT, Int.reduceGE, ↓reduceIte, decide_true, decide_false, eq_self, Nat.mul_one, Nat.zero_mul, Nat.one_mul, Int.le_refl, Nat.le_refl, Int.cast_ofNat_Int, Try.f47]
  refine pwpC_loopU (A := { k : Nat // k ≤ min a.length b.length ∧ before a b = before (a.drop k) (b.drop k) }) [0, 1] (fun k => [(5, .t (.int .i64 k.1))]) (fun k => []) (fun k => min a.length b.length - k.1) ⟨0, by omega, rfl⟩ (by decide) (fun _ => by rfl) ?_ fun Q1 hQ1 ⟨k, hk, hbf⟩ I1 hI1 => ?_
  · simp (decide := true) (maxSteps := 4000000) only [go_sem, Nat.reduceAdd, Nat.reduceSub, Nat.reduceMul, Nat.reduceDiv, Nat.reduceMod, Nat.reduceLT, Nat.reduceLeDiff, Nat.reduceEqDiff, Nat.reduceBEq, Nat.reduceBNe, Nat.reduceGT, Int.reduceAdd, Int.reduceSub, Int.reduceMul, Int.reduceNeg, Int.reduceLT, Int.reduceLE, Int.reduceEq, Int.reduceNe, Int.reduceBEq, Int.reduceBNe, Int.reduceToNat, Int.reduceGT, Int.reduceGE, ↓reduceIte, decide_true, decide_false, eq_self, Nat.mul_one, Nat.zero_mul, Nat.one_mul, Int.le_refl, Nat.le_refl, Int.cast_ofNat_Int]
  · by_cases hlt : (k : Int) < min (a.length : Int) b.length
    · have hc1 : IntKind.i64.wrap (k + 1) = ((k + 1 : Nat) : Int) := by rw [wrap_in (by omega) (by omega)]; omega
      have hka : (k : Int) < a.length := by omega
      have hkb : (k : Int) < b.length := by omega
      obtain ⟨x, hx⟩ := get_lt hka
      obtain ⟨y, hy⟩ := get_lt hkb
      have da : a.drop k = x :: a.drop (k + 1) := by rw [List.drop_eq_getElem_cons (by omega)]; rw [List.getElem?_eq_getElem (by omega)] at hx; cases hx; rfl
      have db : b.drop k = y :: b.drop (k + 1) := by rw [List.drop_eq_getElem_cons (by omega)]; rw [List.getElem?_eq_getElem (by omega)] at hy; cases hy; rfl
      have ia := ints_at hx
      have ib := ints_at hy
      rw [Nat.mul_one] at ia ib
      rw [da, db] at hbf
      simp only [before] at hbf
      by_cases h1 : x < y
      · rw [if_pos h1] at hbf
        simp (decide := true) (maxSteps := 4000000) only [go_sem, Nat.reduceAdd, Nat.reduceSub, Nat.reduceMul, Nat.reduceDiv, Nat.reduceMod, Nat.reduceLT, Nat.reduceLeDiff, Nat.reduceEqDiff, Nat.reduceBEq, Nat.reduceBNe, Nat.reduceGT, Int.reduceAdd, Int.reduceSub, Int.reduceMul, Int.reduceNeg, Int.reduceLT, Int.reduceLE, Int.reduceEq, Int.reduceNe, Int.reduceBEq, Int.reduceBNe, Int.reduceToNat, Int.reduceGT, Int.reduceGE, ↓reduceIte, decide_true, decide_false, eq_self, Nat.mul_one, Nat.zero_mul, Nat.one_mul, Int.le_refl, Nat.le_refl, Int.cast_ofNat_Int, hlt, hka, hkb, ia, ib, h1, hbf]
        try (refine hQ1 _ _ ?_; simp (decide := true) (maxSteps := 4000000) only [go_sem, Nat.reduceAdd, Nat.reduceSub, Nat.reduceMul, Nat.reduceDiv, Nat.reduceMod, Nat.reduceLT, Nat.reduceLeDiff, Nat.reduceEqDiff, Nat.reduceBEq, Nat.reduceBNe, Nat.reduceGT, Int.reduceAdd, Int.reduceSub, Int.reduceMul, Int.reduceNeg, Int.reduceLT, Int.reduceLE, Int.reduceEq, Int.reduceNe, Int.reduceBEq, Int.reduceBNe, Int.reduceToNat, Int.reduceGT, Int.reduceGE, ↓reduceIte, decide_true, decide_false, eq_self, Nat.mul_one, Nat.zero_mul, Nat.one_mul, Int.le_refl, Nat.le_refl, Int.cast_ofNat_Int, hbf])
      · rw [if_neg h1] at hbf
        by_cases h2 : y < x
        · rw [if_pos h2] at hbf
          have h2' : x > y := h2
          simp (decide := true) (maxSteps := 4000000) only [go_sem, Nat.reduceAdd, Nat.reduceSub, Nat.reduceMul, Nat.reduceDiv, Nat.reduceMod, Nat.reduceLT, Nat.reduceLeDiff, Nat.reduceEqDiff, Nat.reduceBEq, Nat.reduceBNe, Nat.reduceGT, Int.reduceAdd, Int.reduceSub, Int.reduceMul, Int.reduceNeg, Int.reduceLT, Int.reduceLE, Int.reduceEq, Int.reduceNe, Int.reduceBEq, Int.reduceBNe, Int.reduceToNat, Int.reduceGT, Int.reduceGE, ↓reduceIte, decide_true, decide_false, eq_self, Nat.mul_one, Nat.zero_mul, Nat.one_mul, Int.le_refl, Nat.le_refl, Int.cast_ofNat_Int, hlt, hka, hkb, ia, ib, h1, h2', hbf]
          try (refine hQ1 _ _ ?_; simp (decide := true) (maxSteps := 4000000) only [go_sem, Nat.reduceAdd, Nat.reduceSub, Nat.reduceMul, Nat.reduceDiv, Nat.reduceMod, Nat.reduceLT, Nat.reduceLeDiff, Nat.reduceEqDiff, Nat.reduceBEq, Nat.reduceBNe, Nat.reduceGT, Int.reduceAdd, Int.reduceSub, Int.reduceMul, Int.reduceNeg, Int.reduceLT, Int.reduceLE, Int.reduceEq, Int.reduceNe, Int.reduceBEq, Int.reduceBNe, Int.reduceToNat, Int.reduceGT, Int.reduceGE, ↓reduceIte, decide_true, decide_false, eq_self, Nat.mul_one, Nat.zero_mul, Nat.one_mul, Int.le_refl, Nat.le_refl, Int.cast_ofNat_Int, hbf])
        · rw [if_neg h2] at hbf
          have h2' : ¬ x > y := h2
          simp (decide := true) (maxSteps := 4000000) only [go_sem, Nat.reduceAdd, Nat.reduceSub, Nat.reduceMul, Nat.reduceDiv, Nat.reduceMod, Nat.reduceLT, Nat.reduceLeDiff, Nat.reduceEqDiff, Nat.reduceBEq, Nat.reduceBNe, Nat.reduceGT, Int.reduceAdd, Int.reduceSub, Int.reduceMul, Int.reduceNeg, Int.reduceLT, Int.reduceLE, Int.reduceEq, Int.reduceNe, Int.reduceBEq, Int.reduceBNe, Int.reduceToNat, Int.reduceGT, Int.reduceGE, ↓reduceIte, decide_true, decide_false, eq_self, Nat.mul_one, Nat.zero_mul, Nat.one_mul, Int.le_refl, Nat.le_refl, Int.cast_ofNat_Int, hlt, hka, hkb, ia, ib, h1, h2']
          refine hI1 _ ⟨k + 1, by omega, hbf⟩ (by simp only; omega) ?_
          simp (decide := true) (maxSteps := 4000000) only [go_sem, Nat.reduceAdd, Nat.reduceSub, Nat.reduceMul, Nat.reduceDiv, Nat.reduceMod, Nat.reduceLT, Nat.reduceLeDiff, Nat.reduceEqDiff, Nat.reduceBEq, Nat.reduceBNe, Nat.reduceGT, Int.reduceAdd, Int.reduceSub, Int.reduceMul, Int.reduceNeg, Int.reduceLT, Int.reduceLE, Int.reduceEq, Int.reduceNe, Int.reduceBEq, Int.reduceBNe, Int.reduceToNat, Int.reduceGT, Int.reduceGE, ↓reduceIte, decide_true, decide_false, eq_self, Nat.mul_one, Nat.zero_mul, Nat.one_mul, Int.le_refl, Nat.le_refl, Int.cast_ofNat_Int, hc1]
    · simp (decide := true) (maxSteps := 4000000) only [go_sem, Nat.reduceAdd, Nat.reduceSub, Nat.reduceMul, Nat.reduceDiv, Nat.reduceMod, Nat.reduceLT, Nat.reduceLeDiff, Nat.reduceEqDiff, Nat.reduceBEq, Nat.reduceBNe, Nat.reduceGT, Int.reduceAdd, Int.reduceSub, Int.reduceMul, Int.reduceNeg, Int.reduceLT, Int.reduceLE, Int.reduceEq, Int.reduceNe, Int.reduceBEq, Int.reduceBNe, Int.reduceToNat, Int.reduceGT, Int.reduceGE, ↓reduceIte, decide_true, decide_false, eq_self, Nat.mul_one, Nat.zero_mul, Nat.one_mul, Int.le_refl, Nat.le_refl, Int.cast_ofNat_Int, hlt]
      refine hQ1 _ _ ?_
      have e : before a b = decide ((a.length : Int) < b.length) := by
        rw [hbf, before_end]
        · simp only [List.length_drop]
          rw [decide_eq_decide]
          omega
        · rcases Nat.le_total a.length b.length with h | h
          · exact .inl (List.drop_eq_nil_of_le (by omega))
          · exact .inr (List.drop_eq_nil_of_le (by omega))
      simp (decide := true) (maxSteps := 4000000) only [go_sem, Nat.reduceAdd, Nat.reduceSub, Nat.reduceMul, Nat.reduceDiv, Nat.reduceMod, Nat.reduceLT, Nat.reduceLeDiff, Nat.reduceEqDiff, Nat.reduceBEq, Nat.reduceBNe, Nat.reduceGT, Int.reduceAdd, Int.reduceSub, Int.reduceMul, Int.reduceNeg, Int.reduceLT, Int.reduceLE, Int.reduceEq, Int.reduceNe, Int.reduceBEq, Int.reduceBNe, Int.reduceToNat, Int.reduceGT, Int.reduceGE, ↓reduceIte, decide_true, decide_false, eq_self, Nat.mul_one, Nat.zero_mul, Nat.one_mul, Int.le_refl, Nat.le_refl, Int.cast_ofNat_Int, e]
noncomputable def hgBefore : List TV → Option TV
  | [.sl cs n f, .sl cs' n' f'] => match unI cs, unI cs' with
    | some a, some b => if n = a.length ∧ n' = b.length ∧ a.length ≤ 62 ∧ b.length ≤ 62 then some (.bool (before a b)) else none
    | _, _ => none
  | _ => none
theorem hgBefore_ok : ∀ xs r, hgBefore xs = some r → PCalls Try.prog 47 xs r := by
  intro xs r h
  unfold hgBefore at h
  split at h
  · split at h
    · rename_i a b ha hb
      split at h
      · rename_i hc; cases h
        have e1 := unI_some ha
        have e2 := unI_some hb
        rw [ic_ints] at e1 e2
        obtain ⟨rfl, rfl, h1, h2⟩ := hc
        rw [e1, e2]
        exact hBefore_c a b _ _ (by omega) (by omega)
      · cases h
    · cases h
  · cases h
noncomputable def spH14 : Pm.Spec := spH13.one 47 hgBefore
theorem spH14_ok : SpecOk Try.prog spH14 := Spec.one_ok hgBefore_ok spH13_ok
attribute [go_sem] hgBefore
@[go_sem] theorem spH14_p (f : FuncId) (xs : List TV) : spH14.p f xs = Pm.Spec.p (spH13.one 47 hgBefore) f xs := rfl
@[go_sem] theorem spH14_h (f : FuncId) (ps : List PV) (hl : List PO) : spH14.h f ps hl = Pm.Spec.h (spH13.one 47 hgBefore) f ps hl := rfl
@[go_sem] theorem spH14_fz (f : FuncId) : spH14.fz f = Pm.Spec.fz (spH13.one 47 hgBefore) f := rfl
@[go_sem] theorem spH14_fr (f : FuncId) : spH14.fr f = Pm.Spec.fr (spH13.one 47 hgBefore) f := rfl
@[go_sem] theorem spH14_mu (t : TypeId) : spH14.mu t = Pm.Spec.mu (spH13.one 47 hgBefore) t := rfl
@[go_sem] theorem spH14_nf (t : TypeId) : spH14.nf t = Pm.Spec.nf (spH13.one 47 hgBefore) t := rfl
theorem hMembers_c (s n : Nat) (hn : n ≤ 62) : PCalls Try.prog 46 [.int .i64 s, .int .i64 n] (rowI (nI (setN n s))) := by
  refine pcalls_by Try.mixes spH14_ok (fn := Try.f46) Try.func46 rfl (by kernel_rfl) (by show 2 ≤ _; decide) ?_
  simp (decide := true) (maxSteps := 4000000) only [go_sem, Nat.reduceAdd, Nat.reduceSub, Nat.reduceMul, Nat.reduceDiv, Nat.reduceMod, Nat.reduceLT, Nat.reduceLeDiff, Nat.reduceEqDiff, Nat.reduceBEq, Nat.reduceBNe, Nat.reduceGT, Int.reduceAdd, Int.reduceSub, Int.reduceMul, Int.reduceNeg, Int.reduceLT, Int.reduceLE, Int.reduceEq, Int.reduceNe, Int.reduceBEq, Int.reduceBNe, Int.reduceToNat, Int.reduceGT, Int.reduceGE, ↓reduceIte, decide_true, decide_false, eq_self, Nat.mul_one, Nat.zero_mul, Nat.one_mul, Int.le_refl, Nat.le_refl, Int.cast_ofNat_Int, Try.f46]
  refine pwpC_loopU (A := { k : Nat // k ≤ n }) [0, 1] (fun k => [(6, .t (.int .i64 k.1)), (5, .own (ints (nI (setN k.1 s))) (setN k.1 s).length 0)]) (fun k => [(0, .tok (setN k.1 s).length 3)]) (fun k => n - k.1) ⟨0, by omega⟩ (by decide) (fun _ => by rfl) ?_ fun Q1 hQ1 ⟨k, hk⟩ I1 hI1 => ?_
  · simp (decide := true) (maxSteps := 4000000) only [go_sem, Nat.reduceAdd, Nat.reduceSub, Nat.reduceMul, Nat.reduceDiv, Nat.reduceMod, Nat.reduceLT, Nat.reduceLeDiff, Nat.reduceEqDiff, Nat.reduceBEq, Nat.reduceBNe, Nat.reduceGT, Int.reduceAdd, Int.reduceSub, Int.reduceMul, Int.reduceNeg, Int.reduceLT, Int.reduceLE, Int.reduceEq, Int.reduceNe, Int.reduceBEq, Int.reduceBNe, Int.reduceToNat, Int.reduceGT, Int.reduceGE, ↓reduceIte, decide_true, decide_false, eq_self, Nat.mul_one, Nat.zero_mul, Nat.one_mul, Int.le_refl, Nat.le_refl, Int.cast_ofNat_Int]
    exact ⟨⟨rfl, rfl⟩, rfl⟩
  · by_cases hlt : (k : Int) < n
    · have hc1 : IntKind.i64.wrap (k + 1) = ((k + 1 : Nat) : Int) := by rw [wrap_in (by omega) (by omega)]; omega
      have c1 : 0 ≤ (s : Int) ∧ 0 ≤ (k : Int) ∧ (k : Int) < 64 := by omega
      have hle := setN_len k s
      have hr : ((setN k s).length + 1) * 8 ≤ 140737488355328 := by omega
      have e2 : (ints (nI (setN k s))).length = (setN k s).length := by rw [ints_len, nI_len]
      cases hb : s.testBit k with
      | false =>
        simp (decide := true) (maxSteps := 4000000) only [go_sem, Nat.reduceAdd, Nat.reduceSub, Nat.reduceMul, Nat.reduceDiv, Nat.reduceMod, Nat.reduceLT, Nat.reduceLeDiff, Nat.reduceEqDiff, Nat.reduceBEq, Nat.reduceBNe, Nat.reduceGT, Int.reduceAdd, Int.reduceSub, Int.reduceMul, Int.reduceNeg, Int.reduceLT, Int.reduceLE, Int.reduceEq, Int.reduceNe, Int.reduceBEq, Int.reduceBNe, Int.reduceToNat, Int.reduceGT, Int.reduceGE, ↓reduceIte, decide_true, decide_false, eq_self, Nat.mul_one, Nat.zero_mul, Nat.one_mul, Int.le_refl, Nat.le_refl, Int.cast_ofNat_Int, hlt, c1, hb]
        refine hI1 _ ⟨k + 1, by omega⟩ (by simp only; omega) ?_
        simp (decide := true) (maxSteps := 4000000) only [go_sem, Nat.reduceAdd, Nat.reduceSub, Nat.reduceMul, Nat.reduceDiv, Nat.reduceMod, Nat.reduceLT, Nat.reduceLeDiff, Nat.reduceEqDiff, Nat.reduceBEq, Nat.reduceBNe, Nat.reduceGT, Int.reduceAdd, Int.reduceSub, Int.reduceMul, Int.reduceNeg, Int.reduceLT, Int.reduceLE, Int.reduceEq, Int.reduceNe, Int.reduceBEq, Int.reduceBNe, Int.reduceToNat, Int.reduceGT, Int.reduceGE, ↓reduceIte, decide_true, decide_false, eq_self, Nat.mul_one, Nat.zero_mul, Nat.one_mul, Int.le_refl, Nat.le_refl, Int.cast_ofNat_Int, hc1, setN_f hb]
      | true =>
        simp (decide := true) (maxSteps := 4000000) only [go_sem, Nat.reduceAdd, Nat.reduceSub, Nat.reduceMul, Nat.reduceDiv, Nat.reduceMod, Nat.reduceLT, Nat.reduceLeDiff, Nat.reduceEqDiff, Nat.reduceBEq, Nat.reduceBNe, Nat.reduceGT, Int.reduceAdd, Int.reduceSub, Int.reduceMul, Int.reduceNeg, Int.reduceLT, Int.reduceLE, Int.reduceEq, Int.reduceNe, Int.reduceBEq, Int.reduceBNe, Int.reduceToNat, Int.reduceGT, Int.reduceGE, ↓reduceIte, decide_true, decide_false, eq_self, Nat.mul_one, Nat.zero_mul, Nat.one_mul, Int.le_refl, Nat.le_refl, Int.cast_ofNat_Int, hlt, c1, hb, hr, e2]
        refine hI1 _ ⟨k + 1, by omega⟩ (by simp only; omega) ?_
        simp (decide := true) (maxSteps := 4000000) only [go_sem, Nat.reduceAdd, Nat.reduceSub, Nat.reduceMul, Nat.reduceDiv, Nat.reduceMod, Nat.reduceLT, Nat.reduceLeDiff, Nat.reduceEqDiff, Nat.reduceBEq, Nat.reduceBNe, Nat.reduceGT, Int.reduceAdd, Int.reduceSub, Int.reduceMul, Int.reduceNeg, Int.reduceLT, Int.reduceLE, Int.reduceEq, Int.reduceNe, Int.reduceBEq, Int.reduceBNe, Int.reduceToNat, Int.reduceGT, Int.reduceGE, ↓reduceIte, decide_true, decide_false, eq_self, Nat.mul_one, Nat.zero_mul, Nat.one_mul, Int.le_refl, Nat.le_refl, Int.cast_ofNat_Int, hc1, setN_t hb, nI_snoc, ints_snoc, List.length_append]
    · have hkn : k = n := by omega
      subst hkn
      simp (decide := true) (maxSteps := 4000000) only [go_sem, Nat.reduceAdd, Nat.reduceSub, Nat.reduceMul, Nat.reduceDiv, Nat.reduceMod, Nat.reduceLT, Nat.reduceLeDiff, Nat.reduceEqDiff, Nat.reduceBEq, Nat.reduceBNe, Nat.reduceGT, Int.reduceAdd, Int.reduceSub, Int.reduceMul, Int.reduceNeg, Int.reduceLT, Int.reduceLE, Int.reduceEq, Int.reduceNe, Int.reduceBEq, Int.reduceBNe, Int.reduceToNat, Int.reduceGT, Int.reduceGE, ↓reduceIte, decide_true, decide_false, eq_self, Nat.mul_one, Nat.zero_mul, Nat.one_mul, Int.le_refl, Nat.le_refl, Int.cast_ofNat_Int, hlt]
      refine hQ1 _ _ ?_
      simp (decide := true) (maxSteps := 4000000) only [go_sem, Nat.reduceAdd, Nat.reduceSub, Nat.reduceMul, Nat.reduceDiv, Nat.reduceMod, Nat.reduceLT, Nat.reduceLeDiff, Nat.reduceEqDiff, Nat.reduceBEq, Nat.reduceBNe, Nat.reduceGT, Int.reduceAdd, Int.reduceSub, Int.reduceMul, Int.reduceNeg, Int.reduceLT, Int.reduceLE, Int.reduceEq, Int.reduceNe, Int.reduceBEq, Int.reduceBNe, Int.reduceToNat, Int.reduceGT, Int.reduceGE, ↓reduceIte, decide_true, decide_false, eq_self, Nat.mul_one, Nat.zero_mul, Nat.one_mul, Int.le_refl, Nat.le_refl, Int.cast_ofNat_Int, rowI, nI_len]
noncomputable def hgMembers : List TV → Option TV
  | [.int .i64 s, .int .i64 n] => if 0 ≤ s ∧ 0 ≤ n ∧ n ≤ 62 then some (rowI (nI (setN n.toNat s.toNat))) else none
  | _ => none
theorem hgMembers_ok : ∀ xs r, hgMembers xs = some r → PCalls Try.prog 46 xs r := by
  intro xs r h
  unfold hgMembers at h
  split at h
  · split at h
    · rename_i s n hc; cases h
      have := hMembers_c s.toNat n.toNat (by omega)
      rwa [Int.toNat_of_nonneg hc.1, Int.toNat_of_nonneg hc.2.1] at this
    · cases h
  · cases h
noncomputable def spH15 : Pm.Spec := spH14.one 46 hgMembers
theorem spH15_ok : SpecOk Try.prog spH15 := Spec.one_ok hgMembers_ok spH14_ok
attribute [go_sem] hgMembers
@[go_sem] theorem spH15_p (f : FuncId) (xs : List TV) : spH15.p f xs = Pm.Spec.p (spH14.one 46 hgMembers) f xs := rfl
@[go_sem] theorem spH15_h (f : FuncId) (ps : List PV) (hl : List PO) : spH15.h f ps hl = Pm.Spec.h (spH14.one 46 hgMembers) f ps hl := rfl
@[go_sem] theorem spH15_fz (f : FuncId) : spH15.fz f = Pm.Spec.fz (spH14.one 46 hgMembers) f := rfl
@[go_sem] theorem spH15_fr (f : FuncId) : spH15.fr f = Pm.Spec.fr (spH14.one 46 hgMembers) f := rfl
@[go_sem] theorem spH15_mu (t : TypeId) : spH15.mu t = Pm.Spec.mu (spH14.one 46 hgMembers) t := rfl
@[go_sem] theorem spH15_nf (t : TypeId) : spH15.nf t = Pm.Spec.nf (spH14.one 46 hgMembers) t := rfl
theorem hRising_c (S : List Nat) (fs : Bool) (n : Nat) (hS : rowN n S) (hn : n ≤ 62) : PCalls Try.prog 44 [.sl (ints (nI S)) S.length fs, .int .i64 n] (.bool true) := by
  have hS' := rowN_iff.1 hS
  have hlen := rowN_len hS
  refine pcalls_by Try.mixes spH15_ok (fn := Try.f44) Try.func44 rfl (by kernel_rfl) (by show 2 ≤ _; decide) ?_
  simp (decide := true) (maxSteps := 4000000) only [go_sem, Nat.reduceAdd, Nat.reduceSub, Nat.reduceMul, Nat.reduceDiv, Nat.reduceMod, Nat.reduceLT, Nat.reduceLeDiff, Nat.reduceEqDiff, Nat.reduceBEq, Nat.reduceBNe, Nat.reduceGT, Int.reduceAdd, Int.reduceSub, Int.reduceMul, Int.reduceNeg, Int.reduceLT, Int.reduceLE, Int.reduceEq, Int.reduceNe, Int.reduceBEq, Int.reduceBNe, Int.reduceToNat, Int.reduceGT, Int.reduceGE, ↓reduceIte, decide_true, decide_false, eq_self, Nat.mul_one, Nat.zero_mul, Nat.one_mul, Int.le_refl, Nat.le_refl, Int.cast_ofNat_Int, Try.f44]
  refine pwpC_loopU (A := { k : Nat // k ≤ S.length }) [0, 1] (fun k => [(5, .t (.int .i64 k.1))]) (fun k => []) (fun k => S.length - k.1) ⟨0, by omega⟩ (by decide) (fun _ => by rfl) ?_ fun Q1 hQ1 ⟨k, hk⟩ I1 hI1 => ?_
  · simp (decide := true) (maxSteps := 4000000) only [go_sem, Nat.reduceAdd, Nat.reduceSub, Nat.reduceMul, Nat.reduceDiv, Nat.reduceMod, Nat.reduceLT, Nat.reduceLeDiff, Nat.reduceEqDiff, Nat.reduceBEq, Nat.reduceBNe, Nat.reduceGT, Int.reduceAdd, Int.reduceSub, Int.reduceMul, Int.reduceNeg, Int.reduceLT, Int.reduceLE, Int.reduceEq, Int.reduceNe, Int.reduceBEq, Int.reduceBNe, Int.reduceToNat, Int.reduceGT, Int.reduceGE, ↓reduceIte, decide_true, decide_false, eq_self, Nat.mul_one, Nat.zero_mul, Nat.one_mul, Int.le_refl, Nat.le_refl, Int.cast_ofNat_Int]
  · by_cases hlt : (k : Int) < S.length
    · obtain ⟨i, hi⟩ := get_lt hlt
      have hil := hS'.2 i (List.mem_of_getElem? hi)
      have hin : (nI S)[k]? = some (i : Int) := by unfold nI; rw [List.getElem?_map, hi]; rfl
      have hdi := ints_at hin
      rw [Nat.mul_one] at hdi
      have hc1 : IntKind.i64.wrap (k + 1) = ((k + 1 : Nat) : Int) := by rw [wrap_in (by omega) (by omega)]; omega
      have w1 : IntKind.i64.wrap ((n : Int) - 1) = (n : Int) - 1 := wrap_in (by omega) (by omega)
      have hb : inB (i : Int) 0 ((n : Int) - 1) = true := inB_iff.2 (by omega)
      rcases Nat.eq_zero_or_pos k with h0 | h0
      · subst h0
        have hlt0 : (0 : Int) < S.length := by omega
        rw [List.drop_zero] at hdi
        simp (decide := true) (maxSteps := 4000000) only [go_sem, Nat.reduceAdd, Nat.reduceSub, Nat.reduceMul, Nat.reduceDiv, Nat.reduceMod, Nat.reduceLT, Nat.reduceLeDiff, Nat.reduceEqDiff, Nat.reduceBEq, Nat.reduceBNe, Nat.reduceGT, Int.reduceAdd, Int.reduceSub, Int.reduceMul, Int.reduceNeg, Int.reduceLT, Int.reduceLE, Int.reduceEq, Int.reduceNe, Int.reduceBEq, Int.reduceBNe, Int.reduceToNat, Int.reduceGT, Int.reduceGE, ↓reduceIte, decide_true, decide_false, eq_self, Nat.mul_one, Nat.zero_mul, Nat.one_mul, Int.le_refl, Nat.le_refl, Int.cast_ofNat_Int, hlt0, hdi, w1, hb]
        refine hI1 _ ⟨0 + 1, by omega⟩ (by simp only; omega) ?_
        simp (decide := true) (maxSteps := 4000000) only [go_sem, Nat.reduceAdd, Nat.reduceSub, Nat.reduceMul, Nat.reduceDiv, Nat.reduceMod, Nat.reduceLT, Nat.reduceLeDiff, Nat.reduceEqDiff, Nat.reduceBEq, Nat.reduceBNe, Nat.reduceGT, Int.reduceAdd, Int.reduceSub, Int.reduceMul, Int.reduceNeg, Int.reduceLT, Int.reduceLE, Int.reduceEq, Int.reduceNe, Int.reduceBEq, Int.reduceBNe, Int.reduceToNat, Int.reduceGT, Int.reduceGE, ↓reduceIte, decide_true, decide_false, eq_self, Nat.mul_one, Nat.zero_mul, Nat.one_mul, Int.le_refl, Nat.le_refl, Int.cast_ofNat_Int, hdi]
      · obtain ⟨j, hj⟩ := get_lt (l := S) (k := k - 1) (by omega)
        have hjn : (nI S)[k - 1]? = some (j : Int) := by unfold nI; rw [List.getElem?_map, hj]; rfl
        have hdj := ints_at hjn
        rw [Nat.mul_one] at hdj
        have hji : j < i := by
          have e1 := List.getElem?_eq_some_iff.1 hj
          have e2 := List.getElem?_eq_some_iff.1 hi
          obtain ⟨a1, b1⟩ := e1
          obtain ⟨a2, b2⟩ := e2
          have := List.pairwise_iff_getElem.1 hS'.1 (k - 1) k a1 a2 (by omega)
          omega
        have hji' : ¬ (i : Int) ≤ j := by omega
        have hk0 : (k : Int) > 0 := by omega
        have w2 : IntKind.i64.wrap ((k : Int) - 1) = ((k - 1 : Nat) : Int) := by rw [wrap_in (by omega) (by omega)]; omega
        have hlt2 : ((k - 1 : Nat) : Int) < S.length := by omega
        simp (decide := true) (maxSteps := 4000000) only [go_sem, Nat.reduceAdd, Nat.reduceSub, Nat.reduceMul, Nat.reduceDiv, Nat.reduceMod, Nat.reduceLT, Nat.reduceLeDiff, Nat.reduceEqDiff, Nat.reduceBEq, Nat.reduceBNe, Nat.reduceGT, Int.reduceAdd, Int.reduceSub, Int.reduceMul, Int.reduceNeg, Int.reduceLT, Int.reduceLE, Int.reduceEq, Int.reduceNe, Int.reduceBEq, Int.reduceBNe, Int.reduceToNat, Int.reduceGT, Int.reduceGE, ↓reduceIte, decide_true, decide_false, eq_self, Nat.mul_one, Nat.zero_mul, Nat.one_mul, Int.le_refl, Nat.le_refl, Int.cast_ofNat_Int, hlt, hdi, w1, hb, hk0, w2, hlt2, hdj, hji']
        refine hI1 _ ⟨k + 1, by omega⟩ (by simp only; omega) ?_
        simp (decide := true) (maxSteps := 4000000) only [go_sem, Nat.reduceAdd, Nat.reduceSub, Nat.reduceMul, Nat.reduceDiv, Nat.reduceMod, Nat.reduceLT, Nat.reduceLeDiff, Nat.reduceEqDiff, Nat.reduceBEq, Nat.reduceBNe, Nat.reduceGT, Int.reduceAdd, Int.reduceSub, Int.reduceMul, Int.reduceNeg, Int.reduceLT, Int.reduceLE, Int.reduceEq, Int.reduceNe, Int.reduceBEq, Int.reduceBNe, Int.reduceToNat, Int.reduceGT, Int.reduceGE, ↓reduceIte, decide_true, decide_false, eq_self, Nat.mul_one, Nat.zero_mul, Nat.one_mul, Int.le_refl, Nat.le_refl, Int.cast_ofNat_Int, hc1]
    · simp (decide := true) (maxSteps := 4000000) only [go_sem, Nat.reduceAdd, Nat.reduceSub, Nat.reduceMul, Nat.reduceDiv, Nat.reduceMod, Nat.reduceLT, Nat.reduceLeDiff, Nat.reduceEqDiff, Nat.reduceBEq, Nat.reduceBNe, Nat.reduceGT, Int.reduceAdd, Int.reduceSub, Int.reduceMul, Int.reduceNeg, Int.reduceLT, Int.reduceLE, Int.reduceEq, Int.reduceNe, Int.reduceBEq, Int.reduceBNe, Int.reduceToNat, Int.reduceGT, Int.reduceGE, ↓reduceIte, decide_true, decide_false, eq_self, Nat.mul_one, Nat.zero_mul, Nat.one_mul, Int.le_refl, Nat.le_refl, Int.cast_ofNat_Int, hlt]
      refine hQ1 _ _ ?_
      simp (decide := true) (maxSteps := 4000000) only [go_sem, Nat.reduceAdd, Nat.reduceSub, Nat.reduceMul, Nat.reduceDiv, Nat.reduceMod, Nat.reduceLT, Nat.reduceLeDiff, Nat.reduceEqDiff, Nat.reduceBEq, Nat.reduceBNe, Nat.reduceGT, Int.reduceAdd, Int.reduceSub, Int.reduceMul, Int.reduceNeg, Int.reduceLT, Int.reduceLE, Int.reduceEq, Int.reduceNe, Int.reduceBEq, Int.reduceBNe, Int.reduceToNat, Int.reduceGT, Int.reduceGE, ↓reduceIte, decide_true, decide_false, eq_self, Nat.mul_one, Nat.zero_mul, Nat.one_mul, Int.le_refl, Nat.le_refl, Int.cast_ofNat_Int]
noncomputable def hgRising : List TV → Option TV
  | [.sl cs n f, .int .i64 b] => match unI cs with
    | some a => if n = a.length ∧ 0 ≤ b ∧ b ≤ 62 ∧ nI (toN a) = a ∧ rowB b.toNat (toN a) = true then some (.bool true) else none
    | none => none
  | _ => none
theorem hgRising_ok : ∀ xs r, hgRising xs = some r → PCalls Try.prog 44 xs r := by
  intro xs r h
  unfold hgRising at h
  split at h
  · split at h
    · rename_i a ha
      split at h
      · rename_i hc; cases h
        have e2 := unI_some ha
        rw [ic_ints] at e2
        obtain ⟨rfl, h1, h2, h3, h4⟩ := hc
        have := hRising_c (toN a) (by assumption) _ (rowB_of h4) (by omega)
        rw [h3, show (toN a).length = a.length from List.length_map _, Int.toNat_of_nonneg h1] at this
        rw [e2]
        exact this
      · cases h
    · cases h
  · cases h
noncomputable def spH16 : Pm.Spec := spH15.one 44 hgRising
theorem spH16_ok : SpecOk Try.prog spH16 := Spec.one_ok hgRising_ok spH15_ok
attribute [go_sem] hgRising
@[go_sem] theorem spH16_p (f : FuncId) (xs : List TV) : spH16.p f xs = Pm.Spec.p (spH15.one 44 hgRising) f xs := rfl
@[go_sem] theorem spH16_h (f : FuncId) (ps : List PV) (hl : List PO) : spH16.h f ps hl = Pm.Spec.h (spH15.one 44 hgRising) f ps hl := rfl
@[go_sem] theorem spH16_fz (f : FuncId) : spH16.fz f = Pm.Spec.fz (spH15.one 44 hgRising) f := rfl
@[go_sem] theorem spH16_fr (f : FuncId) : spH16.fr f = Pm.Spec.fr (spH15.one 44 hgRising) f := rfl
@[go_sem] theorem spH16_mu (t : TypeId) : spH16.mu t = Pm.Spec.mu (spH15.one 44 hgRising) t := rfl
@[go_sem] theorem spH16_nf (t : TypeId) : spH16.nf t = Pm.Spec.nf (spH15.one 44 hgRising) t := rfl
noncomputable def spH : Pm.Spec := spH16
@[go_sem] theorem spH_p (f : FuncId) (xs : List TV) : spH.p f xs = Pm.Spec.p (spH16) f xs := rfl
@[go_sem] theorem spH_h (f : FuncId) (ps : List PV) (hl : List PO) : spH.h f ps hl = Pm.Spec.h (spH16) f ps hl := rfl
@[go_sem] theorem spH_fz (f : FuncId) : spH.fz f = Pm.Spec.fz (spH16) f := rfl
@[go_sem] theorem spH_fr (f : FuncId) : spH.fr f = Pm.Spec.fr (spH16) f := rfl
@[go_sem] theorem spH_mu (t : TypeId) : spH.mu t = Pm.Spec.mu (spH16) t := rfl
@[go_sem] theorem spH_nf (t : TypeId) : spH.nf t = Pm.Spec.nf (spH16) t := rfl
theorem spH_ok : SpecOk Try.prog spH := spH16_ok
theorem noSpec_okH : SpecOk Try.prog noSpec := noSpec_ok
end Go.Proofs.Ytjmkccckohcfkaa

/- Part Sa. -/
namespace Go.Os
open Go Go.Pm Go.Oc Go.Oh

structure Sx where
  step : Int
  tab : List Span
  idx : Span
  wrong : Int
  shade : List Span
def Sx.cs (x : Sx) (sT sS : TV) : List TV := [.int .i64 x.step, sT, .int .i64 x.idx.lo, .int .i64 x.idx.hi, .int .i64 x.wrong, sS]
def Sx.t (x : Sx) (sT sS : TV) : TV := .agg (x.cs sT sS)
def sxOk (x : Sx) : Bool := inB x.step 1 72000 && (inB x.tab.length 2 12 && (x.tab.all (spannedB · (-600) 600) && (decide (x.step * (x.tab.length - 1) ≤ 504000) && (spannedB x.idx (-1800) 1800 && (inB x.wrong 0 60 && (decide ((x.shade.length : Int) ≤ 6) && x.shade.all (spannedB · (-120) 120)))))))
theorem spannedB_iff {s : Span} {a b : Int} : spannedB s a b = true ↔ a ≤ s.lo ∧ s.lo ≤ s.hi ∧ s.hi ≤ b := by simp [spannedB, and_assoc]
structure GoodS (x : Sx) : Prop where
  st : 1 ≤ x.step ∧ x.step ≤ 72000
  len : 2 ≤ x.tab.length ∧ x.tab.length ≤ 12
  tab : ∀ s ∈ x.tab, -600 ≤ s.lo ∧ s.lo ≤ s.hi ∧ s.hi ≤ 600
  long : x.step * (x.tab.length - 1) ≤ 504000
  idx : -1800 ≤ x.idx.lo ∧ x.idx.lo ≤ x.idx.hi ∧ x.idx.hi ≤ 1800
  wr : 0 ≤ x.wrong ∧ x.wrong ≤ 60
  sh : x.shade.length ≤ 6
  shade : ∀ s ∈ x.shade, -120 ≤ s.lo ∧ s.lo ≤ s.hi ∧ s.hi ≤ 120
theorem sxOk_iff {x : Sx} : sxOk x = true ↔ GoodS x := by
  unfold sxOk
  simp only [Bool.and_eq_true, inB_iff, decide_eq_true_eq, List.all_eq_true, spannedB_iff]
  constructor
  · rintro ⟨a, b, c, d, e, f, g, h⟩; exact ⟨a, ⟨by omega, by omega⟩, c, d, e, f, by omega, h⟩
  · rintro ⟨a, b, c, d, e, f, g, h⟩; exact ⟨a, ⟨by omega, by omega⟩, c, d, e, f, by omega, h⟩
/-- The span at a place. -/
def atS (l : List Span) (k : Nat) : Span := l.getD k ⟨0, 0⟩
theorem atS_eq {l : List Span} {k : Nat} {x : Span} (h : l[k]? = some x) : atS l k = x := by
  unfold atS; rw [List.getD_eq_getElem?_getD, h]; rfl
/-- Between what the correction at an angle lies. -/
def corr (step : Int) (l : List Span) (at' : Int) : Span :=
  let k := (at' / step).toNat; let d := at' % step
  if d = 0 then atS l k else ⟨((atS l k).lo * (step - d) + (atS l (k + 1)).lo * d) / step, ((atS l k).hi * (step - d) + (atS l (k + 1)).hi * d) / step⟩
def last (x : Sx) : Int := x.step * (x.tab.length - 1)
theorem last_b {x : Sx} (h : GoodS x) : 1 ≤ last x ∧ last x ≤ 504000 := by
  refine ⟨?_, h.long⟩
  have h1 := h.len; have h2 := h.st
  have := Int.mul_le_mul h2.1 (show (1 : Int) ≤ (x.tab.length : Int) - 1 by omega) (by omega) (by omega)
  unfold last; omega
def isRd (x : Sx) (at' sh : Int) : Bool := inB at' 0 (last x) && inB sh 0 (2 ^ x.shade.length - 1)
/-- The place of an angle in the table. -/
structure InTab (step : Int) (n : Nat) (at' : Int) : Prop where
  k0 : 0 ≤ at' / step
  kn : (at' / step).toNat < n
  d0 : 0 ≤ at' % step
  ds : at' % step < step
  kd : at' % step ≠ 0 → (at' / step).toNat + 1 < n
theorem inTab {step : Int} {n : Nat} {at' : Int} (hs : 1 ≤ step) (hn : 1 ≤ n) (h0 : 0 ≤ at') (h1 : at' ≤ step * (n - 1)) : InTab step n at' := by
  have e1 := Int.emod_nonneg at' (show step ≠ 0 by omega)
  have e2 := Int.emod_lt_of_pos at' (show 0 < step by omega)
  have e3 := Int.mul_ediv_add_emod at' step
  have q0 : 0 ≤ at' / step := Int.ediv_nonneg h0 (by omega)
  have q1 : at' / step ≤ (n : Int) - 1 := by
    have := Int.ediv_le_ediv (show 0 < step by omega) h1
    rwa [Int.mul_ediv_cancel_left _ (by omega)] at this
  refine ⟨q0, by omega, e1, e2, fun hd => ?_⟩
  have q2 : at' / step ≠ (n : Int) - 1 := fun e => by
    rw [e] at e3; omega
  omega
theorem mulR {a b m n : Int} (ha : -m ≤ a ∧ a ≤ m) (hb : 0 ≤ b ∧ b ≤ n) (hm : 0 ≤ m) : -(m * n) ≤ a * b ∧ a * b ≤ m * n := by
  have h1 := Int.mul_le_mul_of_nonneg_right ha.2 hb.1
  have h2 := Int.mul_le_mul_of_nonneg_left hb.2 hm
  have h3 := Int.mul_le_mul_of_nonneg_right ha.1 hb.1
  have h4 : -m * b = -(m * b) := Int.neg_mul m b
  omega
/-- A weighted middle lies between. -/
theorem mid_b {a b d s m : Int} (ha : -m ≤ a ∧ a ≤ m) (hb : -m ≤ b ∧ b ≤ m) (hd : 0 ≤ d ∧ d < s) : -m ≤ (a * (s - d) + b * d) / s ∧ (a * (s - d) + b * d) / s ≤ m := by
  have hs : 0 < s := by omega
  have h1 := Int.mul_le_mul_of_nonneg_right ha.1 (show 0 ≤ s - d by omega)
  have h2 := Int.mul_le_mul_of_nonneg_right ha.2 (show 0 ≤ s - d by omega)
  have h3 := Int.mul_le_mul_of_nonneg_right hb.1 hd.1
  have h4 := Int.mul_le_mul_of_nonneg_right hb.2 hd.1
  have e1 : m * (s - d) + m * d = m * s := by rw [← Int.mul_add]; congr 1; omega
  have e2 : -m * (s - d) + -m * d = -m * s := by rw [← Int.mul_add]; congr 1; omega
  constructor
  · rw [Int.le_ediv_iff_mul_le hs]; omega
  · have := Int.ediv_le_ediv hs (show a * (s - d) + b * d ≤ m * s by omega)
    rwa [Int.mul_ediv_cancel _ (by omega)] at this
theorem atS_mem {l : List Span} {k : Nat} (h : k < l.length) : atS l k ∈ l := by
  rw [atS_eq (List.getElem?_eq_getElem h)]; exact List.getElem_mem h
theorem mid_le {a b a' b' d s : Int} (ha : a ≤ a') (hb : b ≤ b') (hd : 0 ≤ d ∧ d < s) : (a * (s - d) + b * d) / s ≤ (a' * (s - d) + b' * d) / s := by
  refine Int.ediv_le_ediv (by omega) ?_
  have h1 := Int.mul_le_mul_of_nonneg_right ha (show 0 ≤ s - d by omega)
  have h2 := Int.mul_le_mul_of_nonneg_right hb hd.1
  omega
theorem corr_b {step : Int} {l : List Span} {at' : Int} (ht : InTab step l.length at') (hl : ∀ s ∈ l, -600 ≤ s.lo ∧ s.lo ≤ s.hi ∧ s.hi ≤ 600) : -600 ≤ (corr step l at').lo ∧ (corr step l at').lo ≤ (corr step l at').hi ∧ (corr step l at').hi ≤ 600 := by
  have h1 := hl _ (atS_mem ht.kn)
  unfold corr
  simp only
  split
  · exact h1
  · rename_i hd
    have h2 := hl _ (atS_mem (ht.kd hd))
    have a := mid_b (a := (atS l (at' / step).toNat).lo) (b := (atS l ((at' / step).toNat + 1)).lo) (m := 600) (by omega) (by omega) ⟨ht.d0, ht.ds⟩
    have b := mid_b (a := (atS l (at' / step).toNat).hi) (b := (atS l ((at' / step).toNat + 1)).hi) (m := 600) (by omega) (by omega) ⟨ht.d0, ht.ds⟩
    exact ⟨a.1, mid_le h1.2.1 h2.2.1 ⟨ht.d0, ht.ds⟩, b.2⟩
def addS (a b : Span) : Span := ⟨a.lo + b.lo, a.hi + b.hi⟩
/-- What is read wrongly, and the shades that are used. -/
def shTo (x : Sx) (set : Nat) (k : Nat) : Span := (List.range k).foldl (fun s i => if set.testBit i then addS s (atS x.shade i) else s) ⟨-x.wrong, x.wrong⟩
def shs (x : Sx) (set : Nat) : Span := shTo x set x.shade.length
theorem shTo_succ (x : Sx) (set k : Nat) : shTo x set (k + 1) = if set.testBit k then addS (shTo x set k) (atS x.shade k) else shTo x set k := by
  unfold shTo; rw [List.range_succ, List.foldl_append]; rfl
theorem shTo_b {x : Sx} (h : GoodS x) (set : Nat) : ∀ k, k ≤ x.shade.length → -60 - 120 * (k : Int) ≤ (shTo x set k).lo ∧ (shTo x set k).lo ≤ (shTo x set k).hi ∧ (shTo x set k).hi ≤ 60 + 120 * (k : Int)
  | 0, _ => by have := h.wr; simp only [shTo, List.range_zero, List.foldl_nil]; omega
  | k + 1, hk => by
    have ih := shTo_b h set k (by omega)
    have hs := h.shade _ (atS_mem (show k < x.shade.length by omega))
    rw [shTo_succ]
    split
    · simp only [addS]; omega
    · omega
theorem shs_b {x : Sx} (h : GoodS x) (set : Nat) : -780 ≤ (shs x set).lo ∧ (shs x set).lo ≤ (shs x set).hi ∧ (shs x set).hi ≤ 780 := by
  have := shTo_b h set x.shade.length (Nat.le_refl _)
  have := h.sh
  unfold shs; omega
/-- Between what the true angle of a reading lies. -/
def readS (x : Sx) (at' : Int) (set : Nat) : Span := addS (addS (addS ⟨at', at'⟩ x.idx) (corr x.step x.tab at')) (shs x set)
/-- What Read returns. -/
def readP (x : Sx) (at' sh : Int) : Span × Int := if sxOk x then (if isRd x at' sh then (readS x at' sh.toNat, 0) else (⟨0, 0⟩, 51)) else (⟨0, 0⟩, 50)
theorem isRd_iff {x : Sx} {at' sh : Int} : isRd x at' sh = true ↔ (0 ≤ at' ∧ at' ≤ last x) ∧ 0 ≤ sh ∧ sh ≤ 2 ^ x.shade.length - 1 := by
  unfold isRd; rw [Bool.and_eq_true, inB_iff, inB_iff]
theorem rd_tab {x : Sx} (h : GoodS x) {at' : Int} (h0 : 0 ≤ at') (h1 : at' ≤ last x) : InTab x.step x.tab.length at' := inTab h.st.1 (by have := h.len; omega) h0 h1
theorem pow_len {n : Nat} (h : n ≤ 6) : (1 : Int) ≤ 2 ^ n ∧ (2 : Int) ^ n ≤ 64 := by
  rcases (show n = 0 ∨ n = 1 ∨ n = 2 ∨ n = 3 ∨ n = 4 ∨ n = 5 ∨ n = 6 by omega) with rfl | rfl | rfl | rfl | rfl | rfl | rfl <;> decide
/-- Shifting and masking, as far as shades go. -/
theorem bit_shade : ∀ s : Nat, s < 64 → ∀ k : Nat, k < 6 → (IntKind.i64.wrap ((BitVec.ofInt IntKind.i64.bits (Int.fdiv (s : Int) (2 ^ (min k IntKind.i64.bits))) &&& BitVec.ofInt IntKind.i64.bits 1).toNat) == 1) = s.testBit k := by decide +kernel
end Go.Os

/- Part Sb. -/
namespace Go.Proofs.Ytjmkccckohcfkaa
open Go.RowKit Go.Pm Go.Oc Go.Oh Go.Os
set_option maxRecDepth 100000
set_option linter.unusedVariables false
set_option maxHeartbeats 4000000

theorem sWithin_c (n lo hi : Int) : PCalls Try.prog 61 [.int .i64 n, .int .i64 lo, .int .i64 hi] (.bool (inB n lo hi)) := by
  refine pcalls_by Try.mixes noSpec_ok (fn := Try.f61) Try.func61 rfl (by kernel_rfl) (by show 3 ≤ _; decide) ?_
  cases h1 : decide (lo ≤ n) <;> cases h2 : decide (n ≤ hi) <;> simp (decide := true) (maxSteps := 4000000) only [go_sem, Nat.reduceAdd, Nat.reduceSub, Nat.reduceMul, Nat.reduceDiv, Nat.reduceMod, Nat.reduceLT, Nat.reduceLeDiff, Nat.reduceEqDiff, Nat.reduceBEq, Nat.reduceBNe, Nat.reduceGT, Int.reduceAdd, Int.reduceSub, Int.reduceMul, Int.reduceNeg, Int.reduceLT, Int.reduceLE, Int.reduceEq, Int.reduceNe, Int.reduceBEq, Int.reduceBNe, Int.reduceToNat, Int.reduceGT, Int.reduceGE, ↓reduceIte, decide_true, decide_false, eq_self, Nat.mul_one, Nat.zero_mul, Nat.one_mul, Int.le_refl, Nat.le_refl, Int.cast_ofNat_Int, Try.f61, h1, h2, inB]
noncomputable def sxWithin : List TV → Option TV
  | [.int .i64 n, .int .i64 lo, .int .i64 hi] => some (.bool (inB n lo hi))
  | _ => none
theorem sxWithin_ok : ∀ xs r, sxWithin xs = some r → PCalls Try.prog 61 xs r := by
  intro xs r h
  unfold sxWithin at h
  split at h
  · cases h; exact sWithin_c _ _ _
  · cases h
attribute [go_sem] sxWithin
theorem sSpanned_c (s : Span) (lo hi : Int) : PCalls Try.prog 63 [s.t, .int .i64 lo, .int .i64 hi] (.bool (spannedB s lo hi)) := by
  refine pcalls_by Try.mixes noSpec_ok (fn := Try.f63) Try.func63 rfl (by kernel_rfl) (by show 3 ≤ _; decide) ?_
  cases h1 : decide (lo ≤ s.lo) <;> cases h2 : decide (s.lo ≤ s.hi) <;> cases h3 : decide (s.hi ≤ hi) <;> simp (decide := true) (maxSteps := 4000000) only [go_sem, Nat.reduceAdd, Nat.reduceSub, Nat.reduceMul, Nat.reduceDiv, Nat.reduceMod, Nat.reduceLT, Nat.reduceLeDiff, Nat.reduceEqDiff, Nat.reduceBEq, Nat.reduceBNe, Nat.reduceGT, Int.reduceAdd, Int.reduceSub, Int.reduceMul, Int.reduceNeg, Int.reduceLT, Int.reduceLE, Int.reduceEq, Int.reduceNe, Int.reduceBEq, Int.reduceBNe, Int.reduceToNat, Int.reduceGT, Int.reduceGE, ↓reduceIte, decide_true, decide_false, eq_self, Nat.mul_one, Nat.zero_mul, Nat.one_mul, Int.le_refl, Nat.le_refl, Int.cast_ofNat_Int, Try.f63, h1, h2, h3, spannedB, Span.t, Span.cs]
noncomputable def sxSpanned : List TV → Option TV
  | [.agg [.int .i64 a, .int .i64 b], .int .i64 lo, .int .i64 hi] => some (.bool (spannedB ⟨a, b⟩ lo hi))
  | _ => none
theorem sxSpanned_ok : ∀ xs r, sxSpanned xs = some r → PCalls Try.prog 63 xs r := by
  intro xs r h
  unfold sxSpanned at h
  split at h
  · cases h; exact sSpanned_c ⟨_, _⟩ _ _
  · cases h
attribute [go_sem] sxSpanned
noncomputable def spSa : Pm.Spec := ((noSpec.one 61 sxWithin).one 63 sxSpanned)
@[go_sem] theorem spSa_p (f : FuncId) (xs : List TV) : spSa.p f xs = Pm.Spec.p (((noSpec.one 61 sxWithin).one 63 sxSpanned)) f xs := rfl
@[go_sem] theorem spSa_h (f : FuncId) (ps : List PV) (hl : List PO) : spSa.h f ps hl = Pm.Spec.h (((noSpec.one 61 sxWithin).one 63 sxSpanned)) f ps hl := rfl
@[go_sem] theorem spSa_fz (f : FuncId) : spSa.fz f = Pm.Spec.fz (((noSpec.one 61 sxWithin).one 63 sxSpanned)) f := rfl
@[go_sem] theorem spSa_fr (f : FuncId) : spSa.fr f = Pm.Spec.fr (((noSpec.one 61 sxWithin).one 63 sxSpanned)) f := rfl
@[go_sem] theorem spSa_mu (t : TypeId) : spSa.mu t = Pm.Spec.mu (((noSpec.one 61 sxWithin).one 63 sxSpanned)) t := rfl
@[go_sem] theorem spSa_nf (t : TypeId) : spSa.nf t = Pm.Spec.nf (((noSpec.one 61 sxWithin).one 63 sxSpanned)) t := rfl
theorem spSa_ok : SpecOk Try.prog spSa := Spec.one_ok sxSpanned_ok (Spec.one_ok sxWithin_ok noSpec_ok)

/-- Where the first span is that does not lie within. -/
def idxBad (most : Int) (l : List Span) : Int := match l.findIdx? (fun s => !spannedB s (-most) most) with | some i => (i : Int) | none => -1
theorem idxBad_iff (most : Int) (l : List Span) : decide (idxBad most l ≥ 0) = !(l.all (spannedB · (-most) most)) := by
  unfold idxBad
  cases h : l.findIdx? (fun s => !spannedB s (-most) most) with
  | none =>
    rw [List.findIdx?_eq_none_iff] at h
    have : l.all (spannedB · (-most) most) = true := List.all_eq_true.2 fun s hs => by simpa using h s hs
    rw [this]; rfl
  | some i =>
    obtain ⟨hi, h1, _⟩ := List.findIdx?_eq_some_iff_getElem.1 h
    have : l.all (spannedB · (-most) most) = false := by
      rw [← Bool.not_eq_true, List.all_eq_true]
      intro hall
      rw [hall _ (List.getElem_mem hi)] at h1; cases h1
    rw [this]; simp
theorem sBad_c (s : Span) (most : Int) (h : 0 ≤ most ∧ most ≤ 1000000) : PCalls Try.prog 94 [s.t, .cptr [.int .i64 most]] (.bool (!spannedB s (-most) most)) := by
  have w : IntKind.i64.wrap (0 - most) = -most := by rw [wrap_in (by omega) (by omega)]; omega
  refine pcalls_by Try.mixes spSa_ok (fn := Try.f94) Try.func94 rfl (by kernel_rfl) (by show 2 ≤ _; decide) ?_
  simp (decide := true) (maxSteps := 4000000) only [go_sem, Nat.reduceAdd, Nat.reduceSub, Nat.reduceMul, Nat.reduceDiv, Nat.reduceMod, Nat.reduceLT, Nat.reduceLeDiff, Nat.reduceEqDiff, Nat.reduceBEq, Nat.reduceBNe, Nat.reduceGT, Int.reduceAdd, Int.reduceSub, Int.reduceMul, Int.reduceNeg, Int.reduceLT, Int.reduceLE, Int.reduceEq, Int.reduceNe, Int.reduceBEq, Int.reduceBNe, Int.reduceToNat, Int.reduceGT, Int.reduceGE, ↓reduceIte, decide_true, decide_false, eq_self, Nat.mul_one, Nat.zero_mul, Nat.one_mul, Int.le_refl, Nat.le_refl, Int.cast_ofNat_Int, Try.f94, w, Span.t, Span.cs]
noncomputable def sxBad : List TV → Option TV
  | [.agg [.int .i64 a, .int .i64 b], .cptr [.int .i64 most]] => if 0 ≤ most ∧ most ≤ 1000000 then some (.bool (!spannedB ⟨a, b⟩ (-most) most)) else none
  | _ => none
theorem sxBad_ok : ∀ xs r, sxBad xs = some r → PCalls Try.prog 94 xs r := by
  intro xs r h
  unfold sxBad at h
  split at h
  · split at h
    · rename_i hc; cases h; exact sBad_c ⟨_, _⟩ _ hc
    · cases h
  · cases h
attribute [go_sem] sxBad
noncomputable def spSb : Pm.Spec := spSa.one 94 sxBad
@[go_sem] theorem spSb_p (f : FuncId) (xs : List TV) : spSb.p f xs = Pm.Spec.p (spSa.one 94 sxBad) f xs := rfl
@[go_sem] theorem spSb_h (f : FuncId) (ps : List PV) (hl : List PO) : spSb.h f ps hl = Pm.Spec.h (spSa.one 94 sxBad) f ps hl := rfl
@[go_sem] theorem spSb_fz (f : FuncId) : spSb.fz f = Pm.Spec.fz (spSa.one 94 sxBad) f := rfl
@[go_sem] theorem spSb_fr (f : FuncId) : spSb.fr f = Pm.Spec.fr (spSa.one 94 sxBad) f := rfl
@[go_sem] theorem spSb_mu (t : TypeId) : spSb.mu t = Pm.Spec.mu (spSa.one 94 sxBad) t := rfl
@[go_sem] theorem spSb_nf (t : TypeId) : spSb.nf t = Pm.Spec.nf (spSa.one 94 sxBad) t := rfl
theorem spSb_ok : SpecOk Try.prog spSb := Spec.one_ok sxBad_ok spSa_ok
theorem sIndexFunc_c {l : List Span} {s : TV} (hl : IsRow Span.cs s l) (hll : l.length ≤ 9000000000000) (most : Int) (hm : 0 ≤ most ∧ most ≤ 1000000) : PCalls Try.prog 101 [s, .fn 94 [] [.cptr [.int .i64 most]]] (.int .i64 (idxBad most l)) := by
  refine pcalls_by Try.mixes spSb_ok (fn := Try.f101) Try.func101 rfl (by kernel_rfl) (by show 2 ≤ _; decide) ?_
  rcases hl with ⟨rfl, rfl⟩ | ⟨f, rfl⟩
  · simp (decide := true) (maxSteps := 4000000) only [go_sem, Nat.reduceAdd, Nat.reduceSub, Nat.reduceMul, Nat.reduceDiv, Nat.reduceMod, Nat.reduceLT, Nat.reduceLeDiff, Nat.reduceEqDiff, Nat.reduceBEq, Nat.reduceBNe, Nat.reduceGT, Int.reduceAdd, Int.reduceSub, Int.reduceMul, Int.reduceNeg, Int.reduceLT, Int.reduceLE, Int.reduceEq, Int.reduceNe, Int.reduceBEq, Int.reduceBNe, Int.reduceToNat, Int.reduceGT, Int.reduceGE, ↓reduceIte, decide_true, decide_false, eq_self, Nat.mul_one, Nat.zero_mul, Nat.one_mul, Int.le_refl, Nat.le_refl, Int.cast_ofNat_Int, Try.f101]
    refine pwpC_loopU (A := Unit) [0, 1, 4, 7] (fun _ => [(8, .t (.int .i64 0))]) (fun _ => []) (fun _ => 0) () (by decide) (fun _ => by rfl) ?_ fun Q1 hQ1 _ I1 hI1 => ?_
    · simp (decide := true) (maxSteps := 4000000) only [go_sem, Nat.reduceAdd, Nat.reduceSub, Nat.reduceMul, Nat.reduceDiv, Nat.reduceMod, Nat.reduceLT, Nat.reduceLeDiff, Nat.reduceEqDiff, Nat.reduceBEq, Nat.reduceBNe, Nat.reduceGT, Int.reduceAdd, Int.reduceSub, Int.reduceMul, Int.reduceNeg, Int.reduceLT, Int.reduceLE, Int.reduceEq, Int.reduceNe, Int.reduceBEq, Int.reduceBNe, Int.reduceToNat, Int.reduceGT, Int.reduceGE, ↓reduceIte, decide_true, decide_false, eq_self, Nat.mul_one, Nat.zero_mul, Nat.one_mul, Int.le_refl, Nat.le_refl, Int.cast_ofNat_Int]
    · simp (decide := true) (maxSteps := 4000000) only [go_sem, Nat.reduceAdd, Nat.reduceSub, Nat.reduceMul, Nat.reduceDiv, Nat.reduceMod, Nat.reduceLT, Nat.reduceLeDiff, Nat.reduceEqDiff, Nat.reduceBEq, Nat.reduceBNe, Nat.reduceGT, Int.reduceAdd, Int.reduceSub, Int.reduceMul, Int.reduceNeg, Int.reduceLT, Int.reduceLE, Int.reduceEq, Int.reduceNe, Int.reduceBEq, Int.reduceBNe, Int.reduceToNat, Int.reduceGT, Int.reduceGE, ↓reduceIte, decide_true, decide_false, eq_self, Nat.mul_one, Nat.zero_mul, Nat.one_mul, Int.le_refl, Nat.le_refl, Int.cast_ofNat_Int]
      refine hQ1 _ _ ?_
      simp (decide := true) (maxSteps := 4000000) only [go_sem, Nat.reduceAdd, Nat.reduceSub, Nat.reduceMul, Nat.reduceDiv, Nat.reduceMod, Nat.reduceLT, Nat.reduceLeDiff, Nat.reduceEqDiff, Nat.reduceBEq, Nat.reduceBNe, Nat.reduceGT, Int.reduceAdd, Int.reduceSub, Int.reduceMul, Int.reduceNeg, Int.reduceLT, Int.reduceLE, Int.reduceEq, Int.reduceNe, Int.reduceBEq, Int.reduceBNe, Int.reduceToNat, Int.reduceGT, Int.reduceGE, ↓reduceIte, decide_true, decide_false, eq_self, Nat.mul_one, Nat.zero_mul, Nat.one_mul, Int.le_refl, Nat.le_refl, Int.cast_ofNat_Int]
      first | done | rfl
  · simp (decide := true) (maxSteps := 4000000) only [go_sem, Nat.reduceAdd, Nat.reduceSub, Nat.reduceMul, Nat.reduceDiv, Nat.reduceMod, Nat.reduceLT, Nat.reduceLeDiff, Nat.reduceEqDiff, Nat.reduceBEq, Nat.reduceBNe, Nat.reduceGT, Int.reduceAdd, Int.reduceSub, Int.reduceMul, Int.reduceNeg, Int.reduceLT, Int.reduceLE, Int.reduceEq, Int.reduceNe, Int.reduceBEq, Int.reduceBNe, Int.reduceToNat, Int.reduceGT, Int.reduceGE, ↓reduceIte, decide_true, decide_false, eq_self, Nat.mul_one, Nat.zero_mul, Nat.one_mul, Int.le_refl, Nat.le_refl, Int.cast_ofNat_Int, Try.f101]
    refine pwpC_loopU (A := { k : Nat // k ≤ l.length ∧ ∀ i, i < k → spannedB (atS l i) (-most) most = true }) [0, 1, 4, 7] (fun k => [(8, .t (.int .i64 k.1))]) (fun _ => []) (fun k => l.length - k.1) ⟨0, by omega, by omega⟩ (by decide) (fun _ => by rfl) ?_ fun Q1 hQ1 ⟨k, hk, hno⟩ I1 hI1 => ?_
    · simp (decide := true) (maxSteps := 4000000) only [go_sem, Nat.reduceAdd, Nat.reduceSub, Nat.reduceMul, Nat.reduceDiv, Nat.reduceMod, Nat.reduceLT, Nat.reduceLeDiff, Nat.reduceEqDiff, Nat.reduceBEq, Nat.reduceBNe, Nat.reduceGT, Int.reduceAdd, Int.reduceSub, Int.reduceMul, Int.reduceNeg, Int.reduceLT, Int.reduceLE, Int.reduceEq, Int.reduceNe, Int.reduceBEq, Int.reduceBNe, Int.reduceToNat, Int.reduceGT, Int.reduceGE, ↓reduceIte, decide_true, decide_false, eq_self, Nat.mul_one, Nat.zero_mul, Nat.one_mul, Int.le_refl, Nat.le_refl, Int.cast_ofNat_Int]
    · by_cases hlt : (k : Int) < l.length
      · obtain ⟨x, hx⟩ := get_lt hlt
        have hd := flat_at Span.cs (n := 2) (fun _ => rfl) hx
        have hc1 : IntKind.i64.wrap (k + 1) = ((k + 1 : Nat) : Int) := by rw [wrap_in (by omega) (by omega)]; omega
        have hkl : k < l.length := by omega
        obtain ⟨x0, x1⟩ := x
        cases hb : spannedB ⟨x0, x1⟩ (-most) most with
        | false =>
          have e : idxBad most l = k := by
            unfold idxBad
            have : l.findIdx? (fun s => !spannedB s (-most) most) = some k := List.findIdx?_eq_some_iff_getElem.2 ⟨hkl, by
              rw [List.getElem?_eq_getElem hkl] at hx; rw [Option.some.inj hx, hb]; rfl, fun j hj => by
              have := hno j hj
              rw [atS_eq (List.getElem?_eq_getElem (show j < l.length by omega))] at this
              rw [this]; decide⟩
            rw [this]
          simp (decide := true) (maxSteps := 4000000) only [go_sem, Nat.reduceAdd, Nat.reduceSub, Nat.reduceMul, Nat.reduceDiv, Nat.reduceMod, Nat.reduceLT, Nat.reduceLeDiff, Nat.reduceEqDiff, Nat.reduceBEq, Nat.reduceBNe, Nat.reduceGT, Int.reduceAdd, Int.reduceSub, Int.reduceMul, Int.reduceNeg, Int.reduceLT, Int.reduceLE, Int.reduceEq, Int.reduceNe, Int.reduceBEq, Int.reduceBNe, Int.reduceToNat, Int.reduceGT, Int.reduceGE, ↓reduceIte, decide_true, decide_false, eq_self, Nat.mul_one, Nat.zero_mul, Nat.one_mul, Int.le_refl, Nat.le_refl, Int.cast_ofNat_Int, hlt, hd, hb, hm, Span.cs]
          try (refine hQ1 _ _ ?_)
          try simp (decide := true) (maxSteps := 4000000) only [go_sem, Nat.reduceAdd, Nat.reduceSub, Nat.reduceMul, Nat.reduceDiv, Nat.reduceMod, Nat.reduceLT, Nat.reduceLeDiff, Nat.reduceEqDiff, Nat.reduceBEq, Nat.reduceBNe, Nat.reduceGT, Int.reduceAdd, Int.reduceSub, Int.reduceMul, Int.reduceNeg, Int.reduceLT, Int.reduceLE, Int.reduceEq, Int.reduceNe, Int.reduceBEq, Int.reduceBNe, Int.reduceToNat, Int.reduceGT, Int.reduceGE, ↓reduceIte, decide_true, decide_false, eq_self, Nat.mul_one, Nat.zero_mul, Nat.one_mul, Int.le_refl, Nat.le_refl, Int.cast_ofNat_Int, e]
        | true =>
          simp (decide := true) (maxSteps := 4000000) only [go_sem, Nat.reduceAdd, Nat.reduceSub, Nat.reduceMul, Nat.reduceDiv, Nat.reduceMod, Nat.reduceLT, Nat.reduceLeDiff, Nat.reduceEqDiff, Nat.reduceBEq, Nat.reduceBNe, Nat.reduceGT, Int.reduceAdd, Int.reduceSub, Int.reduceMul, Int.reduceNeg, Int.reduceLT, Int.reduceLE, Int.reduceEq, Int.reduceNe, Int.reduceBEq, Int.reduceBNe, Int.reduceToNat, Int.reduceGT, Int.reduceGE, ↓reduceIte, decide_true, decide_false, eq_self, Nat.mul_one, Nat.zero_mul, Nat.one_mul, Int.le_refl, Nat.le_refl, Int.cast_ofNat_Int, hlt, hd, hb, hm, Span.cs]
          refine hI1 _ ⟨k + 1, by omega, fun i hi => by
            by_cases e : i = k
            · subst e; rw [atS_eq hx]; exact hb
            · exact hno i (by omega)⟩ (by simp only; omega) ?_
          simp (decide := true) (maxSteps := 4000000) only [go_sem, Nat.reduceAdd, Nat.reduceSub, Nat.reduceMul, Nat.reduceDiv, Nat.reduceMod, Nat.reduceLT, Nat.reduceLeDiff, Nat.reduceEqDiff, Nat.reduceBEq, Nat.reduceBNe, Nat.reduceGT, Int.reduceAdd, Int.reduceSub, Int.reduceMul, Int.reduceNeg, Int.reduceLT, Int.reduceLE, Int.reduceEq, Int.reduceNe, Int.reduceBEq, Int.reduceBNe, Int.reduceToNat, Int.reduceGT, Int.reduceGE, ↓reduceIte, decide_true, decide_false, eq_self, Nat.mul_one, Nat.zero_mul, Nat.one_mul, Int.le_refl, Nat.le_refl, Int.cast_ofNat_Int, hc1]
      · have hke : k = l.length := by omega
        subst hke
        have e : idxBad most l = -1 := by
          unfold idxBad
          have : l.findIdx? (fun s => !spannedB s (-most) most) = none := List.findIdx?_eq_none_iff.2 fun s hs => by
            obtain ⟨i, hi, rfl⟩ := List.getElem_of_mem hs
            have := hno i hi
            rw [atS_eq (List.getElem?_eq_getElem hi)] at this
            rw [this]; rfl
          rw [this]
        simp (decide := true) (maxSteps := 4000000) only [go_sem, Nat.reduceAdd, Nat.reduceSub, Nat.reduceMul, Nat.reduceDiv, Nat.reduceMod, Nat.reduceLT, Nat.reduceLeDiff, Nat.reduceEqDiff, Nat.reduceBEq, Nat.reduceBNe, Nat.reduceGT, Int.reduceAdd, Int.reduceSub, Int.reduceMul, Int.reduceNeg, Int.reduceLT, Int.reduceLE, Int.reduceEq, Int.reduceNe, Int.reduceBEq, Int.reduceBNe, Int.reduceToNat, Int.reduceGT, Int.reduceGE, ↓reduceIte, decide_true, decide_false, eq_self, Nat.mul_one, Nat.zero_mul, Nat.one_mul, Int.le_refl, Nat.le_refl, Int.cast_ofNat_Int, hlt]
        refine hQ1 _ _ ?_
        simp (decide := true) (maxSteps := 4000000) only [go_sem, Nat.reduceAdd, Nat.reduceSub, Nat.reduceMul, Nat.reduceDiv, Nat.reduceMod, Nat.reduceLT, Nat.reduceLeDiff, Nat.reduceEqDiff, Nat.reduceBEq, Nat.reduceBNe, Nat.reduceGT, Int.reduceAdd, Int.reduceSub, Int.reduceMul, Int.reduceNeg, Int.reduceLT, Int.reduceLE, Int.reduceEq, Int.reduceNe, Int.reduceBEq, Int.reduceBNe, Int.reduceToNat, Int.reduceGT, Int.reduceGE, ↓reduceIte, decide_true, decide_false, eq_self, Nat.mul_one, Nat.zero_mul, Nat.one_mul, Int.le_refl, Nat.le_refl, Int.cast_ofNat_Int, e]
noncomputable def sxIndexFunc : List TV → Option TV
  | [s, .fn F [] [.cptr [.int .i64 most]]] => match rowL unS s with
    | some l => if l.length ≤ 9000000000000 ∧ F = 94 ∧ 0 ≤ most ∧ most ≤ 1000000 then some (.int .i64 (idxBad most l)) else none
    | none => none
  | _ => none
theorem sxIndexFunc_ok : ∀ xs r, sxIndexFunc xs = some r → PCalls Try.prog 101 xs r := by
  intro xs r h
  unfold sxIndexFunc at h
  split at h
  · split at h
    · rename_i l hl
      have hl := rowL_some (un := unS) unS_nil (@unS_some) hl
      split at h
      · rename_i hc; cases h
        obtain ⟨h1, rfl, h2⟩ := hc
        exact sIndexFunc_c hl h1 _ h2
      · cases h
    · cases h
  · cases h
attribute [go_sem] sxIndexFunc
noncomputable def spSc : Pm.Spec := spSb.one 101 sxIndexFunc
@[go_sem] theorem spSc_p (f : FuncId) (xs : List TV) : spSc.p f xs = Pm.Spec.p (spSb.one 101 sxIndexFunc) f xs := rfl
@[go_sem] theorem spSc_h (f : FuncId) (ps : List PV) (hl : List PO) : spSc.h f ps hl = Pm.Spec.h (spSb.one 101 sxIndexFunc) f ps hl := rfl
@[go_sem] theorem spSc_fz (f : FuncId) : spSc.fz f = Pm.Spec.fz (spSb.one 101 sxIndexFunc) f := rfl
@[go_sem] theorem spSc_fr (f : FuncId) : spSc.fr f = Pm.Spec.fr (spSb.one 101 sxIndexFunc) f := rfl
@[go_sem] theorem spSc_mu (t : TypeId) : spSc.mu t = Pm.Spec.mu (spSb.one 101 sxIndexFunc) t := rfl
@[go_sem] theorem spSc_nf (t : TypeId) : spSc.nf t = Pm.Spec.nf (spSb.one 101 sxIndexFunc) t := rfl
theorem spSc_ok : SpecOk Try.prog spSc := Spec.one_ok sxIndexFunc_ok spSb_ok
theorem sContains_c {l : List Span} {s : TV} (hl : IsRow Span.cs s l) (hll : l.length ≤ 9000000000000) (most : Int) (hm : 0 ≤ most ∧ most ≤ 1000000) : PCalls Try.prog 93 [s, .fn 94 [] [.cptr [.int .i64 most]]] (.bool (!(l.all (spannedB · (-most) most)))) := by
  have rI := rowS_is hl
  unfold rowL at rI
  simp only [unS_nil] at rI
  have hb := idxBad_iff most l
  refine pcalls_by Try.mixes spSc_ok (fn := Try.f93) Try.func93 rfl (by kernel_rfl) (by show 2 ≤ _; decide) ?_
  simp (decide := true) (maxSteps := 4000000) only [go_sem, Nat.reduceAdd, Nat.reduceSub, Nat.reduceMul, Nat.reduceDiv, Nat.reduceMod, Nat.reduceLT, Nat.reduceLeDiff, Nat.reduceEqDiff, Nat.reduceBEq, Nat.reduceBNe, Nat.reduceGT, Int.reduceAdd, Int.reduceSub, Int.reduceMul, Int.reduceNeg, Int.reduceLT, Int.reduceLE, Int.reduceEq, Int.reduceNe, Int.reduceBEq, Int.reduceBNe, Int.reduceToNat, Int.reduceGT, Int.reduceGE, ↓reduceIte, decide_true, decide_false, eq_self, Nat.mul_one, Nat.zero_mul, Nat.one_mul, Int.le_refl, Nat.le_refl, Int.cast_ofNat_Int, Try.f93, rI, hll, hb, hm]
noncomputable def sxContains : List TV → Option TV
  | [s, .fn F [] [.cptr [.int .i64 most]]] => match rowL unS s with
    | some l => if l.length ≤ 9000000000000 ∧ F = 94 ∧ 0 ≤ most ∧ most ≤ 1000000 then some (.bool (!(l.all (spannedB · (-most) most)))) else none
    | none => none
  | _ => none
theorem sxContains_ok : ∀ xs r, sxContains xs = some r → PCalls Try.prog 93 xs r := by
  intro xs r h
  unfold sxContains at h
  split at h
  · split at h
    · rename_i l hl
      have hl := rowL_some (un := unS) unS_nil (@unS_some) hl
      split at h
      · rename_i hc; cases h
        obtain ⟨h1, rfl, h2⟩ := hc
        exact sContains_c hl h1 _ h2
      · cases h
    · cases h
  · cases h
attribute [go_sem] sxContains
noncomputable def spSd : Pm.Spec := { spSb.one 93 sxContains with fz := fun _ => true }
@[go_sem] theorem spSd_p (f : FuncId) (xs : List TV) : spSd.p f xs = Pm.Spec.p ({ spSb.one 93 sxContains with fz := fun _ => true }) f xs := rfl
@[go_sem] theorem spSd_h (f : FuncId) (ps : List PV) (hl : List PO) : spSd.h f ps hl = Pm.Spec.h ({ spSb.one 93 sxContains with fz := fun _ => true }) f ps hl := rfl
@[go_sem] theorem spSd_fz (f : FuncId) : spSd.fz f = Pm.Spec.fz ({ spSb.one 93 sxContains with fz := fun _ => true }) f := rfl
@[go_sem] theorem spSd_fr (f : FuncId) : spSd.fr f = Pm.Spec.fr ({ spSb.one 93 sxContains with fz := fun _ => true }) f := rfl
@[go_sem] theorem spSd_mu (t : TypeId) : spSd.mu t = Pm.Spec.mu ({ spSb.one 93 sxContains with fz := fun _ => true }) t := rfl
@[go_sem] theorem spSd_nf (t : TypeId) : spSd.nf t = Pm.Spec.nf ({ spSb.one 93 sxContains with fz := fun _ => true }) t := rfl
theorem spSd_ok : SpecOk Try.prog spSd := ⟨(Spec.one_ok sxContains_ok spSb_ok).1, (Spec.one_ok sxContains_ok spSb_ok).2⟩
theorem sAllSpanned_c {l : List Span} {s : TV} (hl : IsRow Span.cs s l) (hll : l.length ≤ 9000000000000) (most : Int) (hm : 0 ≤ most ∧ most ≤ 1000000) : PCalls Try.prog 62 [s, .int .i64 most] (.bool (l.all (spannedB · (-most) most))) := by
  have rI := rowS_is hl
  unfold rowL at rI
  simp only [unS_nil] at rI
  refine pcalls_by Try.mixes spSd_ok (fn := Try.f62) Try.func62 rfl (by kernel_rfl) (by show 2 ≤ _; decide) ?_
  simp (decide := true) (maxSteps := 4000000) only [go_sem, Nat.reduceAdd, Nat.reduceSub, Nat.reduceMul, Nat.reduceDiv, Nat.reduceMod, Nat.reduceLT, Nat.reduceLeDiff, Nat.reduceEqDiff, Nat.reduceBEq, Nat.reduceBNe, Nat.reduceGT, Int.reduceAdd, Int.reduceSub, Int.reduceMul, Int.reduceNeg, Int.reduceLT, Int.reduceLE, Int.reduceEq, Int.reduceNe, Int.reduceBEq, Int.reduceBNe, Int.reduceToNat, Int.reduceGT, Int.reduceGE, ↓reduceIte, decide_true, decide_false, eq_self, Nat.mul_one, Nat.zero_mul, Nat.one_mul, Int.le_refl, Nat.le_refl, Int.cast_ofNat_Int, Try.f62, rI, hll, hm]
noncomputable def sxAllSpanned : List TV → Option TV
  | [s, .int .i64 most] => match rowL unS s with
    | some l => if l.length ≤ 9000000000000 ∧ 0 ≤ most ∧ most ≤ 1000000 then some (.bool (l.all (spannedB · (-most) most))) else none
    | none => none
  | _ => none
theorem sxAllSpanned_ok : ∀ xs r, sxAllSpanned xs = some r → PCalls Try.prog 62 xs r := by
  intro xs r h
  unfold sxAllSpanned at h
  split at h
  · split at h
    · rename_i l hl
      have hl := rowL_some (un := unS) (by first | rfl | exact unS_nil) (@unS_some) hl
      split at h
      · rename_i hc; cases h; exact sAllSpanned_c hl hc.1 _ hc.2
      · cases h
    · cases h
  · cases h
attribute [go_sem] sxAllSpanned
noncomputable def spSe : Pm.Spec := spSa.one 62 sxAllSpanned
@[go_sem] theorem spSe_p (f : FuncId) (xs : List TV) : spSe.p f xs = Pm.Spec.p (spSa.one 62 sxAllSpanned) f xs := rfl
@[go_sem] theorem spSe_h (f : FuncId) (ps : List PV) (hl : List PO) : spSe.h f ps hl = Pm.Spec.h (spSa.one 62 sxAllSpanned) f ps hl := rfl
@[go_sem] theorem spSe_fz (f : FuncId) : spSe.fz f = Pm.Spec.fz (spSa.one 62 sxAllSpanned) f := rfl
@[go_sem] theorem spSe_fr (f : FuncId) : spSe.fr f = Pm.Spec.fr (spSa.one 62 sxAllSpanned) f := rfl
@[go_sem] theorem spSe_mu (t : TypeId) : spSe.mu t = Pm.Spec.mu (spSa.one 62 sxAllSpanned) t := rfl
@[go_sem] theorem spSe_nf (t : TypeId) : spSe.nf t = Pm.Spec.nf (spSa.one 62 sxAllSpanned) t := rfl
theorem spSe_ok : SpecOk Try.prog spSe := Spec.one_ok sxAllSpanned_ok spSa_ok

theorem chk8 : ∀ b1 b2 b3 b4 b5 b6 b7 b8 : Bool, (!(b1 && b2 && b3 && b4 && b5) || b1 && b2 && b3 && b4 && b5 && !b6 || !(!(b1 && b2 && b3 && b4 && b5) || b1 && b2 && b3 && b4 && b5 && !b6) && !b7 || !(!(b1 && b2 && b3 && b4 && b5) || b1 && b2 && b3 && b4 && b5 && !b6 || !(!(b1 && b2 && b3 && b4 && b5) || b1 && b2 && b3 && b4 && b5 && !b6) && !b7) && !b8) = !(b1 && (b2 && (b3 && (b4 && (b5 && (b6 && (b7 && b8))))))) := by decide
theorem sCheck_c (x : Sx) {sT sS : TV} (hT : IsRow Span.cs sT x.tab) (hS : IsRow Span.cs sS x.shade) (lT : x.tab.length ≤ 9000000000000) (lS : x.shade.length ≤ 9000000000000) : PCalls Try.prog 17 [x.t sT sS] (.int .i64 (if sxOk x then 0 else 50)) := by
  have rT := rowS_is hT
  have rS := rowS_is hS
  unfold rowL at rT rS
  simp only [unS_nil] at rT rS
  have m1 : (0 : Int) ≤ 600 ∧ (600 : Int) ≤ 1000000 := by decide
  have m2 : (0 : Int) ≤ 120 ∧ (120 : Int) ≤ 1000000 := by decide
  have neg600 : (-(600 : Int)) = -600 := rfl
  have neg120 : (-(120 : Int)) = -120 := rfl
  have hok : sxOk x = (inB x.step 1 72000 && (inB x.tab.length 2 12 && (x.tab.all (spannedB · (-600) 600) && (decide (IntKind.i64.wrap (x.step * IntKind.i64.wrap (x.tab.length - 1)) ≤ 504000) && (spannedB x.idx (-1800) 1800 && (inB x.wrong 0 60 && (decide ((x.shade.length : Int) ≤ 6) && x.shade.all (spannedB · (-120) 120)))))))) := by
    unfold sxOk
    cases h1 : inB x.step 1 72000 with
    | false => rfl
    | true => cases h2 : inB (x.tab.length : Int) 2 12 with
      | false => rfl
      | true =>
        have h1 := inB_iff.1 h1
        have h2 := inB_iff.1 h2
        have hb := mulR (a := x.step) (b := (x.tab.length : Int) - 1) (m := 72000) (n := 11) (by omega) (by omega) (by omega)
        rw [wrap_in (n := (x.tab.length : Int) - 1) (by omega) (by omega), wrap_in (by omega) (by omega)]
  have n6 : decide ((x.shade.length : Int) > 6) = !decide ((x.shade.length : Int) ≤ 6) := by
    by_cases h : (x.shade.length : Int) ≤ 6
    · rw [decide_eq_true h, decide_eq_false (by omega)]; rfl
    · rw [decide_eq_false h, decide_eq_true (by omega)]; rfl
  obtain ⟨step, tab, ⟨i0, i1⟩, wrong, shade⟩ := x
  simp only at *
  refine pcalls_by Try.mixes spSe_ok (fn := Try.f17) Try.func17 rfl (by kernel_rfl) (by show 1 ≤ _; decide) ?_
  rcases hT with ⟨rfl, rfl⟩ | ⟨f, rfl⟩
  · have h2 : inB 0 2 12 = false := rfl
    have h2' : inB ((([] : List Span).length : Nat) : Int) 2 12 = false := rfl
    rw [h2'] at hok
    simp only [Bool.false_and, Bool.and_false] at hok
    rcases hS with ⟨rfl, rfl⟩ | ⟨f', rfl⟩ <;> simp (decide := true) (maxSteps := 4000000) only [go_sem, Nat.reduceAdd, Nat.reduceSub, Nat.reduceMul, Nat.reduceDiv, Nat.reduceMod, Nat.reduceLT, Nat.reduceLeDiff, Nat.reduceEqDiff, Nat.reduceBEq, Nat.reduceBNe, Nat.reduceGT, Int.reduceAdd, Int.reduceSub, Int.reduceMul, Int.reduceNeg, Int.reduceLT, Int.reduceLE, Int.reduceEq, Int.reduceNe, Int.reduceBEq, Int.reduceBNe, Int.reduceToNat, Int.reduceGT, Int.reduceGE, ↓reduceIte, decide_true, decide_false, eq_self, Nat.mul_one, Nat.zero_mul, Nat.one_mul, Int.le_refl, Nat.le_refl, Int.cast_ofNat_Int, Try.f17, Sx.t, Sx.cs, unS_eq, lT, lS, m1, m2, neg600, neg120, h2, hok]
  · obtain ⟨W, hW⟩ : ∃ W, IntKind.i64.wrap (step * IntKind.i64.wrap (tab.length - 1)) = W := ⟨_, rfl⟩
    rw [hW] at hok
    generalize h1 : inB step 1 72000 = b1 at *
    generalize h2 : inB (tab.length : Int) 2 12 = b2 at *
    generalize h3 : (tab.all (spannedB · (-600) 600)) = b3 at *
    generalize h4 : decide (W ≤ 504000) = b4 at *
    generalize h5 : spannedB ⟨i0, i1⟩ (-1800) 1800 = b5 at *
    generalize h6 : inB wrong 0 60 = b6 at *
    generalize h7 : decide ((shade.length : Int) ≤ 6) = b7 at *
    generalize h8 : (shade.all (spannedB · (-120) 120)) = b8 at *
    rw [hok]
    have hc := chk8 b1 b2 b3 b4 b5 b6 b7 b8
    obtain ⟨O, hO⟩ : ∃ O, (b1 && (b2 && (b3 && (b4 && (b5 && (b6 && (b7 && b8))))))) = O := ⟨_, rfl⟩
    rw [hO] at hc ⊢
    rcases hS with ⟨rfl, rfl⟩ | ⟨f', rfl⟩
    · have h7' : b7 = true := h7.symm
      have h8' : b8 = true := h8.symm
      subst h7'; subst h8'
      simp only [Bool.not_true, Bool.and_false, Bool.or_false] at hc
      cases O <;> simp (decide := true) (maxSteps := 4000000) only [go_sem, Nat.reduceAdd, Nat.reduceSub, Nat.reduceMul, Nat.reduceDiv, Nat.reduceMod, Nat.reduceLT, Nat.reduceLeDiff, Nat.reduceEqDiff, Nat.reduceBEq, Nat.reduceBNe, Nat.reduceGT, Int.reduceAdd, Int.reduceSub, Int.reduceMul, Int.reduceNeg, Int.reduceLT, Int.reduceLE, Int.reduceEq, Int.reduceNe, Int.reduceBEq, Int.reduceBNe, Int.reduceToNat, Int.reduceGT, Int.reduceGE, ↓reduceIte, decide_true, decide_false, eq_self, Nat.mul_one, Nat.zero_mul, Nat.one_mul, Int.le_refl, Nat.le_refl, Int.cast_ofNat_Int, Try.f17, Sx.t, Sx.cs, unS_eq, lT, lS, m1, m2, neg600, neg120, h1, h2, h3, hW, h4, h5, h6, h8, hc]
    · cases O <;> simp (decide := true) (maxSteps := 4000000) only [go_sem, Nat.reduceAdd, Nat.reduceSub, Nat.reduceMul, Nat.reduceDiv, Nat.reduceMod, Nat.reduceLT, Nat.reduceLeDiff, Nat.reduceEqDiff, Nat.reduceBEq, Nat.reduceBNe, Nat.reduceGT, Int.reduceAdd, Int.reduceSub, Int.reduceMul, Int.reduceNeg, Int.reduceLT, Int.reduceLE, Int.reduceEq, Int.reduceNe, Int.reduceBEq, Int.reduceBNe, Int.reduceToNat, Int.reduceGT, Int.reduceGE, ↓reduceIte, decide_true, decide_false, eq_self, Nat.mul_one, Nat.zero_mul, Nat.one_mul, Int.le_refl, Nat.le_refl, Int.cast_ofNat_Int, Try.f17, Sx.t, Sx.cs, unS_eq, lT, lS, m1, m2, neg600, neg120, h1, h2, h3, hW, h4, h5, h6, h7, n6, h8, hc]
end Go.Proofs.Ytjmkccckohcfkaa

/- Part Sc. -/
namespace Go.Proofs.Ytjmkccckohcfkaa
open Go.RowKit Go.Pm Go.Oc Go.Oh Go.Os
set_option maxRecDepth 100000
set_option linter.unusedVariables false
set_option maxHeartbeats 4000000

noncomputable def sxCheck : List TV → Option TV
  | [.agg [.int .i64 a0, sT, .int .i64 a1, .int .i64 a2, .int .i64 a3, sS]] => match rowL unS sT, rowL unS sS with
    | some tab, some shade => if tab.length ≤ 9000000000000 ∧ shade.length ≤ 9000000000000 then some (.int .i64 (if sxOk (⟨a0, tab, ⟨a1, a2⟩, a3, shade⟩ : Sx) then 0 else 50)) else none
    | _, _ => none
  | _ => none
theorem sxCheck_ok : ∀ xs r, sxCheck xs = some r → PCalls Try.prog 17 xs r := by
  intro xs r h
  unfold sxCheck at h
  split at h
  · split at h
    · rename_i tab shade hT hS
      have hT := rowL_some (un := unS) unS_nil (@unS_some) hT
      have hS := rowL_some (un := unS) unS_nil (@unS_some) hS
      split at h
      · rename_i hc; cases h; exact sCheck_c ⟨_, tab, ⟨_, _⟩, _, shade⟩ hT hS hc.1 hc.2
      · cases h
    · cases h
  · cases h
attribute [go_sem] sxCheck
theorem good_T {x : Sx} {sT : TV} (h : GoodS x) (hT : IsRow Span.cs sT x.tab) : ∃ f, sT = .sl (x.tab.flatMap Span.cs) x.tab.length f := hT.ne (by have := h.len; omega)
theorem sLast_c (x : Sx) {sT sS : TV} (hT : IsRow Span.cs sT x.tab) (hv : sxOk x = true) : PCalls Try.prog 92 [x.t sT sS] (.int .i64 (last x)) := by
  have h := sxOk_iff.1 hv
  obtain ⟨f, rfl⟩ := good_T h hT
  have hb := last_b h
  have hl := h.len
  have w1 : IntKind.i64.wrap ((x.tab.length : Int) - 1) = (x.tab.length : Int) - 1 := wrap_in (by omega) (by omega)
  have w2 : IntKind.i64.wrap (x.step * ((x.tab.length : Int) - 1)) = last x := wrap_in (show _ ≤ last x by omega) (show last x ≤ _ by omega)
  refine pcalls_by Try.mixes noSpec_ok (fn := Try.f92) Try.func92 rfl (by kernel_rfl) (by show 1 ≤ _; decide) ?_
  simp (decide := true) (maxSteps := 4000000) only [go_sem, Nat.reduceAdd, Nat.reduceSub, Nat.reduceMul, Nat.reduceDiv, Nat.reduceMod, Nat.reduceLT, Nat.reduceLeDiff, Nat.reduceEqDiff, Nat.reduceBEq, Nat.reduceBNe, Nat.reduceGT, Int.reduceAdd, Int.reduceSub, Int.reduceMul, Int.reduceNeg, Int.reduceLT, Int.reduceLE, Int.reduceEq, Int.reduceNe, Int.reduceBEq, Int.reduceBNe, Int.reduceToNat, Int.reduceGT, Int.reduceGE, ↓reduceIte, decide_true, decide_false, eq_self, Nat.mul_one, Nat.zero_mul, Nat.one_mul, Int.le_refl, Nat.le_refl, Int.cast_ofNat_Int, Try.f92, Sx.t, Sx.cs, w1, w2]
noncomputable def sxLast : List TV → Option TV
  | [.agg [.int .i64 a0, sT, .int .i64 a1, .int .i64 a2, .int .i64 a3, sS]] => match rowL unS sT, rowL unS sS with
    | some tab, some shade => if sxOk (⟨a0, tab, ⟨a1, a2⟩, a3, shade⟩ : Sx) = true then some (.int .i64 (last (⟨a0, tab, ⟨a1, a2⟩, a3, shade⟩ : Sx))) else none
    | _, _ => none
  | _ => none
theorem sxLast_ok : ∀ xs r, sxLast xs = some r → PCalls Try.prog 92 xs r := by
  intro xs r h
  unfold sxLast at h
  split at h
  · split at h
    · rename_i tab shade hT hS
      have hT := rowL_some (un := unS) unS_nil (@unS_some) hT
      have hS := rowL_some (un := unS) unS_nil (@unS_some) hS
      split at h
      · rename_i hc; cases h; exact sLast_c ⟨_, tab, ⟨_, _⟩, _, shade⟩ hT hc
      · cases h
    · cases h
  · cases h
attribute [go_sem] sxLast
noncomputable def spSf : Pm.Spec := spSa.one 92 sxLast
@[go_sem] theorem spSf_p (f : FuncId) (xs : List TV) : spSf.p f xs = Pm.Spec.p (spSa.one 92 sxLast) f xs := rfl
@[go_sem] theorem spSf_h (f : FuncId) (ps : List PV) (hl : List PO) : spSf.h f ps hl = Pm.Spec.h (spSa.one 92 sxLast) f ps hl := rfl
@[go_sem] theorem spSf_fz (f : FuncId) : spSf.fz f = Pm.Spec.fz (spSa.one 92 sxLast) f := rfl
@[go_sem] theorem spSf_fr (f : FuncId) : spSf.fr f = Pm.Spec.fr (spSa.one 92 sxLast) f := rfl
@[go_sem] theorem spSf_mu (t : TypeId) : spSf.mu t = Pm.Spec.mu (spSa.one 92 sxLast) t := rfl
@[go_sem] theorem spSf_nf (t : TypeId) : spSf.nf t = Pm.Spec.nf (spSa.one 92 sxLast) t := rfl
theorem spSf_ok : SpecOk Try.prog spSf := Spec.one_ok sxLast_ok spSa_ok
theorem sIsReading_c (x : Sx) {sT sS : TV} (hT : IsRow Span.cs sT x.tab) (hS : IsRow Span.cs sS x.shade) (hv : sxOk x = true) (a s : Int) : PCalls Try.prog 55 [x.t sT sS, .agg [.int .i64 a, .int .i64 s]] (.bool (isRd x a s)) := by
  have h := sxOk_iff.1 hv
  have hp := pow_len h.sh
  have rT := rowS_is hT
  have rS := rowS_is hS
  unfold rowL at rT rS
  simp only [unS_nil] at rT rS
  have hr : isRd x a s = (inB a 0 (last x) && inB s 0 (2 ^ x.shade.length - 1)) := rfl
  have h6 := h.sh
  obtain ⟨step, tab, ⟨i0, i1⟩, wrong, shade⟩ := x
  simp only at *
  obtain ⟨P2, hP2⟩ : ∃ P2 : Int, (2 : Int) ^ shade.length = P2 := ⟨_, rfl⟩
  have hsh : IntKind.i64.wrap (1 * 2 ^ min shade.length 64) = P2 := by rw [Nat.min_eq_left (by omega), Int.one_mul, hP2, wrap_in (by omega) (by omega)]
  have w1 : IntKind.i64.wrap (P2 - 1) = P2 - 1 := wrap_in (by omega) (by omega)
  rw [hP2] at hr
  have hl0 : ¬ (shade.length : Int) < 0 := by omega
  refine pcalls_by Try.mixes spSf_ok (fn := Try.f55) Try.func55 rfl (by kernel_rfl) (by show 2 ≤ _; decide) ?_
  rw [hr]
  rcases hS with ⟨rfl, rfl⟩ | ⟨f', rfl⟩
  · have e1 : P2 = 1 := hP2.symm
    subst e1
    have w0 : IntKind.i64.wrap (1 * 2 ^ min 0 64) = 1 := rfl
    have w0' : IntKind.i64.wrap 0 = 0 := rfl
    simp (decide := true) (maxSteps := 4000000) only [go_sem, Nat.reduceAdd, Nat.reduceSub, Nat.reduceMul, Nat.reduceDiv, Nat.reduceMod, Nat.reduceLT, Nat.reduceLeDiff, Nat.reduceEqDiff, Nat.reduceBEq, Nat.reduceBNe, Nat.reduceGT, Int.reduceAdd, Int.reduceSub, Int.reduceMul, Int.reduceNeg, Int.reduceLT, Int.reduceLE, Int.reduceEq, Int.reduceNe, Int.reduceBEq, Int.reduceBNe, Int.reduceToNat, Int.reduceGT, Int.reduceGE, ↓reduceIte, decide_true, decide_false, eq_self, Nat.mul_one, Nat.zero_mul, Nat.one_mul, Int.le_refl, Nat.le_refl, Int.cast_ofNat_Int, Try.f55, Sx.t, Sx.cs, rT, hv, hsh, w1, w0, w0', hl0, IntKind.bits]
  · simp (decide := true) (maxSteps := 4000000) only [go_sem, Nat.reduceAdd, Nat.reduceSub, Nat.reduceMul, Nat.reduceDiv, Nat.reduceMod, Nat.reduceLT, Nat.reduceLeDiff, Nat.reduceEqDiff, Nat.reduceBEq, Nat.reduceBNe, Nat.reduceGT, Int.reduceAdd, Int.reduceSub, Int.reduceMul, Int.reduceNeg, Int.reduceLT, Int.reduceLE, Int.reduceEq, Int.reduceNe, Int.reduceBEq, Int.reduceBNe, Int.reduceToNat, Int.reduceGT, Int.reduceGE, ↓reduceIte, decide_true, decide_false, eq_self, Nat.mul_one, Nat.zero_mul, Nat.one_mul, Int.le_refl, Nat.le_refl, Int.cast_ofNat_Int, Try.f55, Sx.t, Sx.cs, rT, unS_eq, hv, hsh, w1, hl0, IntKind.bits]
noncomputable def sxIsReading : List TV → Option TV
  | [.agg [.int .i64 a0, sT, .int .i64 a1, .int .i64 a2, .int .i64 a3, sS], .agg [.int .i64 p, .int .i64 q]] => match rowL unS sT, rowL unS sS with
    | some tab, some shade => if sxOk (⟨a0, tab, ⟨a1, a2⟩, a3, shade⟩ : Sx) = true then some (.bool (isRd (⟨a0, tab, ⟨a1, a2⟩, a3, shade⟩ : Sx) p q)) else none
    | _, _ => none
  | _ => none
theorem sxIsReading_ok : ∀ xs r, sxIsReading xs = some r → PCalls Try.prog 55 xs r := by
  intro xs r h
  unfold sxIsReading at h
  split at h
  · split at h
    · rename_i tab shade hT hS
      have hT := rowL_some (un := unS) unS_nil (@unS_some) hT
      have hS := rowL_some (un := unS) unS_nil (@unS_some) hS
      split at h
      · rename_i hc; cases h; exact sIsReading_c ⟨_, tab, ⟨_, _⟩, _, shade⟩ hT hS hc _ _
      · cases h
    · cases h
  · cases h
attribute [go_sem] sxIsReading

theorem sFixed_c (s : Span) (a : Int) : PCalls Try.prog 117 [s.t, .int .i64 a] s.t := by
  refine pcalls_by Try.mixes noSpec_ok (fn := Try.f117) Try.func117 rfl (by kernel_rfl) (by show 2 ≤ _; decide) ?_
  simp (decide := true) (maxSteps := 4000000) only [go_sem, Nat.reduceAdd, Nat.reduceSub, Nat.reduceMul, Nat.reduceDiv, Nat.reduceMod, Nat.reduceLT, Nat.reduceLeDiff, Nat.reduceEqDiff, Nat.reduceBEq, Nat.reduceBNe, Nat.reduceGT, Int.reduceAdd, Int.reduceSub, Int.reduceMul, Int.reduceNeg, Int.reduceLT, Int.reduceLE, Int.reduceEq, Int.reduceNe, Int.reduceBEq, Int.reduceBNe, Int.reduceToNat, Int.reduceGT, Int.reduceGE, ↓reduceIte, decide_true, decide_false, eq_self, Nat.mul_one, Nat.zero_mul, Nat.one_mul, Int.le_refl, Nat.le_refl, Int.cast_ofNat_Int, Try.f117, Span.t, Span.cs]
noncomputable def sxFixed : List TV → Option TV
  | [.agg [.int .i64 a, .int .i64 b], .int .i64 n] => some (.agg [.int .i64 a, .int .i64 b])
  | _ => none
theorem sxFixed_ok : ∀ xs r, sxFixed xs = some r → PCalls Try.prog 117 xs r := by
  intro xs r h
  unfold sxFixed at h
  split at h
  · cases h; exact sFixed_c ⟨_, _⟩ _
  · cases h
attribute [go_sem] sxFixed
theorem sedivT {a b : Int} (h : 0 < b) : (if a.tmod b < 0 then a.tdiv b - 1 else a.tdiv b) = a / b := by
  have h1 := Int.mul_tdiv_add_tmod a b
  have h2 := Int.mul_ediv_add_emod a b
  have h3 := Int.emod_nonneg a (show b ≠ 0 by omega)
  have h4 := Int.emod_lt_of_pos a h
  have h5 : -b < a.tmod b ∧ a.tmod b < b := by
    have := Int.tmod_lt_of_pos a h
    have h6 := Int.tmod_lt_of_pos (-a) h
    rw [Int.neg_tmod] at h6
    omega
  by_cases hn : a.tmod b < 0
  · rw [if_pos hn]
    have e : b * (a.tdiv b - 1) + (a.tmod b + b) = a := by rw [Int.mul_sub]; omega
    have := (Int.ediv_emod_unique h (a := a) (r := a.tmod b + b) (q := a.tdiv b - 1)).2 ⟨by omega, by omega, by omega⟩
    exact this.1.symm
  · rw [if_neg hn]
    have := (Int.ediv_emod_unique h (a := a) (r := a.tmod b) (q := a.tdiv b)).2 ⟨by omega, by omega, by omega⟩
    exact this.1.symm
theorem sDown_c (a b : Int) (hb : 0 < b) (ha : -4000000000000000000 ≤ a ∧ a ≤ 4000000000000000000) : PCalls Try.prog 96 [.int .i64 a, .int .i64 b] (.int .i64 (a / b)) := by
  refine pcalls_by Try.mixes noSpec_ok (fn := Try.f96) Try.func96 rfl (by kernel_rfl) (by show 2 ≤ _; decide) ?_
  have hne : ¬ b = 0 := by omega
  have hq := sedivT (a := a) hb
  have hd := hdiv_mid (a := a) (b := b) ha hb
  have hd := hd.resolve_right id
  unfold hMid at hd
  by_cases hn : a.tmod b < 0
  · rw [if_pos hn] at hq
    have w1 : IntKind.i64.wrap (a.tdiv b) = a.tdiv b := wrap_in (by omega) (by omega)
    have w2 : IntKind.i64.wrap (a.tdiv b - 1) = a / b := by rw [wrap_in (by omega) (by omega)]; exact hq
    simp (decide := true) (maxSteps := 4000000) only [go_sem, Nat.reduceAdd, Nat.reduceSub, Nat.reduceMul, Nat.reduceDiv, Nat.reduceMod, Nat.reduceLT, Nat.reduceLeDiff, Nat.reduceEqDiff, Nat.reduceBEq, Nat.reduceBNe, Nat.reduceGT, Int.reduceAdd, Int.reduceSub, Int.reduceMul, Int.reduceNeg, Int.reduceLT, Int.reduceLE, Int.reduceEq, Int.reduceNe, Int.reduceBEq, Int.reduceBNe, Int.reduceToNat, Int.reduceGT, Int.reduceGE, ↓reduceIte, decide_true, decide_false, eq_self, Nat.mul_one, Nat.zero_mul, Nat.one_mul, Int.le_refl, Nat.le_refl, Int.cast_ofNat_Int, Try.f96, hne, hn, w1, w2]
  · rw [if_neg hn] at hq
    have w1 : IntKind.i64.wrap (a.tdiv b) = a / b := by rw [wrap_in (by omega) (by omega)]; exact hq
    simp (decide := true) (maxSteps := 4000000) only [go_sem, Nat.reduceAdd, Nat.reduceSub, Nat.reduceMul, Nat.reduceDiv, Nat.reduceMod, Nat.reduceLT, Nat.reduceLeDiff, Nat.reduceEqDiff, Nat.reduceBEq, Nat.reduceBNe, Nat.reduceGT, Int.reduceAdd, Int.reduceSub, Int.reduceMul, Int.reduceNeg, Int.reduceLT, Int.reduceLE, Int.reduceEq, Int.reduceNe, Int.reduceBEq, Int.reduceBNe, Int.reduceToNat, Int.reduceGT, Int.reduceGE, ↓reduceIte, decide_true, decide_false, eq_self, Nat.mul_one, Nat.zero_mul, Nat.one_mul, Int.le_refl, Nat.le_refl, Int.cast_ofNat_Int, Try.f96, hne, hn, w1]
noncomputable def sxDown : List TV → Option TV
  | [.int .i64 a, .int .i64 b] => if 0 < b ∧ -4000000000000000000 ≤ a ∧ a ≤ 4000000000000000000 then some (.int .i64 (a / b)) else none
  | _ => none
theorem sxDown_ok : ∀ xs r, sxDown xs = some r → PCalls Try.prog 96 xs r := by
  intro xs r h
  unfold sxDown at h
  split at h
  · split at h
    · rename_i hc; cases h; exact sDown_c _ _ hc.1 hc.2
    · cases h
  · cases h
attribute [go_sem] sxDown
noncomputable def spSg : Pm.Spec := noSpec.one 96 sxDown
@[go_sem] theorem spSg_p (f : FuncId) (xs : List TV) : spSg.p f xs = Pm.Spec.p (noSpec.one 96 sxDown) f xs := rfl
@[go_sem] theorem spSg_h (f : FuncId) (ps : List PV) (hl : List PO) : spSg.h f ps hl = Pm.Spec.h (noSpec.one 96 sxDown) f ps hl := rfl
@[go_sem] theorem spSg_fz (f : FuncId) : spSg.fz f = Pm.Spec.fz (noSpec.one 96 sxDown) f := rfl
@[go_sem] theorem spSg_fr (f : FuncId) : spSg.fr f = Pm.Spec.fr (noSpec.one 96 sxDown) f := rfl
@[go_sem] theorem spSg_mu (t : TypeId) : spSg.mu t = Pm.Spec.mu (noSpec.one 96 sxDown) t := rfl
@[go_sem] theorem spSg_nf (t : TypeId) : spSg.nf t = Pm.Spec.nf (noSpec.one 96 sxDown) t := rfl
theorem spSg_ok : SpecOk Try.prog spSg := Spec.one_ok sxDown_ok noSpec_ok
theorem sTable_c {st : Int} {l : List Span} (f : Bool) {a : Int} (h1 : 1 ≤ st ∧ st ≤ 72000) (hl : l.all (spannedB · (-600) 600) = true) (h0 : 1 ≤ l.length) (hll : l.length ≤ 9000000000000) (ha : 0 ≤ a) (ha2 : a ≤ 504000) (ha3 : a ≤ st * (l.length - 1)) :
    PCalls Try.prog 69 [.agg [.int .i64 st, .sl (l.flatMap Span.cs) l.length f], .int .i64 a] (corr st l a).t := by
  have hit := inTab h1.1 h0 ha ha3
  have hg : ∀ s ∈ l, -600 ≤ s.lo ∧ s.lo ≤ s.hi ∧ s.hi ≤ 600 := fun s hs => spannedB_iff.1 (List.all_eq_true.1 hl s hs)
  have hne : ¬ st = 0 := by omega
  have q1 : a.tdiv st = a / st := Int.tdiv_eq_ediv_of_nonneg ha
  have q2 : a.tmod st = a % st := Int.tmod_eq_emod_of_nonneg ha
  have hq := hit.k0
  have hqn := hit.kn
  have hd0 := hit.d0
  have hds := hit.ds
  have hqb : a / st ≤ 504000 := Int.le_trans (Int.ediv_le_self st ha) ha2
  obtain ⟨k, hk⟩ : ∃ k : Nat, a / st = k := ⟨(a / st).toNat, (Int.toNat_of_nonneg hq).symm⟩
  obtain ⟨d, hd⟩ : ∃ d : Int, a % st = d := ⟨_, rfl⟩
  have w1 : IntKind.i64.wrap (k : Int) = k := wrap_in (by omega) (by omega)
  have w2 : IntKind.i64.wrap d = d := wrap_in (by omega) (by omega)
  rw [hk, Int.toNat_natCast] at hqn
  have hkl : (k : Int) < l.length := by omega
  obtain ⟨x, hx⟩ := get_lt hkl
  have dx := flat_at Span.cs (n := 2) (fun _ => rfl) hx
  have ex := atS_eq hx
  have gx := hg x (List.mem_of_getElem? hx)
  refine pcalls_by Try.mixes spSg_ok (fn := Try.f69) Try.func69 rfl (by kernel_rfl) (by show 2 ≤ _; decide) ?_
  by_cases hd00 : d = 0
  · subst hd00
    have e : corr st l a = x := by unfold corr; simp only [hd, hk, Int.toNat_natCast, if_true, ex]
    have b0 : ((0 : Int) == 0) = true := rfl
    simp (decide := true) (maxSteps := 4000000) only [go_sem, Nat.reduceAdd, Nat.reduceSub, Nat.reduceMul, Nat.reduceDiv, Nat.reduceMod, Nat.reduceLT, Nat.reduceLeDiff, Nat.reduceEqDiff, Nat.reduceBEq, Nat.reduceBNe, Nat.reduceGT, Int.reduceAdd, Int.reduceSub, Int.reduceMul, Int.reduceNeg, Int.reduceLT, Int.reduceLE, Int.reduceEq, Int.reduceNe, Int.reduceBEq, Int.reduceBNe, Int.reduceToNat, Int.reduceGT, Int.reduceGE, ↓reduceIte, decide_true, decide_false, eq_self, Nat.mul_one, Nat.zero_mul, Nat.one_mul, Int.le_refl, Nat.le_refl, Int.cast_ofNat_Int, Try.f69, hne, q1, q2, hk, hd, w1, w2, b0, hkl, Int.toNat_natCast, dx, Span.cs, e, Span.t]
  · have hkd := hit.kd (by rw [hd]; exact hd00)
    rw [hk, Int.toNat_natCast] at hkd
    have hkl1 : ((k + 1 : Nat) : Int) < l.length := by omega
    obtain ⟨y, hy⟩ := get_lt hkl1
    have dy := flat_at Span.cs (n := 2) (fun _ => rfl) hy
    have ey := atS_eq hy
    have gy := hg y (List.mem_of_getElem? hy)
    have e : corr st l a = ⟨(x.lo * (st - d) + y.lo * d) / st, (x.hi * (st - d) + y.hi * d) / st⟩ := by unfold corr; simp only [hd, hk, Int.toNat_natCast, if_neg hd00, ex, ey]
    have b0 : (d == 0) = false := beq_int_f hd00
    have w3 : IntKind.i64.wrap ((k : Int) + 1) = ((k + 1 : Nat) : Int) := by rw [wrap_in (by omega) (by omega)]; omega
    have w4 : IntKind.i64.wrap (st - d) = st - d := wrap_in (by omega) (by omega)
    rw [hd] at hd0 hds
    have p1 := mulR (a := x.lo) (b := st - d) (m := 600) (n := 72000) (by omega) (by omega) (by omega)
    have p2 := mulR (a := y.lo) (b := d) (m := 600) (n := 72000) (by omega) (by omega) (by omega)
    have p3 := mulR (a := x.hi) (b := st - d) (m := 600) (n := 72000) (by omega) (by omega) (by omega)
    have p4 := mulR (a := y.hi) (b := d) (m := 600) (n := 72000) (by omega) (by omega) (by omega)
    obtain ⟨x0, x1⟩ := x
    obtain ⟨y0, y1⟩ := y
    simp only at *
    have w5 : IntKind.i64.wrap (x0 * (st - d)) = x0 * (st - d) := wrap_in (by omega) (by omega)
    have w6 : IntKind.i64.wrap (y0 * d) = y0 * d := wrap_in (by omega) (by omega)
    have w7 : IntKind.i64.wrap (x1 * (st - d)) = x1 * (st - d) := wrap_in (by omega) (by omega)
    have w8 : IntKind.i64.wrap (y1 * d) = y1 * d := wrap_in (by omega) (by omega)
    have w9 : IntKind.i64.wrap (x0 * (st - d) + y0 * d) = x0 * (st - d) + y0 * d := wrap_in (by omega) (by omega)
    have w10 : IntKind.i64.wrap (x1 * (st - d) + y1 * d) = x1 * (st - d) + y1 * d := wrap_in (by omega) (by omega)
    have c1 : 0 < st ∧ -4000000000000000000 ≤ x0 * (st - d) + y0 * d ∧ x0 * (st - d) + y0 * d ≤ 4000000000000000000 := by omega
    have c2 : 0 < st ∧ -4000000000000000000 ≤ x1 * (st - d) + y1 * d ∧ x1 * (st - d) + y1 * d ≤ 4000000000000000000 := by omega
    simp (decide := true) (maxSteps := 4000000) only [go_sem, Nat.reduceAdd, Nat.reduceSub, Nat.reduceMul, Nat.reduceDiv, Nat.reduceMod, Nat.reduceLT, Nat.reduceLeDiff, Nat.reduceEqDiff, Nat.reduceBEq, Nat.reduceBNe, Nat.reduceGT, Int.reduceAdd, Int.reduceSub, Int.reduceMul, Int.reduceNeg, Int.reduceLT, Int.reduceLE, Int.reduceEq, Int.reduceNe, Int.reduceBEq, Int.reduceBNe, Int.reduceToNat, Int.reduceGT, Int.reduceGE, ↓reduceIte, decide_true, decide_false, eq_self, Nat.mul_one, Nat.zero_mul, Nat.one_mul, Int.le_refl, Nat.le_refl, Int.cast_ofNat_Int, Try.f69, hne, q1, q2, hk, hd, w1, w2, w3, b0, hkl, hkl1, Int.toNat_natCast, dx, dy, w4, w5, w6, w7, w8, w9, w10, c1, c2, Span.cs, e, Span.t]
end Go.Proofs.Ytjmkccckohcfkaa

/- Part Sd. -/
namespace Go.Os
open Go Go.Pm Go.Oc Go.Oh
def bdB (s : Span) : Bool := inB s.lo (-10000000) 10000000 && inB s.hi (-10000000) 10000000
theorem bdB_iff {s : Span} : bdB s = true ↔ (-10000000 ≤ s.lo ∧ s.lo ≤ 10000000) ∧ -10000000 ≤ s.hi ∧ s.hi ≤ 10000000 := by unfold bdB; rw [Bool.and_eq_true, inB_iff, inB_iff]
def sumL (l : List Span) : Span := l.foldl addS ⟨0, 0⟩
theorem sumL_snoc (l : List Span) (s : Span) : sumL (l ++ [s]) = addS (sumL l) s := by unfold sumL; rw [List.foldl_append]; rfl
theorem sumL_take {l : List Span} {k : Nat} {s : Span} (h : l[k]? = some s) : sumL (l.take (k + 1)) = addS (sumL (l.take k)) s := by rw [take_snoc h, sumL_snoc]
theorem sumL_b {l : List Span} (h : l.all bdB = true) : ∀ k, k ≤ l.length → (-(10000000 * (k : Int)) ≤ (sumL (l.take k)).lo ∧ (sumL (l.take k)).lo ≤ 10000000 * (k : Int)) ∧ -(10000000 * (k : Int)) ≤ (sumL (l.take k)).hi ∧ (sumL (l.take k)).hi ≤ 10000000 * (k : Int)
  | 0, _ => by simp [sumL]
  | k + 1, hk => by
    have ih := sumL_b h k (by omega)
    have hx := List.getElem?_eq_getElem (show k < l.length by omega)
    have hb := bdB_iff.1 (List.all_eq_true.1 h _ (List.mem_of_getElem? hx))
    rw [sumL_take hx]
    simp only [addS]
    omega
/-- What adds to an angle. -/
inductive Ad where
  | fix (s : Span)
  | tab (st : Int) (l : List Span) (f : Bool)
def Ad.tv : Ad → TV
  | .fix s => .ifc 99 s.t
  | .tab st l f => .ifc 101 (.agg [.int .i64 st, .sl (l.flatMap Span.cs) l.length f])
def Ad.cs (a : Ad) : List TV := [a.tv]
theorem Ad.cs_inj (x y : Ad) (h : x.cs = y.cs) : x = y := by
  simp only [Ad.cs, List.cons.injEq, and_true] at h
  cases x with
  | fix s => cases y with
    | fix s' =>
      obtain ⟨a, b⟩ := s; obtain ⟨c, d⟩ := s'
      simp only [Ad.tv, Span.t, Span.cs, TV.ifc.injEq, TV.agg.injEq, List.cons.injEq, TV.int.injEq, true_and, and_true] at h
      rw [h.1, h.2]
    | tab => simp [Ad.tv] at h
  | tab st l f => cases y with
    | fix => simp [Ad.tv] at h
    | tab st' l' f' =>
      simp only [Ad.tv, TV.ifc.injEq, TV.agg.injEq, List.cons.injEq, TV.int.injEq, TV.sl.injEq, true_and, and_true] at h
      obtain ⟨h1, h2, _, h4⟩ := h
      rw [h1, h4, flat_inj (c := Span.cs) (n := 2) (fun _ => rfl) (by decide) (fun x y h => by
        obtain ⟨a, b⟩ := x; obtain ⟨c, d⟩ := y
        simp only [Span.cs, List.cons.injEq, TV.int.injEq, true_and, and_true] at h
        rw [h.1, h.2]) h2]
noncomputable def unA (cs : List TV) : Option (List Ad) := unflat Ad.cs cs
theorem unA_eq (l : List Ad) : unA (l.flatMap Ad.cs) = some l := unflat_eq (n := 1) (fun _ => rfl) (by decide) Ad.cs_inj l
theorem unA_nil : unA [] = some [] := unA_eq []
theorem unA_some {cs : List TV} {l : List Ad} (h : unA cs = some l) : cs = l.flatMap Ad.cs := unflat_some h
attribute [go_sem] unA_eq unA_nil
/-- What it adds at an angle. -/
def Ad.at' : Ad → Int → Span
  | .fix s, _ => s
  | .tab st l _, a => corr st l a
def Ad.ok (a : Int) : Ad → Bool
  | .fix s => bdB s
  | .tab st l _ => inB st 1 72000 && (decide (1 ≤ l.length ∧ l.length ≤ 9000000000000) && (l.all (spannedB · (-600) 600) && (decide (0 ≤ a ∧ a ≤ 504000) && decide (a ≤ st * (l.length - 1)))))
theorem Ad.at_b {a : Int} {x : Ad} (h : x.ok a = true) : bdB (x.at' a) = true := by
  cases x with
  | fix s => exact h
  | tab st l f =>
    simp only [Ad.ok, Bool.and_eq_true, inB_iff, decide_eq_true_eq, List.all_eq_true, spannedB_iff] at h
    obtain ⟨h1, h2, h3, h4, h5⟩ := h
    have := corr_b (inTab h1.1 h2.1 h4.1 h5) h3
    rw [bdB_iff]
    simp only [Ad.at']
    omega
/-- The shades that are used, so many looked at. -/
def shA (x : Sx) (set : Nat) (k : Nat) : List Ad := .fix ⟨-x.wrong, x.wrong⟩ :: ((List.range k).filter set.testBit).map fun i => .fix (atS x.shade i)
theorem shA_t {x : Sx} {set k : Nat} (h : set.testBit k = true) : shA x set (k + 1) = shA x set k ++ [.fix (atS x.shade k)] := by
  simp [shA, List.range_succ, List.filter_append, h]
theorem shA_f {x : Sx} {set k : Nat} (h : set.testBit k = false) : shA x set (k + 1) = shA x set k := by
  simp [shA, List.range_succ, List.filter_append, h]
theorem shA_len (x : Sx) (set : Nat) : ∀ k, 1 ≤ (shA x set k).length ∧ (shA x set k).length ≤ k + 1
  | 0 => by simp [shA]
  | k + 1 => by
    have := shA_len x set k
    cases h : set.testBit k with
    | false => rw [shA_f h]; omega
    | true => rw [shA_t h, List.length_append, List.length_singleton]; omega
theorem addS_zero (s : Span) : addS ⟨0, 0⟩ s = s := by simp [addS]
theorem shA_sum (x : Sx) (set : Nat) (a : Int) : ∀ k, sumL ((shA x set k).map (·.at' a)) = shTo x set k
  | 0 => by simp [shA, sumL, shTo, Ad.at', addS]
  | k + 1 => by
    rw [shTo_succ]
    cases h : set.testBit k with
    | false => rw [shA_f h, shA_sum x set a k]; rfl
    | true => rw [shA_t h, List.map_append, List.map_singleton, sumL_snoc, shA_sum x set a k]; rfl
theorem shA_ok {x : Sx} (hg : GoodS x) (set : Nat) (a : Int) : ∀ k, k ≤ x.shade.length → (shA x set k).all (Ad.ok a) = true
  | 0, _ => by
    have := hg.wr
    have : bdB ⟨-x.wrong, x.wrong⟩ = true := bdB_iff.2 (by simp only; omega)
    simp [shA, Ad.ok, this]
  | k + 1, hk => by
    have ih := shA_ok hg set a k (by omega)
    cases h : set.testBit k with
    | false => rw [shA_f h]; exact ih
    | true =>
      have hs := hg.shade _ (atS_mem (show k < x.shade.length by omega))
      have : bdB (atS x.shade k) = true := bdB_iff.2 (by omega)
      rw [shA_t h, List.all_append, ih]
      simp [Ad.ok, this]
end Go.Os
namespace Go.Proofs.Ytjmkccckohcfkaa
open Go.RowKit Go.Pm Go.Oc Go.Oh Go.Os
set_option maxRecDepth 100000
set_option linter.unusedVariables false
set_option maxHeartbeats 4000000

theorem sSum_c {l : List Span} {s : TV} (hl : IsRow Span.cs s l) (hb : l.all bdB = true) (h16 : l.length ≤ 16) : PCalls Try.prog 95 [s] (sumL l).t := by
  refine pcalls_by Try.mixes noSpec_ok (fn := Try.f95) Try.func95 rfl (by kernel_rfl) (by show 1 ≤ _; decide) ?_
  rcases hl with ⟨rfl, rfl⟩ | ⟨f, rfl⟩
  · simp (decide := true) (maxSteps := 4000000) only [go_sem, Nat.reduceAdd, Nat.reduceSub, Nat.reduceMul, Nat.reduceDiv, Nat.reduceMod, Nat.reduceLT, Nat.reduceLeDiff, Nat.reduceEqDiff, Nat.reduceBEq, Nat.reduceBNe, Nat.reduceGT, Int.reduceAdd, Int.reduceSub, Int.reduceMul, Int.reduceNeg, Int.reduceLT, Int.reduceLE, Int.reduceEq, Int.reduceNe, Int.reduceBEq, Int.reduceBNe, Int.reduceToNat, Int.reduceGT, Int.reduceGE, ↓reduceIte, decide_true, decide_false, eq_self, Nat.mul_one, Nat.zero_mul, Nat.one_mul, Int.le_refl, Nat.le_refl, Int.cast_ofNat_Int, Try.f95]
    refine pwpC_loopU (A := Unit) [2, 3, 6, 7] (fun _ => [(8, .t (.int .i64 0))]) (fun _ => []) (fun _ => 0) () (by decide) (fun _ => by rfl) ?_ fun Q1 hQ1 _ I1 hI1 => ?_
    · simp (decide := true) (maxSteps := 4000000) only [go_sem, Nat.reduceAdd, Nat.reduceSub, Nat.reduceMul, Nat.reduceDiv, Nat.reduceMod, Nat.reduceLT, Nat.reduceLeDiff, Nat.reduceEqDiff, Nat.reduceBEq, Nat.reduceBNe, Nat.reduceGT, Int.reduceAdd, Int.reduceSub, Int.reduceMul, Int.reduceNeg, Int.reduceLT, Int.reduceLE, Int.reduceEq, Int.reduceNe, Int.reduceBEq, Int.reduceBNe, Int.reduceToNat, Int.reduceGT, Int.reduceGE, ↓reduceIte, decide_true, decide_false, eq_self, Nat.mul_one, Nat.zero_mul, Nat.one_mul, Int.le_refl, Nat.le_refl, Int.cast_ofNat_Int]
    · simp (decide := true) (maxSteps := 4000000) only [go_sem, Nat.reduceAdd, Nat.reduceSub, Nat.reduceMul, Nat.reduceDiv, Nat.reduceMod, Nat.reduceLT, Nat.reduceLeDiff, Nat.reduceEqDiff, Nat.reduceBEq, Nat.reduceBNe, Nat.reduceGT, Int.reduceAdd, Int.reduceSub, Int.reduceMul, Int.reduceNeg, Int.reduceLT, Int.reduceLE, Int.reduceEq, Int.reduceNe, Int.reduceBEq, Int.reduceBNe, Int.reduceToNat, Int.reduceGT, Int.reduceGE, ↓reduceIte, decide_true, decide_false, eq_self, Nat.mul_one, Nat.zero_mul, Nat.one_mul, Int.le_refl, Nat.le_refl, Int.cast_ofNat_Int]
      refine hQ1 _ _ ?_
      simp (decide := true) (maxSteps := 4000000) only [go_sem, Nat.reduceAdd, Nat.reduceSub, Nat.reduceMul, Nat.reduceDiv, Nat.reduceMod, Nat.reduceLT, Nat.reduceLeDiff, Nat.reduceEqDiff, Nat.reduceBEq, Nat.reduceBNe, Nat.reduceGT, Int.reduceAdd, Int.reduceSub, Int.reduceMul, Int.reduceNeg, Int.reduceLT, Int.reduceLE, Int.reduceEq, Int.reduceNe, Int.reduceBEq, Int.reduceBNe, Int.reduceToNat, Int.reduceGT, Int.reduceGE, ↓reduceIte, decide_true, decide_false, eq_self, Nat.mul_one, Nat.zero_mul, Nat.one_mul, Int.le_refl, Nat.le_refl, Int.cast_ofNat_Int, sumL, Span.t, Span.cs]
  · simp (decide := true) (maxSteps := 4000000) only [go_sem, Nat.reduceAdd, Nat.reduceSub, Nat.reduceMul, Nat.reduceDiv, Nat.reduceMod, Nat.reduceLT, Nat.reduceLeDiff, Nat.reduceEqDiff, Nat.reduceBEq, Nat.reduceBNe, Nat.reduceGT, Int.reduceAdd, Int.reduceSub, Int.reduceMul, Int.reduceNeg, Int.reduceLT, Int.reduceLE, Int.reduceEq, Int.reduceNe, Int.reduceBEq, Int.reduceBNe, Int.reduceToNat, Int.reduceGT, Int.reduceGE, ↓reduceIte, decide_true, decide_false, eq_self, Nat.mul_one, Nat.zero_mul, Nat.one_mul, Int.le_refl, Nat.le_refl, Int.cast_ofNat_Int, Try.f95]
    refine pwpC_loopU (A := { k : Nat // k ≤ l.length }) [2, 3, 6, 7] (fun k => [(8, .t (.int .i64 k.1))]) (fun k => [(1, .box ((sumL (l.take k.1)).cs.map .t))]) (fun k => l.length - k.1) ⟨0, by omega⟩ (by decide) (fun _ => by rfl) ?_ fun Q1 hQ1 ⟨k, hk⟩ I1 hI1 => ?_
    · simp (decide := true) (maxSteps := 4000000) only [go_sem, Nat.reduceAdd, Nat.reduceSub, Nat.reduceMul, Nat.reduceDiv, Nat.reduceMod, Nat.reduceLT, Nat.reduceLeDiff, Nat.reduceEqDiff, Nat.reduceBEq, Nat.reduceBNe, Nat.reduceGT, Int.reduceAdd, Int.reduceSub, Int.reduceMul, Int.reduceNeg, Int.reduceLT, Int.reduceLE, Int.reduceEq, Int.reduceNe, Int.reduceBEq, Int.reduceBNe, Int.reduceToNat, Int.reduceGT, Int.reduceGE, ↓reduceIte, decide_true, decide_false, eq_self, Nat.mul_one, Nat.zero_mul, Nat.one_mul, Int.le_refl, Nat.le_refl, Int.cast_ofNat_Int, sumL, Span.cs, List.take_zero]
    · by_cases hlt : (k : Int) < l.length
      · obtain ⟨x, hx⟩ := get_lt hlt
        have hd := flat_at Span.cs (n := 2) (fun _ => rfl) hx
        have hc1 : IntKind.i64.wrap (k + 1) = ((k + 1 : Nat) : Int) := by rw [wrap_in (by omega) (by omega)]; omega
        have hs := sumL_b hb k hk
        have hxb := bdB_iff.1 (List.all_eq_true.1 hb _ (List.mem_of_getElem? hx))
        have hnx := sumL_take hx
        obtain ⟨S, hS⟩ : ∃ S, sumL (l.take k) = S := ⟨_, rfl⟩
        rw [hS] at hs hnx
        have w1 : IntKind.i64.wrap (S.lo + x.lo) = S.lo + x.lo := wrap_in (by omega) (by omega)
        have w2 : IntKind.i64.wrap (S.hi + x.hi) = S.hi + x.hi := wrap_in (by omega) (by omega)
        simp (decide := true) (maxSteps := 4000000) only [go_sem, Nat.reduceAdd, Nat.reduceSub, Nat.reduceMul, Nat.reduceDiv, Nat.reduceMod, Nat.reduceLT, Nat.reduceLeDiff, Nat.reduceEqDiff, Nat.reduceBEq, Nat.reduceBNe, Nat.reduceGT, Int.reduceAdd, Int.reduceSub, Int.reduceMul, Int.reduceNeg, Int.reduceLT, Int.reduceLE, Int.reduceEq, Int.reduceNe, Int.reduceBEq, Int.reduceBNe, Int.reduceToNat, Int.reduceGT, Int.reduceGE, ↓reduceIte, decide_true, decide_false, eq_self, Nat.mul_one, Nat.zero_mul, Nat.one_mul, Int.le_refl, Nat.le_refl, Int.cast_ofNat_Int, hlt, hd, Span.cs, w1, w2, hS]
        refine hI1 _ ⟨k + 1, by omega⟩ (by simp only; omega) ?_
        simp (decide := true) (maxSteps := 4000000) only [go_sem, Nat.reduceAdd, Nat.reduceSub, Nat.reduceMul, Nat.reduceDiv, Nat.reduceMod, Nat.reduceLT, Nat.reduceLeDiff, Nat.reduceEqDiff, Nat.reduceBEq, Nat.reduceBNe, Nat.reduceGT, Int.reduceAdd, Int.reduceSub, Int.reduceMul, Int.reduceNeg, Int.reduceLT, Int.reduceLE, Int.reduceEq, Int.reduceNe, Int.reduceBEq, Int.reduceBNe, Int.reduceToNat, Int.reduceGT, Int.reduceGE, ↓reduceIte, decide_true, decide_false, eq_self, Nat.mul_one, Nat.zero_mul, Nat.one_mul, Int.le_refl, Nat.le_refl, Int.cast_ofNat_Int, hc1, hnx, addS, Span.cs]
      · have hke : k = l.length := by omega
        subst hke
        simp (decide := true) (maxSteps := 4000000) only [go_sem, Nat.reduceAdd, Nat.reduceSub, Nat.reduceMul, Nat.reduceDiv, Nat.reduceMod, Nat.reduceLT, Nat.reduceLeDiff, Nat.reduceEqDiff, Nat.reduceBEq, Nat.reduceBNe, Nat.reduceGT, Int.reduceAdd, Int.reduceSub, Int.reduceMul, Int.reduceNeg, Int.reduceLT, Int.reduceLE, Int.reduceEq, Int.reduceNe, Int.reduceBEq, Int.reduceBNe, Int.reduceToNat, Int.reduceGT, Int.reduceGE, ↓reduceIte, decide_true, decide_false, eq_self, Nat.mul_one, Nat.zero_mul, Nat.one_mul, Int.le_refl, Nat.le_refl, Int.cast_ofNat_Int, hlt, List.take_length, Span.cs]
        refine hQ1 _ _ ?_
        simp (decide := true) (maxSteps := 4000000) only [go_sem, Nat.reduceAdd, Nat.reduceSub, Nat.reduceMul, Nat.reduceDiv, Nat.reduceMod, Nat.reduceLT, Nat.reduceLeDiff, Nat.reduceEqDiff, Nat.reduceBEq, Nat.reduceBNe, Nat.reduceGT, Int.reduceAdd, Int.reduceSub, Int.reduceMul, Int.reduceNeg, Int.reduceLT, Int.reduceLE, Int.reduceEq, Int.reduceNe, Int.reduceBEq, Int.reduceBNe, Int.reduceToNat, Int.reduceGT, Int.reduceGE, ↓reduceIte, decide_true, decide_false, eq_self, Nat.mul_one, Nat.zero_mul, Nat.one_mul, Int.le_refl, Nat.le_refl, Int.cast_ofNat_Int, List.take_length, Span.t, Span.cs]
noncomputable def sxSum : List TV → Option TV
  | [s] => match rowL unS s with
    | some l => if l.all bdB = true ∧ l.length ≤ 16 then some ((sumL l).t) else none
    | none => none
  | _ => none
theorem sxSum_ok : ∀ xs r, sxSum xs = some r → PCalls Try.prog 95 xs r := by
  intro xs r h
  unfold sxSum at h
  split at h
  · split at h
    · rename_i l hl
      have hl := rowL_some (un := unS) (by first | rfl | exact unS_nil) (@unS_some) hl
      split at h
      · rename_i hc; cases h; exact sSum_c hl hc.1 hc.2
      · cases h
    · cases h
  · cases h
attribute [go_sem] sxSum
noncomputable def sxTable2 : List TV → Option TV
  | [.agg [.int .i64 st, .sl cs n f], .int .i64 a] => match unS cs with
    | some l => if n = l.length ∧ Ad.ok a (.tab st l f) = true then some (corr st l a).t else none
    | none => none
  | _ => none
theorem sxTable2_ok : ∀ xs r, sxTable2 xs = some r → PCalls Try.prog 69 xs r := by
  intro xs r h
  unfold sxTable2 at h
  split at h
  · split at h
    · rename_i l hl
      split at h
      · rename_i hc; cases h
        obtain ⟨rfl, hc⟩ := hc
        have := unS_some hl
        subst this
        simp only [Ad.ok, Bool.and_eq_true, inB_iff, decide_eq_true_eq] at hc
        obtain ⟨h1, h2, h3, h4, h5⟩ := hc
        exact sTable_c _ h1 h3 h2.1 h2.2 h4.1 h4.2 h5
      · cases h
    · cases h
  · cases h
attribute [go_sem] sxTable2
noncomputable def spSh : Pm.Spec := ((noSpec.one 117 sxFixed).one 69 sxTable2).one 95 sxSum
@[go_sem] theorem spSh_p (f : FuncId) (xs : List TV) : spSh.p f xs = Pm.Spec.p (((noSpec.one 117 sxFixed).one 69 sxTable2).one 95 sxSum) f xs := rfl
@[go_sem] theorem spSh_h (f : FuncId) (ps : List PV) (hl : List PO) : spSh.h f ps hl = Pm.Spec.h (((noSpec.one 117 sxFixed).one 69 sxTable2).one 95 sxSum) f ps hl := rfl
@[go_sem] theorem spSh_fz (f : FuncId) : spSh.fz f = Pm.Spec.fz (((noSpec.one 117 sxFixed).one 69 sxTable2).one 95 sxSum) f := rfl
@[go_sem] theorem spSh_fr (f : FuncId) : spSh.fr f = Pm.Spec.fr (((noSpec.one 117 sxFixed).one 69 sxTable2).one 95 sxSum) f := rfl
@[go_sem] theorem spSh_mu (t : TypeId) : spSh.mu t = Pm.Spec.mu (((noSpec.one 117 sxFixed).one 69 sxTable2).one 95 sxSum) t := rfl
@[go_sem] theorem spSh_nf (t : TypeId) : spSh.nf t = Pm.Spec.nf (((noSpec.one 117 sxFixed).one 69 sxTable2).one 95 sxSum) t := rfl
theorem spSh_ok : SpecOk Try.prog spSh := Spec.one_ok sxSum_ok (Spec.one_ok sxTable2_ok (Spec.one_ok sxFixed_ok noSpec_ok))
theorem mthFixed : methodO Try.prog 99 ((nameAt Try.f65 0).getD Try.f61.name) = some 117 := by kernel_rfl
theorem mthTable : methodO Try.prog 101 ((nameAt Try.f65 0).getD Try.f61.name) = some 69 := by kernel_rfl
theorem sAdded_c (a : Int) (l : List Ad) (f : Bool) (hl : l.all (Ad.ok a) = true) (h16 : l.length ≤ 16) : PCalls Try.prog 65 [.int .i64 a, .sl (l.flatMap Ad.cs) l.length f] (sumL (l.map (·.at' a))).t := by
  have m1 := mth_of (l := nameAt Try.f65 0) rfl mthFixed
  have m2 := mth_of (l := nameAt Try.f65 0) rfl mthTable
  have hall : (l.map (·.at' a)).all bdB = true := by
    rw [List.all_map, List.all_eq_true]
    exact fun x hx => Ad.at_b (List.all_eq_true.1 hl x hx)
  refine pcalls_by Try.mixes spSh_ok (fn := Try.f65) Try.func65 rfl (by kernel_rfl) (by show 2 ≤ _; decide) ?_
  simp (decide := true) (maxSteps := 4000000) only [go_sem, Nat.reduceAdd, Nat.reduceSub, Nat.reduceMul, Nat.reduceDiv, Nat.reduceMod, Nat.reduceLT, Nat.reduceLeDiff, Nat.reduceEqDiff, Nat.reduceBEq, Nat.reduceBNe, Nat.reduceGT, Int.reduceAdd, Int.reduceSub, Int.reduceMul, Int.reduceNeg, Int.reduceLT, Int.reduceLE, Int.reduceEq, Int.reduceNe, Int.reduceBEq, Int.reduceBNe, Int.reduceToNat, Int.reduceGT, Int.reduceGE, ↓reduceIte, decide_true, decide_false, eq_self, Nat.mul_one, Nat.zero_mul, Nat.one_mul, Int.le_refl, Nat.le_refl, Int.cast_ofNat_Int, Try.f65]
  refine pwpC_loopU (A := { k : Nat // k ≤ l.length }) [0, 1, 4, 8, 9] (fun k => [(10, .t (.int .i64 k.1)), (5, .own (((l.take k.1).map (·.at' a)).flatMap Span.cs) k.1 1)]) (fun k => [(1, .tok k.1 24)]) (fun k => l.length - k.1) ⟨0, by omega⟩ (by decide) (fun _ => by rfl) ?_ fun Q1 hQ1 ⟨k, hk⟩ I1 hI1 => ?_
  · simp (decide := true) (maxSteps := 4000000) only [go_sem, Nat.reduceAdd, Nat.reduceSub, Nat.reduceMul, Nat.reduceDiv, Nat.reduceMod, Nat.reduceLT, Nat.reduceLeDiff, Nat.reduceEqDiff, Nat.reduceBEq, Nat.reduceBNe, Nat.reduceGT, Int.reduceAdd, Int.reduceSub, Int.reduceMul, Int.reduceNeg, Int.reduceLT, Int.reduceLE, Int.reduceEq, Int.reduceNe, Int.reduceBEq, Int.reduceBNe, Int.reduceToNat, Int.reduceGT, Int.reduceGE, ↓reduceIte, decide_true, decide_false, eq_self, Nat.mul_one, Nat.zero_mul, Nat.one_mul, Int.le_refl, Nat.le_refl, Int.cast_ofNat_Int, List.take_zero]
    first | done | exact ⟨rfl, rfl⟩ | rfl
  · by_cases hlt : (k : Int) < l.length
    · obtain ⟨x, hx⟩ := get_lt hlt
      have hd := flat_at Ad.cs (n := 1) (fun _ => rfl) hx
      rw [Nat.mul_one] at hd
      have hc1 : IntKind.i64.wrap (k + 1) = ((k + 1 : Nat) : Int) := by rw [wrap_in (by omega) (by omega)]; omega
      have hok := List.all_eq_true.1 hl x (List.mem_of_getElem? hx)
      have hr : (k + 1) * 16 ≤ 140737488355328 := by omega
      have e1 : (((l.take k).map (·.at' a)).flatMap Span.cs).length = k * 2 := by rw [flat_len Span.cs (n := 2) (fun _ => rfl), List.length_map, List.length_take]; congr 1; omega
      have hnx : (l.take (k + 1)).map (·.at' a) = (l.take k).map (·.at' a) ++ [x.at' a] := by rw [take_snoc hx, List.map_append]; rfl
      cases x with
      | fix s =>
        simp (decide := true) (maxSteps := 4000000) only [go_sem, Nat.reduceAdd, Nat.reduceSub, Nat.reduceMul, Nat.reduceDiv, Nat.reduceMod, Nat.reduceLT, Nat.reduceLeDiff, Nat.reduceEqDiff, Nat.reduceBEq, Nat.reduceBNe, Nat.reduceGT, Int.reduceAdd, Int.reduceSub, Int.reduceMul, Int.reduceNeg, Int.reduceLT, Int.reduceLE, Int.reduceEq, Int.reduceNe, Int.reduceBEq, Int.reduceBNe, Int.reduceToNat, Int.reduceGT, Int.reduceGE, ↓reduceIte, decide_true, decide_false, eq_self, Nat.mul_one, Nat.zero_mul, Nat.one_mul, Int.le_refl, Nat.le_refl, Int.cast_ofNat_Int, hlt, hd, Ad.cs, Ad.tv, Span.t, Span.cs, m1, hr, e1]
        refine hI1 _ ⟨k + 1, by omega⟩ (by simp only; omega) ?_
        have hnx' : ((l.take (k + 1)).map (·.at' a)).flatMap Span.cs = ((l.take k).map (·.at' a)).flatMap Span.cs ++ [.int .i64 s.lo, .int .i64 s.hi] := by rw [hnx, List.flatMap_append]; rfl
        simp (decide := true) (maxSteps := 4000000) only [go_sem, Nat.reduceAdd, Nat.reduceSub, Nat.reduceMul, Nat.reduceDiv, Nat.reduceMod, Nat.reduceLT, Nat.reduceLeDiff, Nat.reduceEqDiff, Nat.reduceBEq, Nat.reduceBNe, Nat.reduceGT, Int.reduceAdd, Int.reduceSub, Int.reduceMul, Int.reduceNeg, Int.reduceLT, Int.reduceLE, Int.reduceEq, Int.reduceNe, Int.reduceBEq, Int.reduceBNe, Int.reduceToNat, Int.reduceGT, Int.reduceGE, ↓reduceIte, decide_true, decide_false, eq_self, Nat.mul_one, Nat.zero_mul, Nat.one_mul, Int.le_refl, Nat.le_refl, Int.cast_ofNat_Int, hc1, hnx']
      | tab st t g =>
        simp (decide := true) (maxSteps := 4000000) only [go_sem, Nat.reduceAdd, Nat.reduceSub, Nat.reduceMul, Nat.reduceDiv, Nat.reduceMod, Nat.reduceLT, Nat.reduceLeDiff, Nat.reduceEqDiff, Nat.reduceBEq, Nat.reduceBNe, Nat.reduceGT, Int.reduceAdd, Int.reduceSub, Int.reduceMul, Int.reduceNeg, Int.reduceLT, Int.reduceLE, Int.reduceEq, Int.reduceNe, Int.reduceBEq, Int.reduceBNe, Int.reduceToNat, Int.reduceGT, Int.reduceGE, ↓reduceIte, decide_true, decide_false, eq_self, Nat.mul_one, Nat.zero_mul, Nat.one_mul, Int.le_refl, Nat.le_refl, Int.cast_ofNat_Int, hlt, hd, Ad.cs, Ad.tv, Span.t, Span.cs, m2, hr, e1, unS_eq, hok]
        refine hI1 _ ⟨k + 1, by omega⟩ (by simp only; omega) ?_
        have hnx' : ((l.take (k + 1)).map (·.at' a)).flatMap Span.cs = ((l.take k).map (·.at' a)).flatMap Span.cs ++ [.int .i64 (corr st t a).lo, .int .i64 (corr st t a).hi] := by rw [hnx, List.flatMap_append]; rfl
        simp (decide := true) (maxSteps := 4000000) only [go_sem, Nat.reduceAdd, Nat.reduceSub, Nat.reduceMul, Nat.reduceDiv, Nat.reduceMod, Nat.reduceLT, Nat.reduceLeDiff, Nat.reduceEqDiff, Nat.reduceBEq, Nat.reduceBNe, Nat.reduceGT, Int.reduceAdd, Int.reduceSub, Int.reduceMul, Int.reduceNeg, Int.reduceLT, Int.reduceLE, Int.reduceEq, Int.reduceNe, Int.reduceBEq, Int.reduceBNe, Int.reduceToNat, Int.reduceGT, Int.reduceGE, ↓reduceIte, decide_true, decide_false, eq_self, Nat.mul_one, Nat.zero_mul, Nat.one_mul, Int.le_refl, Nat.le_refl, Int.cast_ofNat_Int, hc1, hnx']
    · have hke : k = l.length := by omega
      subst hke
      simp (decide := true) (maxSteps := 4000000) only [go_sem, Nat.reduceAdd, Nat.reduceSub, Nat.reduceMul, Nat.reduceDiv, Nat.reduceMod, Nat.reduceLT, Nat.reduceLeDiff, Nat.reduceEqDiff, Nat.reduceBEq, Nat.reduceBNe, Nat.reduceGT, Int.reduceAdd, Int.reduceSub, Int.reduceMul, Int.reduceNeg, Int.reduceLT, Int.reduceLE, Int.reduceEq, Int.reduceNe, Int.reduceBEq, Int.reduceBNe, Int.reduceToNat, Int.reduceGT, Int.reduceGE, ↓reduceIte, decide_true, decide_false, eq_self, Nat.mul_one, Nat.zero_mul, Nat.one_mul, Int.le_refl, Nat.le_refl, Int.cast_ofNat_Int, hlt, List.take_length]
      refine hQ1 _ _ ?_
      have hml : (l.map (·.at' a)).length = l.length := List.length_map _
      rcases Nat.eq_zero_or_pos l.length with h0 | h0
      · have hn : l = [] := List.length_eq_zero_iff.1 h0
        subst hn
        simp (decide := true) (maxSteps := 4000000) only [go_sem, Nat.reduceAdd, Nat.reduceSub, Nat.reduceMul, Nat.reduceDiv, Nat.reduceMod, Nat.reduceLT, Nat.reduceLeDiff, Nat.reduceEqDiff, Nat.reduceBEq, Nat.reduceBNe, Nat.reduceGT, Int.reduceAdd, Int.reduceSub, Int.reduceMul, Int.reduceNeg, Int.reduceLT, Int.reduceLE, Int.reduceEq, Int.reduceNe, Int.reduceBEq, Int.reduceBNe, Int.reduceToNat, Int.reduceGT, Int.reduceGE, ↓reduceIte, decide_true, decide_false, eq_self, Nat.mul_one, Nat.zero_mul, Nat.one_mul, Int.le_refl, Nat.le_refl, Int.cast_ofNat_Int, List.take_length, h0, List.length_nil, List.map_nil, unS_nil, sumL, Span.t, Span.cs]
      · have h0' : ¬ l.length = 0 := by omega
        simp (decide := true) (maxSteps := 4000000) only [go_sem, Nat.reduceAdd, Nat.reduceSub, Nat.reduceMul, Nat.reduceDiv, Nat.reduceMod, Nat.reduceLT, Nat.reduceLeDiff, Nat.reduceEqDiff, Nat.reduceBEq, Nat.reduceBNe, Nat.reduceGT, Int.reduceAdd, Int.reduceSub, Int.reduceMul, Int.reduceNeg, Int.reduceLT, Int.reduceLE, Int.reduceEq, Int.reduceNe, Int.reduceBEq, Int.reduceBNe, Int.reduceToNat, Int.reduceGT, Int.reduceGE, ↓reduceIte, decide_true, decide_false, eq_self, Nat.mul_one, Nat.zero_mul, Nat.one_mul, Int.le_refl, Nat.le_refl, Int.cast_ofNat_Int, List.take_length, h0', unS_eq, hml, hall, h16, Span.t, Span.cs]
noncomputable def sxAdded : List TV → Option TV
  | [.int .i64 a, .sl cs n f] => match unA cs with
    | some l => if n = l.length ∧ l.all (Ad.ok a) = true ∧ l.length ≤ 16 then some (sumL (l.map (·.at' a))).t else none
    | none => none
  | _ => none
theorem sxAdded_ok : ∀ xs r, sxAdded xs = some r → PCalls Try.prog 65 xs r := by
  intro xs r h
  unfold sxAdded at h
  split at h
  · split at h
    · rename_i l hl
      split at h
      · rename_i hc; cases h
        obtain ⟨rfl, h1, h2⟩ := hc
        have := unA_some hl
        subst this
        exact sAdded_c _ l _ h1 h2
      · cases h
    · cases h
  · cases h
attribute [go_sem] sxAdded
end Go.Proofs.Ytjmkccckohcfkaa

/- Part Se. -/
namespace Go.Proofs.Ytjmkccckohcfkaa
open Go.RowKit Go.Pm Go.Oc Go.Oh Go.Os
set_option maxRecDepth 100000
set_option linter.unusedVariables false
set_option maxHeartbeats 4000000

noncomputable def spSi : Pm.Spec := { noSpec with mu := fun t => t == 97 }
@[go_sem] theorem spSi_p (f : FuncId) (xs : List TV) : spSi.p f xs = Pm.Spec.p ({ noSpec with mu := fun t => t == 97 }) f xs := rfl
@[go_sem] theorem spSi_h (f : FuncId) (ps : List PV) (hl : List PO) : spSi.h f ps hl = Pm.Spec.h ({ noSpec with mu := fun t => t == 97 }) f ps hl := rfl
@[go_sem] theorem spSi_fz (f : FuncId) : spSi.fz f = Pm.Spec.fz ({ noSpec with mu := fun t => t == 97 }) f := rfl
@[go_sem] theorem spSi_fr (f : FuncId) : spSi.fr f = Pm.Spec.fr ({ noSpec with mu := fun t => t == 97 }) f := rfl
@[go_sem] theorem spSi_mu (t : TypeId) : spSi.mu t = Pm.Spec.mu ({ noSpec with mu := fun t => t == 97 }) t := rfl
@[go_sem] theorem spSi_nf (t : TypeId) : spSi.nf t = Pm.Spec.nf ({ noSpec with mu := fun t => t == 97 }) t := rfl
theorem spSi_ok : SpecOk Try.prog spSi := ⟨noSpec_ok.1, noSpec_ok.2⟩
/-- What reading hands back, and its object. -/
def rdV (l : List Ad) : PV := .gsl 1 (l.length - 1) 1 0 l.length false
def rdO (x : Sx) (sT sS : TV) (l : List Ad) : List PO := [.box ((x.cs sT sS).map .t), .grow (l.length - 1) ((l.flatMap Ad.cs).map .t) 141 1]
theorem sReading_c (x : Sx) {sT sS : TV} (hS : IsRow Span.cs sS x.shade) (hv : sxOk x = true) (set : Nat) (hset : set < 64) : HCalls Try.prog 66 [.t (x.t sT sS), .t (.int .i64 set)] (getL []) (rdV (shA x set x.shade.length)) (getL (rdO x sT sS (shA x set x.shade.length))) := by
  have h := sxOk_iff.1 hv
  have h6 := h.sh
  have w1 : IntKind.i64.wrap (0 - x.wrong) = -x.wrong := by have := h.wr; rw [wrap_in (by omega) (by omega)]; omega
  refine hcalls_by Try.mixes spSi_ok (fn := Try.f66) Try.func66 rfl (by kernel_rfl) (by show 2 ≤ _; decide) ?_
  rcases hS with ⟨rfl, hS⟩ | ⟨f, rfl⟩
  · have e : x.shade.length = 0 := by rw [hS]; rfl
    simp (decide := true) (maxSteps := 4000000) only [go_sem, Nat.reduceAdd, Nat.reduceSub, Nat.reduceMul, Nat.reduceDiv, Nat.reduceMod, Nat.reduceLT, Nat.reduceLeDiff, Nat.reduceEqDiff, Nat.reduceBEq, Nat.reduceBNe, Nat.reduceGT, Int.reduceAdd, Int.reduceSub, Int.reduceMul, Int.reduceNeg, Int.reduceLT, Int.reduceLE, Int.reduceEq, Int.reduceNe, Int.reduceBEq, Int.reduceBNe, Int.reduceToNat, Int.reduceGT, Int.reduceGE, ↓reduceIte, decide_true, decide_false, eq_self, Nat.mul_one, Nat.zero_mul, Nat.one_mul, Int.le_refl, Nat.le_refl, Int.cast_ofNat_Int, Try.f66, Sx.t, Sx.cs, w1]
    refine pwpC_loopU (A := Unit) [1, 2, 4, 5, 20, 21] (fun _ => [(22, .t (.int .i64 0))]) (fun _ => []) (fun _ => 0) () (by decide) (fun _ => by rfl) ?_ fun Q1 hQ1 _ I1 hI1 => ?_
    · simp (decide := true) (maxSteps := 4000000) only [go_sem, Nat.reduceAdd, Nat.reduceSub, Nat.reduceMul, Nat.reduceDiv, Nat.reduceMod, Nat.reduceLT, Nat.reduceLeDiff, Nat.reduceEqDiff, Nat.reduceBEq, Nat.reduceBNe, Nat.reduceGT, Int.reduceAdd, Int.reduceSub, Int.reduceMul, Int.reduceNeg, Int.reduceLT, Int.reduceLE, Int.reduceEq, Int.reduceNe, Int.reduceBEq, Int.reduceBNe, Int.reduceToNat, Int.reduceGT, Int.reduceGE, ↓reduceIte, decide_true, decide_false, eq_self, Nat.mul_one, Nat.zero_mul, Nat.one_mul, Int.le_refl, Nat.le_refl, Int.cast_ofNat_Int]
    · simp (decide := true) (maxSteps := 4000000) only [go_sem, Nat.reduceAdd, Nat.reduceSub, Nat.reduceMul, Nat.reduceDiv, Nat.reduceMod, Nat.reduceLT, Nat.reduceLeDiff, Nat.reduceEqDiff, Nat.reduceBEq, Nat.reduceBNe, Nat.reduceGT, Int.reduceAdd, Int.reduceSub, Int.reduceMul, Int.reduceNeg, Int.reduceLT, Int.reduceLE, Int.reduceEq, Int.reduceNe, Int.reduceBEq, Int.reduceBNe, Int.reduceToNat, Int.reduceGT, Int.reduceGE, ↓reduceIte, decide_true, decide_false, eq_self, Nat.mul_one, Nat.zero_mul, Nat.one_mul, Int.le_refl, Nat.le_refl, Int.cast_ofNat_Int]
      refine hQ1 _ _ ?_
      simp (decide := true) (maxSteps := 4000000) only [go_sem, Nat.reduceAdd, Nat.reduceSub, Nat.reduceMul, Nat.reduceDiv, Nat.reduceMod, Nat.reduceLT, Nat.reduceLeDiff, Nat.reduceEqDiff, Nat.reduceBEq, Nat.reduceBNe, Nat.reduceGT, Int.reduceAdd, Int.reduceSub, Int.reduceMul, Int.reduceNeg, Int.reduceLT, Int.reduceLE, Int.reduceEq, Int.reduceNe, Int.reduceBEq, Int.reduceBNe, Int.reduceToNat, Int.reduceGT, Int.reduceGE, ↓reduceIte, decide_true, decide_false, eq_self, Nat.mul_one, Nat.zero_mul, Nat.one_mul, Int.le_refl, Nat.le_refl, Int.cast_ofNat_Int, e, shA, List.range_zero, List.filter_nil, List.map_nil, Ad.cs, Ad.tv, Span.t, Span.cs, rdV, rdO, Sx.cs]
      exact ⟨_, rfl, rfl⟩
  · simp (decide := true) (maxSteps := 4000000) only [go_sem, Nat.reduceAdd, Nat.reduceSub, Nat.reduceMul, Nat.reduceDiv, Nat.reduceMod, Nat.reduceLT, Nat.reduceLeDiff, Nat.reduceEqDiff, Nat.reduceBEq, Nat.reduceBNe, Nat.reduceGT, Int.reduceAdd, Int.reduceSub, Int.reduceMul, Int.reduceNeg, Int.reduceLT, Int.reduceLE, Int.reduceEq, Int.reduceNe, Int.reduceBEq, Int.reduceBNe, Int.reduceToNat, Int.reduceGT, Int.reduceGE, ↓reduceIte, decide_true, decide_false, eq_self, Nat.mul_one, Nat.zero_mul, Nat.one_mul, Int.le_refl, Nat.le_refl, Int.cast_ofNat_Int, Try.f66, Sx.t, Sx.cs, w1]
    refine pwpC_loopU (A := { k : Nat // k ≤ x.shade.length }) [1, 2, 4, 20, 21] (fun k => [(22, .t (.int .i64 k.1)), (5, .gsl 1 ((shA x set k.1).length - 1) 1 0 (shA x set k.1).length false)]) (fun k => [(1, .grow ((shA x set k.1).length - 1) (((shA x set k.1).flatMap Ad.cs).map .t) 141 1)]) (fun k => x.shade.length - k.1) ⟨0, by omega⟩ (by decide) (fun _ => by rfl) ?_ fun Q1 hQ1 ⟨k, hk⟩ I1 hI1 => ?_
    · simp (decide := true) (maxSteps := 4000000) only [go_sem, Nat.reduceAdd, Nat.reduceSub, Nat.reduceMul, Nat.reduceDiv, Nat.reduceMod, Nat.reduceLT, Nat.reduceLeDiff, Nat.reduceEqDiff, Nat.reduceBEq, Nat.reduceBNe, Nat.reduceGT, Int.reduceAdd, Int.reduceSub, Int.reduceMul, Int.reduceNeg, Int.reduceLT, Int.reduceLE, Int.reduceEq, Int.reduceNe, Int.reduceBEq, Int.reduceBNe, Int.reduceToNat, Int.reduceGT, Int.reduceGE, ↓reduceIte, decide_true, decide_false, eq_self, Nat.mul_one, Nat.zero_mul, Nat.one_mul, Int.le_refl, Nat.le_refl, Int.cast_ofNat_Int, shA, List.range_zero, List.filter_nil, Ad.cs, Ad.tv, Span.t, Span.cs]
    · by_cases hlt : (k : Int) < x.shade.length
      · obtain ⟨s, hs⟩ := get_lt hlt
        have hd := flat_at Span.cs (n := 2) (fun _ => rfl) hs
        have hc1 : IntKind.i64.wrap (k + 1) = ((k + 1 : Nat) : Int) := by rw [wrap_in (by omega) (by omega)]; omega
        have hbit := bit_shade set hset k (by omega)
        have hk0 : ¬ (k : Int) < 0 := by omega
        have hes := atS_eq hs
        have hln := shA_len x set k
        have hfl : (((shA x set k).flatMap Ad.cs).map PV.t).length = (shA x set k).length := by rw [List.length_map, flat_len Ad.cs (n := 1) (fun _ => rfl), Nat.mul_one]
        have hr : ((shA x set k).length + 1) * 16 ≤ 140737488355328 := by omega
        cases hb : set.testBit k with
        | false =>
          rw [hb] at hbit
          simp (decide := true) (maxSteps := 4000000) only [go_sem, Nat.reduceAdd, Nat.reduceSub, Nat.reduceMul, Nat.reduceDiv, Nat.reduceMod, Nat.reduceLT, Nat.reduceLeDiff, Nat.reduceEqDiff, Nat.reduceBEq, Nat.reduceBNe, Nat.reduceGT, Int.reduceAdd, Int.reduceSub, Int.reduceMul, Int.reduceNeg, Int.reduceLT, Int.reduceLE, Int.reduceEq, Int.reduceNe, Int.reduceBEq, Int.reduceBNe, Int.reduceToNat, Int.reduceGT, Int.reduceGE, ↓reduceIte, decide_true, decide_false, eq_self, Nat.mul_one, Nat.zero_mul, Nat.one_mul, Int.le_refl, Nat.le_refl, Int.cast_ofNat_Int, hlt, hd, Span.cs, hk0]
          refine condC_splitB (fun ht => (by cases hbit.symm.trans ht)) (fun _ => ?_)
          simp (decide := true) (maxSteps := 4000000) only [go_sem, Nat.reduceAdd, Nat.reduceSub, Nat.reduceMul, Nat.reduceDiv, Nat.reduceMod, Nat.reduceLT, Nat.reduceLeDiff, Nat.reduceEqDiff, Nat.reduceBEq, Nat.reduceBNe, Nat.reduceGT, Int.reduceAdd, Int.reduceSub, Int.reduceMul, Int.reduceNeg, Int.reduceLT, Int.reduceLE, Int.reduceEq, Int.reduceNe, Int.reduceBEq, Int.reduceBNe, Int.reduceToNat, Int.reduceGT, Int.reduceGE, ↓reduceIte, decide_true, decide_false, eq_self, Nat.mul_one, Nat.zero_mul, Nat.one_mul, Int.le_refl, Nat.le_refl, Int.cast_ofNat_Int]
          refine hI1 _ ⟨k + 1, by omega⟩ (by simp only; omega) ?_
          simp (decide := true) (maxSteps := 4000000) only [go_sem, Nat.reduceAdd, Nat.reduceSub, Nat.reduceMul, Nat.reduceDiv, Nat.reduceMod, Nat.reduceLT, Nat.reduceLeDiff, Nat.reduceEqDiff, Nat.reduceBEq, Nat.reduceBNe, Nat.reduceGT, Int.reduceAdd, Int.reduceSub, Int.reduceMul, Int.reduceNeg, Int.reduceLT, Int.reduceLE, Int.reduceEq, Int.reduceNe, Int.reduceBEq, Int.reduceBNe, Int.reduceToNat, Int.reduceGT, Int.reduceGE, ↓reduceIte, decide_true, decide_false, eq_self, Nat.mul_one, Nat.zero_mul, Nat.one_mul, Int.le_refl, Nat.le_refl, Int.cast_ofNat_Int, hc1, shA_f hb]
        | true =>
          rw [hb] at hbit
          simp (decide := true) (maxSteps := 4000000) only [go_sem, Nat.reduceAdd, Nat.reduceSub, Nat.reduceMul, Nat.reduceDiv, Nat.reduceMod, Nat.reduceLT, Nat.reduceLeDiff, Nat.reduceEqDiff, Nat.reduceBEq, Nat.reduceBNe, Nat.reduceGT, Int.reduceAdd, Int.reduceSub, Int.reduceMul, Int.reduceNeg, Int.reduceLT, Int.reduceLE, Int.reduceEq, Int.reduceNe, Int.reduceBEq, Int.reduceBNe, Int.reduceToNat, Int.reduceGT, Int.reduceGE, ↓reduceIte, decide_true, decide_false, eq_self, Nat.mul_one, Nat.zero_mul, Nat.one_mul, Int.le_refl, Nat.le_refl, Int.cast_ofNat_Int, hlt, hd, Span.cs, hk0]
          refine condC_splitB (fun _ => ?_) (fun ht => (by cases hbit.symm.trans ht))
          simp (decide := true) (maxSteps := 4000000) only [go_sem, Nat.reduceAdd, Nat.reduceSub, Nat.reduceMul, Nat.reduceDiv, Nat.reduceMod, Nat.reduceLT, Nat.reduceLeDiff, Nat.reduceEqDiff, Nat.reduceBEq, Nat.reduceBNe, Nat.reduceGT, Int.reduceAdd, Int.reduceSub, Int.reduceMul, Int.reduceNeg, Int.reduceLT, Int.reduceLE, Int.reduceEq, Int.reduceNe, Int.reduceBEq, Int.reduceBNe, Int.reduceToNat, Int.reduceGT, Int.reduceGE, ↓reduceIte, decide_true, decide_false, eq_self, Nat.mul_one, Nat.zero_mul, Nat.one_mul, Int.le_refl, Nat.le_refl, Int.cast_ofNat_Int, hfl, hr]
          refine hI1 _ ⟨k + 1, by omega⟩ (by simp only; omega) ?_
          have e1 : (shA x set (k + 1)).length = (shA x set k).length + 1 := by rw [shA_t hb]; simp
          have e2 : (shA x set k).length + 1 - 1 = (shA x set k).length - 1 + 1 := by omega
          have e3 : ((shA x set k).flatMap Ad.cs).map PV.t ++ [.t (.ifc 99 (.agg [.int .i64 s.lo, .int .i64 s.hi]))] = ((shA x set (k + 1)).flatMap Ad.cs).map PV.t := by
            rw [shA_t hb, List.flatMap_append, List.map_append, hes]; rfl
          simp (decide := true) (maxSteps := 4000000) only [go_sem, Nat.reduceAdd, Nat.reduceSub, Nat.reduceMul, Nat.reduceDiv, Nat.reduceMod, Nat.reduceLT, Nat.reduceLeDiff, Nat.reduceEqDiff, Nat.reduceBEq, Nat.reduceBNe, Nat.reduceGT, Int.reduceAdd, Int.reduceSub, Int.reduceMul, Int.reduceNeg, Int.reduceLT, Int.reduceLE, Int.reduceEq, Int.reduceNe, Int.reduceBEq, Int.reduceBNe, Int.reduceToNat, Int.reduceGT, Int.reduceGE, ↓reduceIte, decide_true, decide_false, eq_self, Nat.mul_one, Nat.zero_mul, Nat.one_mul, Int.le_refl, Nat.le_refl, Int.cast_ofNat_Int, hc1, e1, e2, e3]
      · have hke : k = x.shade.length := by omega
        subst hke
        simp (decide := true) (maxSteps := 4000000) only [go_sem, Nat.reduceAdd, Nat.reduceSub, Nat.reduceMul, Nat.reduceDiv, Nat.reduceMod, Nat.reduceLT, Nat.reduceLeDiff, Nat.reduceEqDiff, Nat.reduceBEq, Nat.reduceBNe, Nat.reduceGT, Int.reduceAdd, Int.reduceSub, Int.reduceMul, Int.reduceNeg, Int.reduceLT, Int.reduceLE, Int.reduceEq, Int.reduceNe, Int.reduceBEq, Int.reduceBNe, Int.reduceToNat, Int.reduceGT, Int.reduceGE, ↓reduceIte, decide_true, decide_false, eq_self, Nat.mul_one, Nat.zero_mul, Nat.one_mul, Int.le_refl, Nat.le_refl, Int.cast_ofNat_Int, hlt]
        refine hQ1 _ _ ?_
        simp (decide := true) (maxSteps := 4000000) only [go_sem, Nat.reduceAdd, Nat.reduceSub, Nat.reduceMul, Nat.reduceDiv, Nat.reduceMod, Nat.reduceLT, Nat.reduceLeDiff, Nat.reduceEqDiff, Nat.reduceBEq, Nat.reduceBNe, Nat.reduceGT, Int.reduceAdd, Int.reduceSub, Int.reduceMul, Int.reduceNeg, Int.reduceLT, Int.reduceLE, Int.reduceEq, Int.reduceNe, Int.reduceBEq, Int.reduceBNe, Int.reduceToNat, Int.reduceGT, Int.reduceGE, ↓reduceIte, decide_true, decide_false, eq_self, Nat.mul_one, Nat.zero_mul, Nat.one_mul, Int.le_refl, Nat.le_refl, Int.cast_ofNat_Int, rdV, rdO, Sx.cs]
        exact ⟨_, rfl, rfl⟩
noncomputable def sxReading : List PV → List PO → Option (PV × List PO)
  | [.t (.agg [.int .i64 a0, sT, .int .i64 a1, .int .i64 a2, .int .i64 a3, sS]), .t (.int .i64 set)], [] => match rowL unS sT, rowL unS sS with
    | some tab, some shade => if sxOk ⟨a0, tab, ⟨a1, a2⟩, a3, shade⟩ = true ∧ 0 ≤ set ∧ set < 64 then
        some (rdV (shA ⟨a0, tab, ⟨a1, a2⟩, a3, shade⟩ set.toNat shade.length), rdO ⟨a0, tab, ⟨a1, a2⟩, a3, shade⟩ sT sS (shA ⟨a0, tab, ⟨a1, a2⟩, a3, shade⟩ set.toNat shade.length)) else none
    | _, _ => none
  | _, _ => none
theorem sxReading_ok : ∀ xs hl r hl', sxReading xs hl = some (r, hl') → HCalls Try.prog 66 xs (getL hl) r (getL hl') := by
  intro xs hl r hl' h
  unfold sxReading at h
  split at h
  · rename_i a0 sT a1 a2 a3 sS set
    split at h
    · rename_i tab shade hT hS
      have hS := rowL_some (un := unS) unS_nil (@unS_some) hS
      split at h
      · rename_i hc
        simp only [Option.some.injEq, Prod.mk.injEq] at h
        obtain ⟨rfl, rfl⟩ := h
        have := sReading_c ⟨a0, tab, ⟨a1, a2⟩, a3, shade⟩ (sT := sT) hS hc.1 set.toNat (by omega)
        rw [Int.toNat_of_nonneg hc.2.1] at this
        exact this
      · cases h
    · cases h
  · cases h
attribute [go_sem] sxReading
noncomputable def spSj : Pm.Spec := Spec.oneH 66 sxReading { (noSpec.one 65 sxAdded) with mu := fun t => t == 97, fr := fun f => f == 65 }
@[go_sem] theorem spSj_p (f : FuncId) (xs : List TV) : spSj.p f xs = Pm.Spec.p (Spec.oneH 66 sxReading { (noSpec.one 65 sxAdded) with mu := fun t => t == 97, fr := fun f => f == 65 }) f xs := rfl
@[go_sem] theorem spSj_h (f : FuncId) (ps : List PV) (hl : List PO) : spSj.h f ps hl = Pm.Spec.h (Spec.oneH 66 sxReading { (noSpec.one 65 sxAdded) with mu := fun t => t == 97, fr := fun f => f == 65 }) f ps hl := rfl
@[go_sem] theorem spSj_fz (f : FuncId) : spSj.fz f = Pm.Spec.fz (Spec.oneH 66 sxReading { (noSpec.one 65 sxAdded) with mu := fun t => t == 97, fr := fun f => f == 65 }) f := rfl
@[go_sem] theorem spSj_fr (f : FuncId) : spSj.fr f = Pm.Spec.fr (Spec.oneH 66 sxReading { (noSpec.one 65 sxAdded) with mu := fun t => t == 97, fr := fun f => f == 65 }) f := rfl
@[go_sem] theorem spSj_mu (t : TypeId) : spSj.mu t = Pm.Spec.mu (Spec.oneH 66 sxReading { (noSpec.one 65 sxAdded) with mu := fun t => t == 97, fr := fun f => f == 65 }) t := rfl
@[go_sem] theorem spSj_nf (t : TypeId) : spSj.nf t = Pm.Spec.nf (Spec.oneH 66 sxReading { (noSpec.one 65 sxAdded) with mu := fun t => t == 97, fr := fun f => f == 65 }) t := rfl
theorem spSj_ok : SpecOk Try.prog spSj := Spec.oneH_ok sxReading_ok ⟨(Spec.one_ok sxAdded_ok noSpec_ok).1, (Spec.one_ok sxAdded_ok noSpec_ok).2⟩
theorem sTruth_c (x : Sx) {sT sS : TV} (hT : IsRow Span.cs sT x.tab) (hS : IsRow Span.cs sS x.shade) (hv : sxOk x = true) (a s : Int) (hr : isRd x a s = true) : PCalls Try.prog 56 [x.t sT sS, .agg [.int .i64 a, .int .i64 s]] (readS x a s.toNat).t := by
  have h := sxOk_iff.1 hv
  obtain ⟨hr1, hr2⟩ := isRd_iff.1 hr
  have hp := pow_len h.sh
  have hs64 : 0 ≤ s ∧ s < 64 := by omega
  have rS := rowS_is hS
  unfold rowL at rS
  simp only [unS_nil] at rS
  obtain ⟨f, rfl⟩ := good_T h hT
  refine pcalls_by Try.mixes spSj_ok (fn := Try.f56) Try.func56 rfl (by kernel_rfl) (by show 2 ≤ _; decide) ?_
  have e0 : Sx.mk x.step x.tab ⟨x.idx.lo, x.idx.hi⟩ x.wrong x.shade = x := rfl
  have hln := shA_len x s.toNat x.shade.length
  obtain ⟨L, hL⟩ : ∃ L, shA x s.toNat x.shade.length = L := ⟨_, rfl⟩
  rw [hL] at hln
  have h6 := h.sh
  have hfl : ((L.flatMap Ad.cs).map PV.t).length = L.length := by rw [List.length_map, flat_len Ad.cs (n := 1) (fun _ => rfl), Nat.mul_one]
  have hm : (L.length + 3) * 16 ≤ 140737488355328 := by omega
  obtain ⟨L', hL'⟩ : ∃ L', L ++ [.fix x.idx, .tab x.step x.tab f, .fix ⟨a, a⟩] = L' := ⟨_, rfl⟩
  have hll : L.length + 3 = L'.length := by rw [← hL']; simp
  have hcat : List.map PV.t (L.flatMap Ad.cs) ++ [.t (.ifc 99 (.agg [.int .i64 x.idx.lo, .int .i64 x.idx.hi])), .t (.ifc 101 (.agg [.int .i64 x.step, .sl (x.tab.flatMap Span.cs) x.tab.length f])), .t (.ifc 99 (.agg [.int .i64 a, .int .i64 a]))] = List.map PV.t (L'.flatMap Ad.cs) := by
    rw [← hL', List.flatMap_append, List.map_append]; rfl
  have htk : List.take L'.length (L'.flatMap Ad.cs) = L'.flatMap Ad.cs := List.take_of_length_le (by rw [flat_len Ad.cs (n := 1) (fun _ => rfl)]; omega)
  have hlen : (List.map PV.t (L'.flatMap Ad.cs)).length = L'.length := by rw [List.length_map, flat_len Ad.cs (n := 1) (fun _ => rfl), Nat.mul_one]
  have hlen2 : (L'.flatMap Ad.cs).length = L'.length := by rw [flat_len Ad.cs (n := 1) (fun _ => rfl), Nat.mul_one]
  have h16 : L'.length ≤ 16 := by omega
  have hlb := last_b h
  have hok : L'.all (Ad.ok a) = true := by
    have h1 := shA_ok h s.toNat a x.shade.length (Nat.le_refl _)
    rw [hL] at h1
    have h2 : bdB x.idx = true := bdB_iff.2 (by have := h.idx; omega)
    have h3 : bdB ⟨a, a⟩ = true := bdB_iff.2 (by simp only; omega)
    have h4 : inB x.step 1 72000 = true := inB_iff.2 h.st
    have h5 : (decide (1 ≤ x.tab.length ∧ x.tab.length ≤ 9000000000000)) = true := decide_eq_true (by have := h.len; omega)
    have h6 : x.tab.all (spannedB · (-600) 600) = true := List.all_eq_true.2 fun s hs => spannedB_iff.2 (h.tab s hs)
    have h7 : decide (0 ≤ a ∧ a ≤ 504000) = true := decide_eq_true (by omega)
    have h8 : decide (a ≤ x.step * (x.tab.length - 1)) = true := decide_eq_true hr1.2
    rw [← hL', List.all_append, h1]
    simp [Ad.ok, h2, h3, h4, h5, h6, h7, h8]
  have hsum : sumL (L'.map (·.at' a)) = readS x a s.toNat := by
    have h1 := shA_sum x s.toNat a x.shade.length
    rw [hL] at h1
    rw [← hL', List.map_append]
    unfold sumL at h1 ⊢
    rw [List.foldl_append, h1]
    simp only [List.map_cons, List.map_nil, List.foldl_cons, List.foldl_nil, Ad.at', addS, readS, shs]
    congr 1 <;> omega
  rw [hll] at hm
  simp (decide := true) (maxSteps := 4000000) only [go_sem, Nat.reduceAdd, Nat.reduceSub, Nat.reduceMul, Nat.reduceDiv, Nat.reduceMod, Nat.reduceLT, Nat.reduceLeDiff, Nat.reduceEqDiff, Nat.reduceBEq, Nat.reduceBNe, Nat.reduceGT, Int.reduceAdd, Int.reduceSub, Int.reduceMul, Int.reduceNeg, Int.reduceLT, Int.reduceLE, Int.reduceEq, Int.reduceNe, Int.reduceBEq, Int.reduceBNe, Int.reduceToNat, Int.reduceGT, Int.reduceGE, ↓reduceIte, decide_true, decide_false, eq_self, Nat.mul_one, Nat.zero_mul, Nat.one_mul, Int.le_refl, Nat.le_refl, Int.cast_ofNat_Int, Try.f56, Sx.t, Sx.cs, unS_eq, rS, hv, hs64, e0, hL, rdV, rdO, hfl, hm, hcat, hll, freezeW, freezeO, closedG, seenF, wr, upo, List.flatMap_append, htk, hlen, hlen2, h16, hok, hsum, List.drop_zero, Nat.mul_one, Nat.zero_add, Nat.zero_mul, Span.t, Span.cs]
noncomputable def sxTruth : List TV → Option TV
  | [.agg [.int .i64 a0, sT, .int .i64 a1, .int .i64 a2, .int .i64 a3, sS], .agg [.int .i64 p, .int .i64 q]] => match rowL unS sT, rowL unS sS with
    | some tab, some shade => if sxOk (⟨a0, tab, ⟨a1, a2⟩, a3, shade⟩ : Sx) = true ∧ isRd (⟨a0, tab, ⟨a1, a2⟩, a3, shade⟩ : Sx) p q = true then some ((readS (⟨a0, tab, ⟨a1, a2⟩, a3, shade⟩ : Sx) p q.toNat).t) else none
    | _, _ => none
  | _ => none
theorem sxTruth_ok : ∀ xs r, sxTruth xs = some r → PCalls Try.prog 56 xs r := by
  intro xs r h
  unfold sxTruth at h
  split at h
  · split at h
    · rename_i tab shade hT hS
      have hT := rowL_some (un := unS) unS_nil (@unS_some) hT
      have hS := rowL_some (un := unS) unS_nil (@unS_some) hS
      split at h
      · rename_i hc; cases h; exact sTruth_c ⟨_, tab, ⟨_, _⟩, _, shade⟩ hT hS hc.1 _ _ hc.2
      · cases h
    · cases h
  · cases h
attribute [go_sem] sxTruth
noncomputable def spSk : Pm.Spec := (((spSa.one 17 sxCheck).one 55 sxIsReading).one 56 sxTruth)
@[go_sem] theorem spSk_p (f : FuncId) (xs : List TV) : spSk.p f xs = Pm.Spec.p ((((spSa.one 17 sxCheck).one 55 sxIsReading).one 56 sxTruth)) f xs := rfl
@[go_sem] theorem spSk_h (f : FuncId) (ps : List PV) (hl : List PO) : spSk.h f ps hl = Pm.Spec.h ((((spSa.one 17 sxCheck).one 55 sxIsReading).one 56 sxTruth)) f ps hl := rfl
@[go_sem] theorem spSk_fz (f : FuncId) : spSk.fz f = Pm.Spec.fz ((((spSa.one 17 sxCheck).one 55 sxIsReading).one 56 sxTruth)) f := rfl
@[go_sem] theorem spSk_fr (f : FuncId) : spSk.fr f = Pm.Spec.fr ((((spSa.one 17 sxCheck).one 55 sxIsReading).one 56 sxTruth)) f := rfl
@[go_sem] theorem spSk_mu (t : TypeId) : spSk.mu t = Pm.Spec.mu ((((spSa.one 17 sxCheck).one 55 sxIsReading).one 56 sxTruth)) t := rfl
@[go_sem] theorem spSk_nf (t : TypeId) : spSk.nf t = Pm.Spec.nf ((((spSa.one 17 sxCheck).one 55 sxIsReading).one 56 sxTruth)) t := rfl
theorem spSk_ok : SpecOk Try.prog spSk := Spec.one_ok sxTruth_ok (Spec.one_ok sxIsReading_ok (Spec.one_ok sxCheck_ok spSa_ok))
theorem sRead_c (x : Sx) {sT sS : TV} (hT : IsRow Span.cs sT x.tab) (hS : IsRow Span.cs sS x.shade) (lT : x.tab.length ≤ 9000000000000) (lS : x.shade.length ≤ 9000000000000) (a s : Int) : PCalls Try.prog 15 [x.t sT sS, .agg [.int .i64 a, .int .i64 s]] (.tup [(readP x a s).1.t, .int .i64 (readP x a s).2]) := by
  have rT := rowS_is hT
  have rS := rowS_is hS
  unfold rowL at rT rS
  simp only [unS_nil] at rT rS
  have e0 : Sx.mk x.step x.tab ⟨x.idx.lo, x.idx.hi⟩ x.wrong x.shade = x := rfl
  refine pcalls_by Try.mixes spSk_ok (fn := Try.f15) Try.func15 rfl (by kernel_rfl) (by show 2 ≤ _; decide) ?_
  unfold readP
  cases hv : sxOk x with
  | false =>
    have b : ((50 : Int) != 0) = true := rfl
    simp (decide := true) (maxSteps := 4000000) only [go_sem, Nat.reduceAdd, Nat.reduceSub, Nat.reduceMul, Nat.reduceDiv, Nat.reduceMod, Nat.reduceLT, Nat.reduceLeDiff, Nat.reduceEqDiff, Nat.reduceBEq, Nat.reduceBNe, Nat.reduceGT, Int.reduceAdd, Int.reduceSub, Int.reduceMul, Int.reduceNeg, Int.reduceLT, Int.reduceLE, Int.reduceEq, Int.reduceNe, Int.reduceBEq, Int.reduceBNe, Int.reduceToNat, Int.reduceGT, Int.reduceGE, ↓reduceIte, decide_true, decide_false, eq_self, Nat.mul_one, Nat.zero_mul, Nat.one_mul, Int.le_refl, Nat.le_refl, Int.cast_ofNat_Int, Try.f15, Sx.t, Sx.cs, rT, rS, lT, lS, e0, hv, b, Span.t, Span.cs]
  | true =>
    have b : ((0 : Int) != 0) = false := rfl
    cases hr : isRd x a s <;> simp (decide := true) (maxSteps := 4000000) only [go_sem, Nat.reduceAdd, Nat.reduceSub, Nat.reduceMul, Nat.reduceDiv, Nat.reduceMod, Nat.reduceLT, Nat.reduceLeDiff, Nat.reduceEqDiff, Nat.reduceBEq, Nat.reduceBNe, Nat.reduceGT, Int.reduceAdd, Int.reduceSub, Int.reduceMul, Int.reduceNeg, Int.reduceLT, Int.reduceLE, Int.reduceEq, Int.reduceNe, Int.reduceBEq, Int.reduceBNe, Int.reduceToNat, Int.reduceGT, Int.reduceGE, ↓reduceIte, decide_true, decide_false, eq_self, Nat.mul_one, Nat.zero_mul, Nat.one_mul, Int.le_refl, Nat.le_refl, Int.cast_ofNat_Int, Try.f15, Sx.t, Sx.cs, rT, rS, lT, lS, e0, hv, hr, b, Span.t, Span.cs]
noncomputable def sxRead : List TV → Option TV
  | [.agg [.int .i64 a0, sT, .int .i64 a1, .int .i64 a2, .int .i64 a3, sS], .agg [.int .i64 p, .int .i64 q]] => match rowL unS sT, rowL unS sS with
    | some tab, some shade => if tab.length ≤ 9000000000000 ∧ shade.length ≤ 9000000000000 then some (.tup [(readP (⟨a0, tab, ⟨a1, a2⟩, a3, shade⟩ : Sx) p q).1.t, .int .i64 (readP (⟨a0, tab, ⟨a1, a2⟩, a3, shade⟩ : Sx) p q).2]) else none
    | _, _ => none
  | _ => none
theorem sxRead_ok : ∀ xs r, sxRead xs = some r → PCalls Try.prog 15 xs r := by
  intro xs r h
  unfold sxRead at h
  split at h
  · split at h
    · rename_i tab shade hT hS
      have hT := rowL_some (un := unS) unS_nil (@unS_some) hT
      have hS := rowL_some (un := unS) unS_nil (@unS_some) hS
      split at h
      · rename_i hc; cases h; exact sRead_c ⟨_, tab, ⟨_, _⟩, _, shade⟩ hT hS hc.1 hc.2 _ _
      · cases h
    · cases h
  · cases h
attribute [go_sem] sxRead
end Go.Proofs.Ytjmkccckohcfkaa
