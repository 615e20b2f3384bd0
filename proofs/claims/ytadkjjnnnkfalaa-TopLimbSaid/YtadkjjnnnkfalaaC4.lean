/- What the claim leans on, text 4. -/
import Derived.Test.YtadkjjnnnkfalaaRows
import Derived.Test.YtadkjjnnnkfalaaC3
set_option linter.unusedSimpArgs false
set_option linter.unusedVariables false

/- Part Ty. -/
namespace Go.Proofs.Ytadkjjnnnkfalaa
open Go.Pm
@[go_sem] theorem Try.agg3 : aggO Try.prog 3 = some false := by kernel_rfl
@[go_sem] theorem Try.pln3 : plainO Try.prog 3 = some true := by kernel_rfl
@[go_sem] theorem Try.sz3 : szO Try.prog 3 = some 1 := by kernel_rfl
@[go_sem] theorem Try.zero3 : zeroL Try.prog 3 = some [.int .i64 0] := by kernel_rfl
@[go_sem] theorem Try.small3 : smallO Try.prog 3 = some (1, 8) := by kernel_rfl
@[go_sem] theorem Try.zt3 : zeroT Try.prog 3 = some (.int .i64 0) := by kernel_rfl
@[go_sem] theorem Try.knd3 : kindO Try.prog 3 = some .i64 := by kernel_rfl
@[go_sem] theorem Try.und3 : Program.underlying Try.prog 3 = some (.int .i64) := by kernel_rfl
@[go_sem] theorem Try.agg4 : aggO Try.prog 4 = some false := by kernel_rfl
@[go_sem] theorem Try.pln4 : plainO Try.prog 4 = some true := by kernel_rfl
@[go_sem] theorem Try.sz4 : szO Try.prog 4 = some 1 := by kernel_rfl
@[go_sem] theorem Try.zero4 : zeroL Try.prog 4 = some [.bool false] := by kernel_rfl
@[go_sem] theorem Try.small4 : smallO Try.prog 4 = some (1, 1) := by kernel_rfl
@[go_sem] theorem Try.zt4 : zeroT Try.prog 4 = some (.bool false) := by kernel_rfl
@[go_sem] theorem Try.eq4 (a b : Bool) : eqT Try.prog 20 4 (.bool a) (.bool b) = some (a == b) := by kernel_rfl
@[go_sem] theorem Try.und4 : Program.underlying Try.prog 4 = some .bool := by kernel_rfl
@[go_sem] theorem Try.agg23 : aggO Try.prog 23 = some false := by kernel_rfl
@[go_sem] theorem Try.pln23 : plainO Try.prog 23 = some true := by kernel_rfl
@[go_sem] theorem Try.sz23 : szO Try.prog 23 = some 1 := by kernel_rfl
@[go_sem] theorem Try.zero23 : zeroL Try.prog 23 = some [.nilSl] := by kernel_rfl
@[go_sem] theorem Try.small23 : smallO Try.prog 23 = some (1, 24) := by kernel_rfl
@[go_sem] theorem Try.zt23 : zeroT Try.prog 23 = some (.nilSl) := by kernel_rfl
@[go_sem] theorem Try.eqn23 : eqT Try.prog 20 23 .nilSl .nilSl = some true := by kernel_rfl
@[go_sem] theorem Try.eqs23 (cs : List TV) (n : Nat) (f : Bool) : eqT Try.prog 20 23 (.sl cs n f) .nilSl = some false := by kernel_rfl
@[go_sem] theorem Try.eqt23 (cs : List TV) (n : Nat) (f : Bool) : eqT Try.prog 20 23 .nilSl (.sl cs n f) = some false := by kernel_rfl
@[go_sem] theorem Try.sl23 : sliceO Try.prog 23 = some 29 := by kernel_rfl
@[go_sem] theorem Try.und23 : Program.underlying Try.prog 23 = some (.slice 29) := by kernel_rfl
@[go_sem] theorem Try.agg29 : aggO Try.prog 29 = some true := by kernel_rfl
@[go_sem] theorem Try.pln29 : plainO Try.prog 29 = some true := by kernel_rfl
@[go_sem] theorem Try.sz29 : szO Try.prog 29 = some 2 := by kernel_rfl
@[go_sem] theorem Try.zero29 : zeroL Try.prog 29 = some [.int .i64 0, .int .i64 0] := by kernel_rfl
@[go_sem] theorem Try.small29 : smallO Try.prog 29 = some (2, 16) := by kernel_rfl
@[go_sem] theorem Try.zt29 : zeroT Try.prog 29 = some (.agg [.int .i64 0, .int .i64 0]) := by kernel_rfl
@[go_sem] theorem Try.fld29_0 : fieldO Try.prog 29 0 = some (0, 3) := by kernel_rfl
@[go_sem] theorem Try.fld29_1 : fieldO Try.prog 29 1 = some (1, 3) := by kernel_rfl
@[go_sem] theorem Try.bld29 (parts : List (Nat × TV)) : buildO Try.prog 29 parts = (fillT (fun i => ([(0, 1), (1, 1)] : List (Nat × Nat))[i]?) [.int .i64 0, .int .i64 0] parts).map .agg := by kernel_rfl
@[go_sem] theorem Try.eq29 (a0 b0 : Int) (a1 b1 : Int) : eqT Try.prog 20 29 (.agg [.int .i64 a0, .int .i64 a1]) (.agg [.int .i64 b0, .int .i64 b1]) = some ((a0 == b0) && ((a1 == b1) && true)) := by kernel_rfl
@[go_sem] theorem Try.eqg29 : Program.eqGuardType Try.prog (Program.depth Try.prog) 29 = false := by kernel_rfl
@[go_sem] theorem Try.agg33 : aggO Try.prog 33 = some false := by kernel_rfl
@[go_sem] theorem Try.pln33 : plainO Try.prog 33 = some true := by kernel_rfl
@[go_sem] theorem Try.sz33 : szO Try.prog 33 = some 1 := by kernel_rfl
@[go_sem] theorem Try.zero33 : zeroL Try.prog 33 = some [.int .i64 0] := by kernel_rfl
@[go_sem] theorem Try.small33 : smallO Try.prog 33 = some (1, 8) := by kernel_rfl
@[go_sem] theorem Try.zt33 : zeroT Try.prog 33 = some (.int .i64 0) := by kernel_rfl
@[go_sem] theorem Try.knd33 : kindO Try.prog 33 = some .i64 := by kernel_rfl
@[go_sem] theorem Try.und33 : Program.underlying Try.prog 33 = some (.int .i64) := by kernel_rfl
@[go_sem] theorem Try.agg39 : aggO Try.prog 39 = some false := by kernel_rfl
@[go_sem] theorem Try.pln39 : plainO Try.prog 39 = some true := by kernel_rfl
@[go_sem] theorem Try.sz39 : szO Try.prog 39 = some 1 := by kernel_rfl
@[go_sem] theorem Try.zero39 : zeroL Try.prog 39 = some [.nilSl] := by kernel_rfl
@[go_sem] theorem Try.small39 : smallO Try.prog 39 = some (1, 24) := by kernel_rfl
@[go_sem] theorem Try.zt39 : zeroT Try.prog 39 = some (.nilSl) := by kernel_rfl
@[go_sem] theorem Try.eqn39 : eqT Try.prog 20 39 .nilSl .nilSl = some true := by kernel_rfl
@[go_sem] theorem Try.eqs39 (cs : List TV) (n : Nat) (f : Bool) : eqT Try.prog 20 39 (.sl cs n f) .nilSl = some false := by kernel_rfl
@[go_sem] theorem Try.eqt39 (cs : List TV) (n : Nat) (f : Bool) : eqT Try.prog 20 39 .nilSl (.sl cs n f) = some false := by kernel_rfl
@[go_sem] theorem Try.sl39 : sliceO Try.prog 39 = some 3 := by kernel_rfl
@[go_sem] theorem Try.und39 : Program.underlying Try.prog 39 = some (.slice 3) := by kernel_rfl
@[go_sem] theorem Try.agg66 : aggO Try.prog 66 = some false := by kernel_rfl
@[go_sem] theorem Try.pln66 : plainO Try.prog 66 = some true := by kernel_rfl
@[go_sem] theorem Try.sz66 : szO Try.prog 66 = some 1 := by kernel_rfl
@[go_sem] theorem Try.zero66 : zeroL Try.prog 66 = some [.nilFn] := by kernel_rfl
@[go_sem] theorem Try.small66 : smallO Try.prog 66 = some (1, 8) := by kernel_rfl
@[go_sem] theorem Try.zt66 : zeroT Try.prog 66 = some (.nilFn) := by kernel_rfl
@[go_sem] theorem Try.agg84 : aggO Try.prog 84 = some true := by kernel_rfl
@[go_sem] theorem Try.pln84 : plainO Try.prog 84 = some true := by kernel_rfl
@[go_sem] theorem Try.sz84 : szO Try.prog 84 = some 8 := by kernel_rfl
@[go_sem] theorem Try.zero84 : zeroL Try.prog 84 = some [.int .i64 0, .int .i64 0, .int .i64 0, .int .i64 0, .int .i64 0, .int .i64 0, .int .i64 0, .int .i64 0] := by kernel_rfl
@[go_sem] theorem Try.small84 : smallO Try.prog 84 = some (8, 64) := by kernel_rfl
@[go_sem] theorem Try.zt84 : zeroT Try.prog 84 = some (.agg [.int .i64 0, .int .i64 0, .int .i64 0, .int .i64 0, .int .i64 0, .int .i64 0, .int .i64 0, .int .i64 0]) := by kernel_rfl
@[go_sem] theorem Try.fld84_0 : fieldO Try.prog 84 0 = some (0, 3) := by kernel_rfl
@[go_sem] theorem Try.fld84_1 : fieldO Try.prog 84 1 = some (1, 29) := by kernel_rfl
@[go_sem] theorem Try.fld84_2 : fieldO Try.prog 84 2 = some (3, 29) := by kernel_rfl
@[go_sem] theorem Try.fld84_3 : fieldO Try.prog 84 3 = some (5, 29) := by kernel_rfl
@[go_sem] theorem Try.fld84_4 : fieldO Try.prog 84 4 = some (7, 3) := by kernel_rfl
@[go_sem] theorem Try.bld84 (parts : List (Nat × TV)) : buildO Try.prog 84 parts = (fillT (fun i => ([(0, 1), (1, 2), (3, 2), (5, 2), (7, 1)] : List (Nat × Nat))[i]?) [.int .i64 0, .int .i64 0, .int .i64 0, .int .i64 0, .int .i64 0, .int .i64 0, .int .i64 0, .int .i64 0] parts).map .agg := by kernel_rfl
@[go_sem] theorem Try.eq84 (a0 b0 : Int) (a1 b1 : Int) (a2 b2 : Int) (a3 b3 : Int) (a4 b4 : Int) (a5 b5 : Int) (a6 b6 : Int) (a7 b7 : Int) : eqT Try.prog 20 84 (.agg [.int .i64 a0, .int .i64 a1, .int .i64 a2, .int .i64 a3, .int .i64 a4, .int .i64 a5, .int .i64 a6, .int .i64 a7]) (.agg [.int .i64 b0, .int .i64 b1, .int .i64 b2, .int .i64 b3, .int .i64 b4, .int .i64 b5, .int .i64 b6, .int .i64 b7]) = some ((a0 == b0) && (((a1 == b1) && ((a2 == b2) && true)) && (((a3 == b3) && ((a4 == b4) && true)) && (((a5 == b5) && ((a6 == b6) && true)) && ((a7 == b7) && true))))) := by kernel_rfl
@[go_sem] theorem Try.eqg84 : Program.eqGuardType Try.prog (Program.depth Try.prog) 84 = false := by kernel_rfl
@[go_sem] theorem Try.agg85 : aggO Try.prog 85 = some false := by kernel_rfl
@[go_sem] theorem Try.pln85 : plainO Try.prog 85 = some true := by kernel_rfl
@[go_sem] theorem Try.sz85 : szO Try.prog 85 = some 1 := by kernel_rfl
@[go_sem] theorem Try.zero85 : zeroL Try.prog 85 = some [.nilSl] := by kernel_rfl
@[go_sem] theorem Try.small85 : smallO Try.prog 85 = some (1, 24) := by kernel_rfl
@[go_sem] theorem Try.zt85 : zeroT Try.prog 85 = some (.nilSl) := by kernel_rfl
@[go_sem] theorem Try.eqn85 : eqT Try.prog 20 85 .nilSl .nilSl = some true := by kernel_rfl
@[go_sem] theorem Try.eqs85 (cs : List TV) (n : Nat) (f : Bool) : eqT Try.prog 20 85 (.sl cs n f) .nilSl = some false := by kernel_rfl
@[go_sem] theorem Try.eqt85 (cs : List TV) (n : Nat) (f : Bool) : eqT Try.prog 20 85 .nilSl (.sl cs n f) = some false := by kernel_rfl
@[go_sem] theorem Try.sl85 : sliceO Try.prog 85 = some 218 := by kernel_rfl
@[go_sem] theorem Try.und85 : Program.underlying Try.prog 85 = some (.slice 218) := by kernel_rfl
@[go_sem] theorem Try.agg87 : aggO Try.prog 87 = some true := by kernel_rfl
@[go_sem] theorem Try.pln87 : plainO Try.prog 87 = some true := by kernel_rfl
@[go_sem] theorem Try.sz87 : szO Try.prog 87 = some 3 := by kernel_rfl
@[go_sem] theorem Try.zero87 : zeroL Try.prog 87 = some [.int .i64 0, .int .i64 0, .int .i64 0] := by kernel_rfl
@[go_sem] theorem Try.small87 : smallO Try.prog 87 = some (3, 24) := by kernel_rfl
@[go_sem] theorem Try.zt87 : zeroT Try.prog 87 = some (.agg [.int .i64 0, .int .i64 0, .int .i64 0]) := by kernel_rfl
@[go_sem] theorem Try.fld87_0 : fieldO Try.prog 87 0 = some (0, 3) := by kernel_rfl
@[go_sem] theorem Try.fld87_1 : fieldO Try.prog 87 1 = some (1, 3) := by kernel_rfl
@[go_sem] theorem Try.fld87_2 : fieldO Try.prog 87 2 = some (2, 3) := by kernel_rfl
@[go_sem] theorem Try.bld87 (parts : List (Nat × TV)) : buildO Try.prog 87 parts = (fillT (fun i => ([(0, 1), (1, 1), (2, 1)] : List (Nat × Nat))[i]?) [.int .i64 0, .int .i64 0, .int .i64 0] parts).map .agg := by kernel_rfl
@[go_sem] theorem Try.eq87 (a0 b0 : Int) (a1 b1 : Int) (a2 b2 : Int) : eqT Try.prog 20 87 (.agg [.int .i64 a0, .int .i64 a1, .int .i64 a2]) (.agg [.int .i64 b0, .int .i64 b1, .int .i64 b2]) = some ((a0 == b0) && ((a1 == b1) && ((a2 == b2) && true))) := by kernel_rfl
@[go_sem] theorem Try.eqg87 : Program.eqGuardType Try.prog (Program.depth Try.prog) 87 = false := by kernel_rfl
@[go_sem] theorem Try.agg91 : aggO Try.prog 91 = some true := by kernel_rfl
@[go_sem] theorem Try.pln91 : plainO Try.prog 91 = some true := by kernel_rfl
@[go_sem] theorem Try.sz91 : szO Try.prog 91 = some 6 := by kernel_rfl
@[go_sem] theorem Try.zero91 : zeroL Try.prog 91 = some [.int .i64 0, .nilSl, .int .i64 0, .int .i64 0, .int .i64 0, .nilSl] := by kernel_rfl
@[go_sem] theorem Try.small91 : smallO Try.prog 91 = some (6, 80) := by kernel_rfl
@[go_sem] theorem Try.zt91 : zeroT Try.prog 91 = some (.agg [.int .i64 0, .nilSl, .int .i64 0, .int .i64 0, .int .i64 0, .nilSl]) := by kernel_rfl
@[go_sem] theorem Try.fld91_0 : fieldO Try.prog 91 0 = some (0, 3) := by kernel_rfl
@[go_sem] theorem Try.fld91_1 : fieldO Try.prog 91 1 = some (1, 23) := by kernel_rfl
@[go_sem] theorem Try.fld91_2 : fieldO Try.prog 91 2 = some (2, 29) := by kernel_rfl
@[go_sem] theorem Try.fld91_3 : fieldO Try.prog 91 3 = some (4, 3) := by kernel_rfl
@[go_sem] theorem Try.fld91_4 : fieldO Try.prog 91 4 = some (5, 23) := by kernel_rfl
@[go_sem] theorem Try.bld91 (parts : List (Nat × TV)) : buildO Try.prog 91 parts = (fillT (fun i => ([(0, 1), (1, 1), (2, 2), (4, 1), (5, 1)] : List (Nat × Nat))[i]?) [.int .i64 0, .nilSl, .int .i64 0, .int .i64 0, .int .i64 0, .nilSl] parts).map .agg := by kernel_rfl
@[go_sem] theorem Try.bldp91 (parts : List (Nat × PV)) : buildP Try.prog 91 parts = fillP (fun i => ([(0, 1), (1, 1), (2, 2), (4, 1), (5, 1)] : List (Nat × Nat))[i]?) [.t (.int .i64 0), .t (.nilSl), .t (.int .i64 0), .t (.int .i64 0), .t (.int .i64 0), .t (.nilSl)] parts := by kernel_rfl
@[go_sem] theorem Try.eqg91 : Program.eqGuardType Try.prog (Program.depth Try.prog) 91 = false := by kernel_rfl
@[go_sem] theorem Try.agg93 : aggO Try.prog 93 = some true := by kernel_rfl
@[go_sem] theorem Try.pln93 : plainO Try.prog 93 = some true := by kernel_rfl
@[go_sem] theorem Try.sz93 : szO Try.prog 93 = some 2 := by kernel_rfl
@[go_sem] theorem Try.zero93 : zeroL Try.prog 93 = some [.int .i64 0, .int .i64 0] := by kernel_rfl
@[go_sem] theorem Try.small93 : smallO Try.prog 93 = some (2, 16) := by kernel_rfl
@[go_sem] theorem Try.zt93 : zeroT Try.prog 93 = some (.agg [.int .i64 0, .int .i64 0]) := by kernel_rfl
@[go_sem] theorem Try.fld93_0 : fieldO Try.prog 93 0 = some (0, 3) := by kernel_rfl
@[go_sem] theorem Try.fld93_1 : fieldO Try.prog 93 1 = some (1, 3) := by kernel_rfl
@[go_sem] theorem Try.bld93 (parts : List (Nat × TV)) : buildO Try.prog 93 parts = (fillT (fun i => ([(0, 1), (1, 1)] : List (Nat × Nat))[i]?) [.int .i64 0, .int .i64 0] parts).map .agg := by kernel_rfl
@[go_sem] theorem Try.eq93 (a0 b0 : Int) (a1 b1 : Int) : eqT Try.prog 20 93 (.agg [.int .i64 a0, .int .i64 a1]) (.agg [.int .i64 b0, .int .i64 b1]) = some ((a0 == b0) && ((a1 == b1) && true)) := by kernel_rfl
@[go_sem] theorem Try.eqg93 : Program.eqGuardType Try.prog (Program.depth Try.prog) 93 = false := by kernel_rfl
@[go_sem] theorem Try.agg106 : aggO Try.prog 106 = some true := by kernel_rfl
@[go_sem] theorem Try.pln106 : plainO Try.prog 106 = some true := by kernel_rfl
@[go_sem] theorem Try.sz106 : szO Try.prog 106 = some 2 := by kernel_rfl
@[go_sem] theorem Try.zero106 : zeroL Try.prog 106 = some [.int .i64 0, .nilSl] := by kernel_rfl
@[go_sem] theorem Try.small106 : smallO Try.prog 106 = some (2, 32) := by kernel_rfl
@[go_sem] theorem Try.zt106 : zeroT Try.prog 106 = some (.agg [.int .i64 0, .nilSl]) := by kernel_rfl
@[go_sem] theorem Try.fld106_0 : fieldO Try.prog 106 0 = some (0, 3) := by kernel_rfl
@[go_sem] theorem Try.fld106_1 : fieldO Try.prog 106 1 = some (1, 39) := by kernel_rfl
@[go_sem] theorem Try.bld106 (parts : List (Nat × TV)) : buildO Try.prog 106 parts = (fillT (fun i => ([(0, 1), (1, 1)] : List (Nat × Nat))[i]?) [.int .i64 0, .nilSl] parts).map .agg := by kernel_rfl
@[go_sem] theorem Try.bldp106 (parts : List (Nat × PV)) : buildP Try.prog 106 parts = fillP (fun i => ([(0, 1), (1, 1)] : List (Nat × Nat))[i]?) [.t (.int .i64 0), .t (.nilSl)] parts := by kernel_rfl
@[go_sem] theorem Try.eqg106 : Program.eqGuardType Try.prog (Program.depth Try.prog) 106 = false := by kernel_rfl
@[go_sem] theorem Try.agg107 : aggO Try.prog 107 = some true := by kernel_rfl
@[go_sem] theorem Try.pln107 : plainO Try.prog 107 = some true := by kernel_rfl
@[go_sem] theorem Try.sz107 : szO Try.prog 107 = some 2 := by kernel_rfl
@[go_sem] theorem Try.zero107 : zeroL Try.prog 107 = some [.int .i64 0, .int .i64 0] := by kernel_rfl
@[go_sem] theorem Try.small107 : smallO Try.prog 107 = some (2, 16) := by kernel_rfl
@[go_sem] theorem Try.zt107 : zeroT Try.prog 107 = some (.agg [.int .i64 0, .int .i64 0]) := by kernel_rfl
@[go_sem] theorem Try.bld107 (parts : List (Nat × TV)) : buildO Try.prog 107 parts = (fillT (fun i => some (i * 1, 1)) [.int .i64 0, .int .i64 0] parts).map .agg := by kernel_rfl
@[go_sem] theorem Try.eq107 (a0 b0 : Int) (a1 b1 : Int) : eqT Try.prog 20 107 (.agg [.int .i64 a0, .int .i64 a1]) (.agg [.int .i64 b0, .int .i64 b1]) = some ((a0 == b0) && ((a1 == b1) && true)) := by kernel_rfl
@[go_sem] theorem Try.eqg107 : Program.eqGuardType Try.prog (Program.depth Try.prog) 107 = false := by kernel_rfl
@[go_sem] theorem Try.arr107 : arrayO Try.prog 107 = some (2, 3) := by kernel_rfl
@[go_sem] theorem Try.und107 : Program.underlying Try.prog 107 = some (.array 2 3) := by kernel_rfl
@[go_sem] theorem Try.agg113 : aggO Try.prog 113 = some false := by kernel_rfl
@[go_sem] theorem Try.pln113 : plainO Try.prog 113 = some true := by kernel_rfl
@[go_sem] theorem Try.sz113 : szO Try.prog 113 = some 1 := by kernel_rfl
@[go_sem] theorem Try.zero113 : zeroL Try.prog 113 = some [.nilSl] := by kernel_rfl
@[go_sem] theorem Try.small113 : smallO Try.prog 113 = some (1, 24) := by kernel_rfl
@[go_sem] theorem Try.zt113 : zeroT Try.prog 113 = some (.nilSl) := by kernel_rfl
@[go_sem] theorem Try.eqn113 : eqT Try.prog 20 113 .nilSl .nilSl = some true := by kernel_rfl
@[go_sem] theorem Try.eqs113 (cs : List TV) (n : Nat) (f : Bool) : eqT Try.prog 20 113 (.sl cs n f) .nilSl = some false := by kernel_rfl
@[go_sem] theorem Try.eqt113 (cs : List TV) (n : Nat) (f : Bool) : eqT Try.prog 20 113 .nilSl (.sl cs n f) = some false := by kernel_rfl
@[go_sem] theorem Try.sl113 : sliceO Try.prog 113 = some 115 := by kernel_rfl
@[go_sem] theorem Try.und113 : Program.underlying Try.prog 113 = some (.slice 115) := by kernel_rfl
@[go_sem] theorem Try.agg115 : aggO Try.prog 115 = some true := by kernel_rfl
@[go_sem] theorem Try.pln115 : plainO Try.prog 115 = some true := by kernel_rfl
@[go_sem] theorem Try.sz115 : szO Try.prog 115 = some 3 := by kernel_rfl
@[go_sem] theorem Try.zero115 : zeroL Try.prog 115 = some [.int .i64 0, .int .i64 0, .int .i64 0] := by kernel_rfl
@[go_sem] theorem Try.small115 : smallO Try.prog 115 = some (3, 24) := by kernel_rfl
@[go_sem] theorem Try.zt115 : zeroT Try.prog 115 = some (.agg [.int .i64 0, .int .i64 0, .int .i64 0]) := by kernel_rfl
@[go_sem] theorem Try.fld115_0 : fieldO Try.prog 115 0 = some (0, 93) := by kernel_rfl
@[go_sem] theorem Try.fld115_1 : fieldO Try.prog 115 1 = some (2, 3) := by kernel_rfl
@[go_sem] theorem Try.bld115 (parts : List (Nat × TV)) : buildO Try.prog 115 parts = (fillT (fun i => ([(0, 2), (2, 1)] : List (Nat × Nat))[i]?) [.int .i64 0, .int .i64 0, .int .i64 0] parts).map .agg := by kernel_rfl
@[go_sem] theorem Try.eq115 (a0 b0 : Int) (a1 b1 : Int) (a2 b2 : Int) : eqT Try.prog 20 115 (.agg [.int .i64 a0, .int .i64 a1, .int .i64 a2]) (.agg [.int .i64 b0, .int .i64 b1, .int .i64 b2]) = some (((a0 == b0) && ((a1 == b1) && true)) && ((a2 == b2) && true)) := by kernel_rfl
@[go_sem] theorem Try.eqg115 : Program.eqGuardType Try.prog (Program.depth Try.prog) 115 = false := by kernel_rfl
@[go_sem] theorem Try.agg122 : aggO Try.prog 122 = some false := by kernel_rfl
@[go_sem] theorem Try.pln122 : plainO Try.prog 122 = some true := by kernel_rfl
@[go_sem] theorem Try.sz122 : szO Try.prog 122 = some 1 := by kernel_rfl
@[go_sem] theorem Try.zero122 : zeroL Try.prog 122 = some [.nilFn] := by kernel_rfl
@[go_sem] theorem Try.small122 : smallO Try.prog 122 = some (1, 8) := by kernel_rfl
@[go_sem] theorem Try.zt122 : zeroT Try.prog 122 = some (.nilFn) := by kernel_rfl
@[go_sem] theorem Try.agg152 : aggO Try.prog 152 = some false := by kernel_rfl
@[go_sem] theorem Try.pln152 : plainO Try.prog 152 = some true := by kernel_rfl
@[go_sem] theorem Try.sz152 : szO Try.prog 152 = some 1 := by kernel_rfl
@[go_sem] theorem Try.zero152 : zeroL Try.prog 152 = some [.nilFn] := by kernel_rfl
@[go_sem] theorem Try.small152 : smallO Try.prog 152 = some (1, 8) := by kernel_rfl
@[go_sem] theorem Try.zt152 : zeroT Try.prog 152 = some (.nilFn) := by kernel_rfl
@[go_sem] theorem Try.agg167 : aggO Try.prog 167 = some true := by kernel_rfl
@[go_sem] theorem Try.pln167 : plainO Try.prog 167 = some true := by kernel_rfl
@[go_sem] theorem Try.sz167 : szO Try.prog 167 = some 8 := by kernel_rfl
@[go_sem] theorem Try.zero167 : zeroL Try.prog 167 = some [.int .i64 0, .int .i64 0, .int .i64 0, .int .i64 0, .int .i64 0, .int .i64 0, .int .i64 0, .int .i64 0] := by kernel_rfl
@[go_sem] theorem Try.small167 : smallO Try.prog 167 = some (8, 64) := by kernel_rfl
@[go_sem] theorem Try.zt167 : zeroT Try.prog 167 = some (.agg [.int .i64 0, .int .i64 0, .int .i64 0, .int .i64 0, .int .i64 0, .int .i64 0, .int .i64 0, .int .i64 0]) := by kernel_rfl
@[go_sem] theorem Try.fld167_0 : fieldO Try.prog 167 0 = some (0, 84) := by kernel_rfl
@[go_sem] theorem Try.bld167 (parts : List (Nat × TV)) : buildO Try.prog 167 parts = (fillT (fun i => ([(0, 8)] : List (Nat × Nat))[i]?) [.int .i64 0, .int .i64 0, .int .i64 0, .int .i64 0, .int .i64 0, .int .i64 0, .int .i64 0, .int .i64 0] parts).map .agg := by kernel_rfl
@[go_sem] theorem Try.eq167 (a0 b0 : Int) (a1 b1 : Int) (a2 b2 : Int) (a3 b3 : Int) (a4 b4 : Int) (a5 b5 : Int) (a6 b6 : Int) (a7 b7 : Int) : eqT Try.prog 20 167 (.agg [.int .i64 a0, .int .i64 a1, .int .i64 a2, .int .i64 a3, .int .i64 a4, .int .i64 a5, .int .i64 a6, .int .i64 a7]) (.agg [.int .i64 b0, .int .i64 b1, .int .i64 b2, .int .i64 b3, .int .i64 b4, .int .i64 b5, .int .i64 b6, .int .i64 b7]) = some (((a0 == b0) && (((a1 == b1) && ((a2 == b2) && true)) && (((a3 == b3) && ((a4 == b4) && true)) && (((a5 == b5) && ((a6 == b6) && true)) && ((a7 == b7) && true))))) && true) := by kernel_rfl
@[go_sem] theorem Try.eqg167 : Program.eqGuardType Try.prog (Program.depth Try.prog) 167 = false := by kernel_rfl
@[go_sem] theorem Try.agg168 : aggO Try.prog 168 = some false := by kernel_rfl
@[go_sem] theorem Try.pln168 : plainO Try.prog 168 = some true := by kernel_rfl
@[go_sem] theorem Try.sz168 : szO Try.prog 168 = some 1 := by kernel_rfl
@[go_sem] theorem Try.zero168 : zeroL Try.prog 168 = some [.nilSl] := by kernel_rfl
@[go_sem] theorem Try.small168 : smallO Try.prog 168 = some (1, 24) := by kernel_rfl
@[go_sem] theorem Try.zt168 : zeroT Try.prog 168 = some (.nilSl) := by kernel_rfl
@[go_sem] theorem Try.eqn168 : eqT Try.prog 20 168 .nilSl .nilSl = some true := by kernel_rfl
@[go_sem] theorem Try.eqs168 (cs : List TV) (n : Nat) (f : Bool) : eqT Try.prog 20 168 (.sl cs n f) .nilSl = some false := by kernel_rfl
@[go_sem] theorem Try.eqt168 (cs : List TV) (n : Nat) (f : Bool) : eqT Try.prog 20 168 .nilSl (.sl cs n f) = some false := by kernel_rfl
@[go_sem] theorem Try.sl168 : sliceO Try.prog 168 = some 172 := by kernel_rfl
@[go_sem] theorem Try.und168 : Program.underlying Try.prog 168 = some (.slice 172) := by kernel_rfl
@[go_sem] theorem Try.agg172 : aggO Try.prog 172 = some false := by kernel_rfl
@[go_sem] theorem Try.pln172 : plainO Try.prog 172 = some false := by kernel_rfl
@[go_sem] theorem Try.sz172 : szO Try.prog 172 = some 1 := by kernel_rfl
@[go_sem] theorem Try.zero172 : zeroL Try.prog 172 = some [.nilIf] := by kernel_rfl
@[go_sem] theorem Try.small172 : smallO Try.prog 172 = some (1, 16) := by kernel_rfl
@[go_sem] theorem Try.zt172 : zeroT Try.prog 172 = some (.nilIf) := by kernel_rfl
@[go_sem] theorem Try.agg176 : aggO Try.prog 176 = some true := by kernel_rfl
@[go_sem] theorem Try.pln176 : plainO Try.prog 176 = some true := by kernel_rfl
@[go_sem] theorem Try.sz176 : szO Try.prog 176 = some 6 := by kernel_rfl
@[go_sem] theorem Try.zero176 : zeroL Try.prog 176 = some [.int .i64 0, .nilSl, .int .i64 0, .int .i64 0, .int .i64 0, .nilSl] := by kernel_rfl
@[go_sem] theorem Try.small176 : smallO Try.prog 176 = some (6, 80) := by kernel_rfl
@[go_sem] theorem Try.zt176 : zeroT Try.prog 176 = some (.agg [.int .i64 0, .nilSl, .int .i64 0, .int .i64 0, .int .i64 0, .nilSl]) := by kernel_rfl
@[go_sem] theorem Try.fld176_0 : fieldO Try.prog 176 0 = some (0, 91) := by kernel_rfl
@[go_sem] theorem Try.bld176 (parts : List (Nat × TV)) : buildO Try.prog 176 parts = (fillT (fun i => ([(0, 6)] : List (Nat × Nat))[i]?) [.int .i64 0, .nilSl, .int .i64 0, .int .i64 0, .int .i64 0, .nilSl] parts).map .agg := by kernel_rfl
@[go_sem] theorem Try.bldp176 (parts : List (Nat × PV)) : buildP Try.prog 176 parts = fillP (fun i => ([(0, 6)] : List (Nat × Nat))[i]?) [.t (.int .i64 0), .t (.nilSl), .t (.int .i64 0), .t (.int .i64 0), .t (.int .i64 0), .t (.nilSl)] parts := by kernel_rfl
@[go_sem] theorem Try.eqg176 : Program.eqGuardType Try.prog (Program.depth Try.prog) 176 = false := by kernel_rfl
@[go_sem] theorem Try.agg181 : aggO Try.prog 181 = some true := by kernel_rfl
@[go_sem] theorem Try.pln181 : plainO Try.prog 181 = some true := by kernel_rfl
@[go_sem] theorem Try.sz181 : szO Try.prog 181 = some 2 := by kernel_rfl
@[go_sem] theorem Try.zero181 : zeroL Try.prog 181 = some [.int .i64 0, .nilSl] := by kernel_rfl
@[go_sem] theorem Try.small181 : smallO Try.prog 181 = some (2, 32) := by kernel_rfl
@[go_sem] theorem Try.zt181 : zeroT Try.prog 181 = some (.agg [.int .i64 0, .nilSl]) := by kernel_rfl
@[go_sem] theorem Try.fld181_0 : fieldO Try.prog 181 0 = some (0, 106) := by kernel_rfl
@[go_sem] theorem Try.bld181 (parts : List (Nat × TV)) : buildO Try.prog 181 parts = (fillT (fun i => ([(0, 2)] : List (Nat × Nat))[i]?) [.int .i64 0, .nilSl] parts).map .agg := by kernel_rfl
@[go_sem] theorem Try.bldp181 (parts : List (Nat × PV)) : buildP Try.prog 181 parts = fillP (fun i => ([(0, 2)] : List (Nat × Nat))[i]?) [.t (.int .i64 0), .t (.nilSl)] parts := by kernel_rfl
@[go_sem] theorem Try.eqg181 : Program.eqGuardType Try.prog (Program.depth Try.prog) 181 = false := by kernel_rfl
@[go_sem] theorem Try.agg184 : aggO Try.prog 184 = some false := by kernel_rfl
@[go_sem] theorem Try.pln184 : plainO Try.prog 184 = some true := by kernel_rfl
@[go_sem] theorem Try.sz184 : szO Try.prog 184 = some 1 := by kernel_rfl
@[go_sem] theorem Try.zero184 : zeroL Try.prog 184 = some [.nilFn] := by kernel_rfl
@[go_sem] theorem Try.small184 : smallO Try.prog 184 = some (1, 8) := by kernel_rfl
@[go_sem] theorem Try.zt184 : zeroT Try.prog 184 = some (.nilFn) := by kernel_rfl
@[go_sem] theorem Try.agg187 : aggO Try.prog 187 = some true := by kernel_rfl
@[go_sem] theorem Try.pln187 : plainO Try.prog 187 = some true := by kernel_rfl
@[go_sem] theorem Try.sz187 : szO Try.prog 187 = some 2 := by kernel_rfl
@[go_sem] theorem Try.zero187 : zeroL Try.prog 187 = some [.int .i64 0, .int .i64 0] := by kernel_rfl
@[go_sem] theorem Try.small187 : smallO Try.prog 187 = some (2, 16) := by kernel_rfl
@[go_sem] theorem Try.zt187 : zeroT Try.prog 187 = some (.agg [.int .i64 0, .int .i64 0]) := by kernel_rfl
@[go_sem] theorem Try.fld187_0 : fieldO Try.prog 187 0 = some (0, 3) := by kernel_rfl
@[go_sem] theorem Try.fld187_1 : fieldO Try.prog 187 1 = some (1, 3) := by kernel_rfl
@[go_sem] theorem Try.bld187 (parts : List (Nat × TV)) : buildO Try.prog 187 parts = (fillT (fun i => ([(0, 1), (1, 1)] : List (Nat × Nat))[i]?) [.int .i64 0, .int .i64 0] parts).map .agg := by kernel_rfl
@[go_sem] theorem Try.eq187 (a0 b0 : Int) (a1 b1 : Int) : eqT Try.prog 20 187 (.agg [.int .i64 a0, .int .i64 a1]) (.agg [.int .i64 b0, .int .i64 b1]) = some ((a0 == b0) && ((a1 == b1) && true)) := by kernel_rfl
@[go_sem] theorem Try.eqg187 : Program.eqGuardType Try.prog (Program.depth Try.prog) 187 = false := by kernel_rfl
@[go_sem] theorem Try.agg193 : aggO Try.prog 193 = some false := by kernel_rfl
@[go_sem] theorem Try.pln193 : plainO Try.prog 193 = some true := by kernel_rfl
@[go_sem] theorem Try.sz193 : szO Try.prog 193 = some 1 := by kernel_rfl
@[go_sem] theorem Try.zero193 : zeroL Try.prog 193 = some [.nilFn] := by kernel_rfl
@[go_sem] theorem Try.small193 : smallO Try.prog 193 = some (1, 8) := by kernel_rfl
@[go_sem] theorem Try.zt193 : zeroT Try.prog 193 = some (.nilFn) := by kernel_rfl
@[go_sem] theorem Try.agg196 : aggO Try.prog 196 = some true := by kernel_rfl
@[go_sem] theorem Try.pln196 : plainO Try.prog 196 = some true := by kernel_rfl
@[go_sem] theorem Try.sz196 : szO Try.prog 196 = some 12 := by kernel_rfl
@[go_sem] theorem Try.zero196 : zeroL Try.prog 196 = some [.bool false, .bool false, .bool false, .bool false, .bool false, .bool false, .bool false, .bool false, .bool false, .bool false, .bool false, .bool false] := by kernel_rfl
@[go_sem] theorem Try.small196 : smallO Try.prog 196 = some (12, 12) := by kernel_rfl
@[go_sem] theorem Try.zt196 : zeroT Try.prog 196 = some (.agg [.bool false, .bool false, .bool false, .bool false, .bool false, .bool false, .bool false, .bool false, .bool false, .bool false, .bool false, .bool false]) := by kernel_rfl
@[go_sem] theorem Try.bld196 (parts : List (Nat × TV)) : buildO Try.prog 196 parts = (fillT (fun i => some (i * 1, 1)) [.bool false, .bool false, .bool false, .bool false, .bool false, .bool false, .bool false, .bool false, .bool false, .bool false, .bool false, .bool false] parts).map .agg := by kernel_rfl
@[go_sem] theorem Try.eq196 (a0 b0 : Bool) (a1 b1 : Bool) (a2 b2 : Bool) (a3 b3 : Bool) (a4 b4 : Bool) (a5 b5 : Bool) (a6 b6 : Bool) (a7 b7 : Bool) (a8 b8 : Bool) (a9 b9 : Bool) (a10 b10 : Bool) (a11 b11 : Bool) : eqT Try.prog 20 196 (.agg [.bool a0, .bool a1, .bool a2, .bool a3, .bool a4, .bool a5, .bool a6, .bool a7, .bool a8, .bool a9, .bool a10, .bool a11]) (.agg [.bool b0, .bool b1, .bool b2, .bool b3, .bool b4, .bool b5, .bool b6, .bool b7, .bool b8, .bool b9, .bool b10, .bool b11]) = some ((a0 == b0) && ((a1 == b1) && ((a2 == b2) && ((a3 == b3) && ((a4 == b4) && ((a5 == b5) && ((a6 == b6) && ((a7 == b7) && ((a8 == b8) && ((a9 == b9) && ((a10 == b10) && ((a11 == b11) && true)))))))))))) := by kernel_rfl
@[go_sem] theorem Try.eqg196 : Program.eqGuardType Try.prog (Program.depth Try.prog) 196 = false := by kernel_rfl
@[go_sem] theorem Try.arr196 : arrayO Try.prog 196 = some (12, 4) := by kernel_rfl
@[go_sem] theorem Try.und196 : Program.underlying Try.prog 196 = some (.array 12 4) := by kernel_rfl
@[go_sem] theorem Try.agg197 : aggO Try.prog 197 = some false := by kernel_rfl
@[go_sem] theorem Try.pln197 : plainO Try.prog 197 = some true := by kernel_rfl
@[go_sem] theorem Try.sz197 : szO Try.prog 197 = some 1 := by kernel_rfl
@[go_sem] theorem Try.zero197 : zeroL Try.prog 197 = some [.nilMap] := by kernel_rfl
@[go_sem] theorem Try.small197 : smallO Try.prog 197 = some (1, 8) := by kernel_rfl
@[go_sem] theorem Try.map197 : mapO Try.prog 197 = some (3, 23) := by kernel_rfl
@[go_sem] theorem Try.und197 : Program.underlying Try.prog 197 = some (.map 3 23) := by kernel_rfl
@[go_sem] theorem Try.zt197 : zeroT Try.prog 197 = some (.nilMap) := by kernel_rfl
@[go_sem] theorem Try.agg199 : aggO Try.prog 199 = some true := by kernel_rfl
@[go_sem] theorem Try.pln199 : plainO Try.prog 199 = some true := by kernel_rfl
@[go_sem] theorem Try.sz199 : szO Try.prog 199 = some 13 := by kernel_rfl
@[go_sem] theorem Try.zero199 : zeroL Try.prog 199 = some [.bool false, .bool false, .bool false, .bool false, .bool false, .bool false, .bool false, .bool false, .bool false, .bool false, .bool false, .bool false, .nilMap] := by kernel_rfl
@[go_sem] theorem Try.small199 : smallO Try.prog 199 = some (13, 24) := by kernel_rfl
@[go_sem] theorem Try.zt199 : zeroT Try.prog 199 = some (.agg [.bool false, .bool false, .bool false, .bool false, .bool false, .bool false, .bool false, .bool false, .bool false, .bool false, .bool false, .bool false, .nilMap]) := by kernel_rfl
@[go_sem] theorem Try.fld199_0 : fieldO Try.prog 199 0 = some (0, 196) := by kernel_rfl
@[go_sem] theorem Try.fld199_1 : fieldO Try.prog 199 1 = some (12, 197) := by kernel_rfl
@[go_sem] theorem Try.bld199 (parts : List (Nat × TV)) : buildO Try.prog 199 parts = (fillT (fun i => ([(0, 12), (12, 1)] : List (Nat × Nat))[i]?) [.bool false, .bool false, .bool false, .bool false, .bool false, .bool false, .bool false, .bool false, .bool false, .bool false, .bool false, .bool false, .nilMap] parts).map .agg := by kernel_rfl
@[go_sem] theorem Try.bldp199 (parts : List (Nat × PV)) : buildP Try.prog 199 parts = fillP (fun i => ([(0, 12), (12, 1)] : List (Nat × Nat))[i]?) [.t (.bool false), .t (.bool false), .t (.bool false), .t (.bool false), .t (.bool false), .t (.bool false), .t (.bool false), .t (.bool false), .t (.bool false), .t (.bool false), .t (.bool false), .t (.bool false), .t (.nilMap)] parts := by kernel_rfl
@[go_sem] theorem Try.eqg199 : Program.eqGuardType Try.prog (Program.depth Try.prog) 199 = false := by kernel_rfl
@[go_sem] theorem Try.agg218 : aggO Try.prog 218 = some true := by kernel_rfl
@[go_sem] theorem Try.pln218 : plainO Try.prog 218 = some true := by kernel_rfl
@[go_sem] theorem Try.sz218 : szO Try.prog 218 = some 3 := by kernel_rfl
@[go_sem] theorem Try.zero218 : zeroL Try.prog 218 = some [.int .i64 0, .int .i64 0, .bool false] := by kernel_rfl
@[go_sem] theorem Try.small218 : smallO Try.prog 218 = some (3, 24) := by kernel_rfl
@[go_sem] theorem Try.zt218 : zeroT Try.prog 218 = some (.agg [.int .i64 0, .int .i64 0, .bool false]) := by kernel_rfl
@[go_sem] theorem Try.fld218_0 : fieldO Try.prog 218 0 = some (0, 3) := by kernel_rfl
@[go_sem] theorem Try.fld218_1 : fieldO Try.prog 218 1 = some (1, 3) := by kernel_rfl
@[go_sem] theorem Try.fld218_2 : fieldO Try.prog 218 2 = some (2, 4) := by kernel_rfl
@[go_sem] theorem Try.bld218 (parts : List (Nat × TV)) : buildO Try.prog 218 parts = (fillT (fun i => ([(0, 1), (1, 1), (2, 1)] : List (Nat × Nat))[i]?) [.int .i64 0, .int .i64 0, .bool false] parts).map .agg := by kernel_rfl
@[go_sem] theorem Try.eq218 (a0 b0 : Int) (a1 b1 : Int) (a2 b2 : Bool) : eqT Try.prog 20 218 (.agg [.int .i64 a0, .int .i64 a1, .bool a2]) (.agg [.int .i64 b0, .int .i64 b1, .bool b2]) = some ((a0 == b0) && ((a1 == b1) && ((a2 == b2) && true))) := by kernel_rfl
@[go_sem] theorem Try.eqg218 : Program.eqGuardType Try.prog (Program.depth Try.prog) 218 = false := by kernel_rfl
@[go_sem] theorem Try.agg220 : aggO Try.prog 220 = some true := by kernel_rfl
@[go_sem] theorem Try.pln220 : plainO Try.prog 220 = some true := by kernel_rfl
@[go_sem] theorem Try.sz220 : szO Try.prog 220 = some 2 := by kernel_rfl
@[go_sem] theorem Try.zero220 : zeroL Try.prog 220 = some [.int .i64 0, .nilFn] := by kernel_rfl
@[go_sem] theorem Try.small220 : smallO Try.prog 220 = some (2, 16) := by kernel_rfl
@[go_sem] theorem Try.zt220 : zeroT Try.prog 220 = some (.agg [.int .i64 0, .nilFn]) := by kernel_rfl
@[go_sem] theorem Try.fld220_0 : fieldO Try.prog 220 0 = some (0, 3) := by kernel_rfl
@[go_sem] theorem Try.fld220_1 : fieldO Try.prog 220 1 = some (1, 66) := by kernel_rfl
@[go_sem] theorem Try.bld220 (parts : List (Nat × TV)) : buildO Try.prog 220 parts = (fillT (fun i => ([(0, 1), (1, 1)] : List (Nat × Nat))[i]?) [.int .i64 0, .nilFn] parts).map .agg := by kernel_rfl
@[go_sem] theorem Try.bldp220 (parts : List (Nat × PV)) : buildP Try.prog 220 parts = fillP (fun i => ([(0, 1), (1, 1)] : List (Nat × Nat))[i]?) [.t (.int .i64 0), .t (.nilFn)] parts := by kernel_rfl
@[go_sem] theorem Try.eqg220 : Program.eqGuardType Try.prog (Program.depth Try.prog) 220 = false := by kernel_rfl
@[go_sem] theorem Try.agg222 : aggO Try.prog 222 = some false := by kernel_rfl
@[go_sem] theorem Try.pln222 : plainO Try.prog 222 = some true := by kernel_rfl
@[go_sem] theorem Try.sz222 : szO Try.prog 222 = some 1 := by kernel_rfl
@[go_sem] theorem Try.zero222 : zeroL Try.prog 222 = some [.nilFn] := by kernel_rfl
@[go_sem] theorem Try.small222 : smallO Try.prog 222 = some (1, 8) := by kernel_rfl
@[go_sem] theorem Try.zt222 : zeroT Try.prog 222 = some (.nilFn) := by kernel_rfl
@[go_sem] theorem Try.agg224 : aggO Try.prog 224 = some false := by kernel_rfl
@[go_sem] theorem Try.pln224 : plainO Try.prog 224 = some true := by kernel_rfl
@[go_sem] theorem Try.sz224 : szO Try.prog 224 = some 1 := by kernel_rfl
@[go_sem] theorem Try.zero224 : zeroL Try.prog 224 = some [.nilSl] := by kernel_rfl
@[go_sem] theorem Try.small224 : smallO Try.prog 224 = some (1, 24) := by kernel_rfl
@[go_sem] theorem Try.zt224 : zeroT Try.prog 224 = some (.nilSl) := by kernel_rfl
@[go_sem] theorem Try.eqn224 : eqT Try.prog 20 224 .nilSl .nilSl = some true := by kernel_rfl
@[go_sem] theorem Try.eqs224 (cs : List TV) (n : Nat) (f : Bool) : eqT Try.prog 20 224 (.sl cs n f) .nilSl = some false := by kernel_rfl
@[go_sem] theorem Try.eqt224 (cs : List TV) (n : Nat) (f : Bool) : eqT Try.prog 20 224 .nilSl (.sl cs n f) = some false := by kernel_rfl
@[go_sem] theorem Try.sl224 : sliceO Try.prog 224 = some 243 := by kernel_rfl
@[go_sem] theorem Try.und224 : Program.underlying Try.prog 224 = some (.slice 243) := by kernel_rfl
@[go_sem] theorem Try.agg226 : aggO Try.prog 226 = some true := by kernel_rfl
@[go_sem] theorem Try.pln226 : plainO Try.prog 226 = some true := by kernel_rfl
@[go_sem] theorem Try.sz226 : szO Try.prog 226 = some 2 := by kernel_rfl
@[go_sem] theorem Try.zero226 : zeroL Try.prog 226 = some [.int .i64 0, .int .i64 0] := by kernel_rfl
@[go_sem] theorem Try.small226 : smallO Try.prog 226 = some (2, 16) := by kernel_rfl
@[go_sem] theorem Try.zt226 : zeroT Try.prog 226 = some (.agg [.int .i64 0, .int .i64 0]) := by kernel_rfl
@[go_sem] theorem Try.fld226_0 : fieldO Try.prog 226 0 = some (0, 3) := by kernel_rfl
@[go_sem] theorem Try.fld226_1 : fieldO Try.prog 226 1 = some (1, 3) := by kernel_rfl
@[go_sem] theorem Try.bld226 (parts : List (Nat × TV)) : buildO Try.prog 226 parts = (fillT (fun i => ([(0, 1), (1, 1)] : List (Nat × Nat))[i]?) [.int .i64 0, .int .i64 0] parts).map .agg := by kernel_rfl
@[go_sem] theorem Try.eq226 (a0 b0 : Int) (a1 b1 : Int) : eqT Try.prog 20 226 (.agg [.int .i64 a0, .int .i64 a1]) (.agg [.int .i64 b0, .int .i64 b1]) = some ((a0 == b0) && ((a1 == b1) && true)) := by kernel_rfl
@[go_sem] theorem Try.eqg226 : Program.eqGuardType Try.prog (Program.depth Try.prog) 226 = false := by kernel_rfl
@[go_sem] theorem Try.agg228 : aggO Try.prog 228 = some true := by kernel_rfl
@[go_sem] theorem Try.pln228 : plainO Try.prog 228 = some true := by kernel_rfl
@[go_sem] theorem Try.sz228 : szO Try.prog 228 = some 2 := by kernel_rfl
@[go_sem] theorem Try.zero228 : zeroL Try.prog 228 = some [.int .i64 0, .nilSl] := by kernel_rfl
@[go_sem] theorem Try.small228 : smallO Try.prog 228 = some (2, 32) := by kernel_rfl
@[go_sem] theorem Try.zt228 : zeroT Try.prog 228 = some (.agg [.int .i64 0, .nilSl]) := by kernel_rfl
@[go_sem] theorem Try.fld228_0 : fieldO Try.prog 228 0 = some (0, 3) := by kernel_rfl
@[go_sem] theorem Try.fld228_1 : fieldO Try.prog 228 1 = some (1, 23) := by kernel_rfl
@[go_sem] theorem Try.bld228 (parts : List (Nat × TV)) : buildO Try.prog 228 parts = (fillT (fun i => ([(0, 1), (1, 1)] : List (Nat × Nat))[i]?) [.int .i64 0, .nilSl] parts).map .agg := by kernel_rfl
@[go_sem] theorem Try.bldp228 (parts : List (Nat × PV)) : buildP Try.prog 228 parts = fillP (fun i => ([(0, 1), (1, 1)] : List (Nat × Nat))[i]?) [.t (.int .i64 0), .t (.nilSl)] parts := by kernel_rfl
@[go_sem] theorem Try.eqg228 : Program.eqGuardType Try.prog (Program.depth Try.prog) 228 = false := by kernel_rfl
@[go_sem] theorem Try.agg231 : aggO Try.prog 231 = some true := by kernel_rfl
@[go_sem] theorem Try.pln231 : plainO Try.prog 231 = some true := by kernel_rfl
@[go_sem] theorem Try.sz231 : szO Try.prog 231 = some 2 := by kernel_rfl
@[go_sem] theorem Try.zero231 : zeroL Try.prog 231 = some [.int .i64 0, .int .i64 0] := by kernel_rfl
@[go_sem] theorem Try.small231 : smallO Try.prog 231 = some (2, 16) := by kernel_rfl
@[go_sem] theorem Try.zt231 : zeroT Try.prog 231 = some (.agg [.int .i64 0, .int .i64 0]) := by kernel_rfl
@[go_sem] theorem Try.bld231 (parts : List (Nat × TV)) : buildO Try.prog 231 parts = (fillT (fun i => some (i * 1, 1)) [.int .i64 0, .int .i64 0] parts).map .agg := by kernel_rfl
@[go_sem] theorem Try.eq231 (a0 b0 : Int) (a1 b1 : Int) : eqT Try.prog 20 231 (.agg [.int .i64 a0, .int .i64 a1]) (.agg [.int .i64 b0, .int .i64 b1]) = some ((a0 == b0) && ((a1 == b1) && true)) := by kernel_rfl
@[go_sem] theorem Try.eqg231 : Program.eqGuardType Try.prog (Program.depth Try.prog) 231 = false := by kernel_rfl
@[go_sem] theorem Try.arr231 : arrayO Try.prog 231 = some (2, 3) := by kernel_rfl
@[go_sem] theorem Try.und231 : Program.underlying Try.prog 231 = some (.array 2 3) := by kernel_rfl
@[go_sem] theorem Try.agg234 : aggO Try.prog 234 = some false := by kernel_rfl
@[go_sem] theorem Try.pln234 : plainO Try.prog 234 = some true := by kernel_rfl
@[go_sem] theorem Try.sz234 : szO Try.prog 234 = some 1 := by kernel_rfl
@[go_sem] theorem Try.zero234 : zeroL Try.prog 234 = some [.nilFn] := by kernel_rfl
@[go_sem] theorem Try.small234 : smallO Try.prog 234 = some (1, 8) := by kernel_rfl
@[go_sem] theorem Try.zt234 : zeroT Try.prog 234 = some (.nilFn) := by kernel_rfl
@[go_sem] theorem Try.agg235 : aggO Try.prog 235 = some false := by kernel_rfl
@[go_sem] theorem Try.pln235 : plainO Try.prog 235 = some true := by kernel_rfl
@[go_sem] theorem Try.sz235 : szO Try.prog 235 = some 1 := by kernel_rfl
@[go_sem] theorem Try.zero235 : zeroL Try.prog 235 = some [.nilFn] := by kernel_rfl
@[go_sem] theorem Try.small235 : smallO Try.prog 235 = some (1, 8) := by kernel_rfl
@[go_sem] theorem Try.zt235 : zeroT Try.prog 235 = some (.nilFn) := by kernel_rfl
@[go_sem] theorem Try.agg241 : aggO Try.prog 241 = some false := by kernel_rfl
@[go_sem] theorem Try.pln241 : plainO Try.prog 241 = some true := by kernel_rfl
@[go_sem] theorem Try.sz241 : szO Try.prog 241 = some 1 := by kernel_rfl
@[go_sem] theorem Try.zero241 : zeroL Try.prog 241 = some [.nilFn] := by kernel_rfl
@[go_sem] theorem Try.small241 : smallO Try.prog 241 = some (1, 8) := by kernel_rfl
@[go_sem] theorem Try.zt241 : zeroT Try.prog 241 = some (.nilFn) := by kernel_rfl
@[go_sem] theorem Try.agg243 : aggO Try.prog 243 = some false := by kernel_rfl
@[go_sem] theorem Try.pln243 : plainO Try.prog 243 = some false := by kernel_rfl
@[go_sem] theorem Try.sz243 : szO Try.prog 243 = some 1 := by kernel_rfl
@[go_sem] theorem Try.zero243 : zeroL Try.prog 243 = some [.nilIf] := by kernel_rfl
@[go_sem] theorem Try.small243 : smallO Try.prog 243 = some (1, 16) := by kernel_rfl
@[go_sem] theorem Try.zt243 : zeroT Try.prog 243 = some (.nilIf) := by kernel_rfl
theorem Try.mixes : Try.prog.follows .mixedOrders = true := by kernel_rfl
end Go.Proofs.Ytadkjjnnnkfalaa

/- Part Pb. -/
namespace Go.Oc
open Go Go.Pm

/-- A number that an int can hold. -/
def In64 (n : Int) : Prop := -9223372036854775808 ≤ n ∧ n ≤ 9223372036854775807
theorem wrap_id {n : Int} (h : In64 n) : IntKind.i64.wrap n = n := wrap_in h.1 h.2

def inB (n lo hi : Int) : Bool := decide (lo ≤ n) && decide (n ≤ hi)
theorem inB_iff {n lo hi : Int} : inB n lo hi = true ↔ lo ≤ n ∧ n ≤ hi := by simp [inB]

structure Span where
  lo : Int
  hi : Int
  deriving DecidableEq
def Span.cs (s : Span) : List TV := [.int .i64 s.lo, .int .i64 s.hi]
def Span.t (s : Span) : TV := .agg s.cs
def spannedB (s : Span) (lo hi : Int) : Bool := decide (lo ≤ s.lo) && decide (s.lo ≤ s.hi) && decide (s.hi ≤ hi)
def widerS (s : Span) (n : Int) (first : Bool) : Span := if first then ⟨n, n⟩ else ⟨min s.lo n, max s.hi n⟩
def chosen (lo hi n : Int) : Int := if lo ≥ hi then lo else if 9223372036854775807 < hi - lo + 1 then min (max n lo) hi else lo + n % (hi - lo + 1)
theorem chosen_mem {lo hi : Int} (n : Int) (h : lo ≤ hi) : lo ≤ chosen lo hi n ∧ chosen lo hi n ≤ hi := by
  unfold chosen
  split
  · omega
  · split
    · omega
    · have h1 := Int.emod_nonneg n (show hi - lo + 1 ≠ 0 by omega)
      have h2 := Int.emod_lt_of_pos n (show 0 < hi - lo + 1 by omega)
      omega
theorem chosen_low {lo hi : Int} (n : Int) (h : ¬ lo ≤ hi) : chosen lo hi n = lo := by
  unfold chosen; rw [if_pos (by omega)]

/-- A list of ints, as cells. -/
def ints (l : List Int) : List TV := l.map (TV.int .i64)
theorem ints_at {l : List Int} {k : Nat} {x : Int} (h : l[k]? = some x) : (ints l).drop (k * 1) = .int .i64 x :: ints (l.drop (k + 1)) := by
  unfold ints
  rw [Nat.mul_one, ← List.map_drop]
  have hk := (List.getElem?_eq_some_iff.1 h).1
  rw [List.drop_eq_getElem_cons hk, List.map_cons]
  congr 2
  exact (List.getElem?_eq_some_iff.1 h).2
theorem ints_inj : ∀ {a b : List Int}, ints a = ints b → a = b
  | [], [], _ => rfl
  | x :: a, y :: b, h => by
    simp only [ints, List.map_cons, List.cons.injEq, TV.int.injEq, true_and] at h
    rw [h.1, ints_inj (a := a) (b := b) h.2]
  | [], _ :: _, h => by simp [ints] at h
  | _ :: _, [], h => by simp [ints] at h
theorem ints_len (l : List Int) : (ints l).length = l.length := by simp [ints]
noncomputable def unints (cs : List TV) : Option (List Int) := open Classical in if h : ∃ l, cs = ints l then some h.choose else none
theorem unints_eq (l : List Int) : unints (ints l) = some l := by
  have h : ∃ l', ints l = ints l' := ⟨l, rfl⟩
  unfold unints
  rw [dif_pos h]
  congr 1
  exact (ints_inj h.choose_spec).symm

/-- Lists of structs. -/
theorem flat_at {α : Type} (c : α → List TV) {n : Nat} (hc : ∀ x, (c x).length = n) : ∀ {l : List α} {k : Nat} {x : α}, l[k]? = some x → (l.flatMap c).drop (k * n) = c x ++ (l.drop (k + 1)).flatMap c
  | [], k, x, h => by simp at h
  | y :: l, 0, x, h => by simp at h; subst h; simp
  | y :: l, k + 1, x, h => by
    simp at h
    have := flat_at c hc h
    simp only [List.flatMap_cons, List.drop_succ_cons, Nat.add_mul, Nat.one_mul]
    rw [Nat.add_comm, List.drop_append, hc y]
    simp [List.drop_eq_nil_of_le, hc y, this]
theorem flat_len {α : Type} (c : α → List TV) {n : Nat} (hc : ∀ x, (c x).length = n) (l : List α) : (l.flatMap c).length = l.length * n := by
  induction l with
  | nil => simp
  | cons x l ih => simp only [List.flatMap_cons, List.length_append, hc, ih, List.length_cons, Nat.add_mul]; omega
theorem flat_inj {α : Type} {c : α → List TV} {n : Nat} (hc : ∀ x, (c x).length = n) (hn : 0 < n) (hi : ∀ x y, c x = c y → x = y) : ∀ {a b : List α}, a.flatMap c = b.flatMap c → a = b
  | [], [], _ => rfl
  | x :: a, y :: b, h => by
    simp only [List.flatMap_cons] at h
    have h1 := List.append_inj h (by rw [hc, hc])
    rw [hi x y h1.1, flat_inj hc hn hi h1.2]
  | [], y :: b, h => by have := congrArg List.length h; simp [hc] at this; omega
  | x :: a, [], h => by have := congrArg List.length h; simp [hc] at this; omega
noncomputable def unflat {α : Type} (c : α → List TV) (cs : List TV) : Option (List α) := open Classical in if h : ∃ l, cs = l.flatMap c then some h.choose else none
theorem unflat_eq {α : Type} {c : α → List TV} {n : Nat} (hc : ∀ x, (c x).length = n) (hn : 0 < n) (hi : ∀ x y, c x = c y → x = y) (l : List α) : unflat c (l.flatMap c) = some l := by
  have h : ∃ l' : List α, l.flatMap c = l'.flatMap c := ⟨l, rfl⟩
  unfold unflat
  rw [dif_pos h]
  congr 1
  exact (flat_inj hc hn hi h.choose_spec).symm
theorem unflat_some {α : Type} {c : α → List TV} {cs : List TV} {l : List α} (h : unflat c cs = some l) : cs = l.flatMap c := by
  unfold unflat at h
  split at h
  · rename_i hc; cases h; exact hc.choose_spec
  · cases h
theorem unints_some {cs : List TV} {l : List Int} (h : unints cs = some l) : cs = ints l := by
  unfold unints at h
  split at h
  · rename_i hc; cases h; exact hc.choose_spec
  · cases h

/-- A row of structs. -/
def IsRow {α : Type} (c : α → List TV) (s : TV) (l : List α) : Prop := (s = .nilSl ∧ l = []) ∨ ∃ full, s = .sl (l.flatMap c) l.length full
noncomputable def rowL {α : Type} (un : List TV → Option (List α)) : TV → Option (List α)
  | .nilSl => un []
  | .sl cs n _ => match un cs with
    | some l => if n = l.length then some l else none
    | none => none
  | _ => none
attribute [go_sem] rowL
theorem rowL_some {α : Type} {c : α → List TV} {un : List TV → Option (List α)} (h0 : un [] = some []) (hu : ∀ {cs l}, un cs = some l → cs = l.flatMap c) {s : TV} {l : List α} (h : rowL un s = some l) : IsRow c s l := by
  unfold rowL at h
  split at h
  · rw [h0] at h; cases h; exact .inl ⟨rfl, rfl⟩
  · split at h
    · rename_i l' hl
      split at h
      · rename_i hn
        cases h
        have := hu hl
        subst this; subst hn
        exact .inr ⟨_, rfl⟩
      · cases h
    · cases h
  · cases h
theorem IsRow.ne {α : Type} {c : α → List TV} {s : TV} {l : List α} (h : IsRow c s l) (hl : 1 ≤ l.length) : ∃ full, s = .sl (l.flatMap c) l.length full := by
  rcases h with ⟨_, rfl⟩ | h
  · simp at hl
  · exact h

theorem get_lt {α : Type} {l : List α} {k : Nat} (h : (k : Int) < (l.length : Int)) : ∃ x, l[k]? = some x := ⟨l[k]'(by omega), List.getElem?_eq_getElem (by omega)⟩
theorem take_all {α : Type} (p : α → Bool) {l : List α} {k : Nat} {x : α} (h : l[k]? = some x) : (l.take (k + 1)).all p = ((l.take k).all p && p x) := by
  rw [List.take_add_one, h]; simp
theorem take_snoc {α : Type} {l : List α} {k : Nat} {x : α} (h : l[k]? = some x) : l.take (k + 1) = l.take k ++ [x] := by
  rw [List.take_add_one, h]; rfl
theorem all_of_take {α : Type} {p : α → Bool} {l : List α} {k : Nat} (h : (l.take k).all p = false) : l.all p = false := by
  rw [← List.take_append_drop k l, List.all_append, h]; rfl

/-- May the first list stand before the second one? -/
def before : List Int → List Int → Bool
  | [], [] => false
  | [], _ :: _ => true
  | _ :: _, [] => false
  | x :: a, y :: b => if x < y then true else if y < x then false else before a b
def risingB : Int → List Int → Int → Bool
  | _, [], _ => true
  | lo, x :: l, hi => decide (lo ≤ x) && decide (x < hi) && risingB (x + 1) l hi
/-- The numbers of a set, below another one. -/
def members (set below : Nat) : List Int := ((List.range below).filter set.testBit).map Int.ofNat
end Go.Oc

/- Part Hp. -/
namespace Go.Proofs.Ytadkjjnnnkfalaa.Sx
end Go.Proofs.Ytadkjjnnnkfalaa.Sx
namespace Go.Oh
open Go Go.Pm Go.Oc

/-- One number, as cells. -/
def ic (n : Int) : List TV := [.int .i64 n]
theorem ic_ints (l : List Int) : l.flatMap ic = ints l := by
  induction l with
  | nil => rfl
  | cons x l ih => rw [List.flatMap_cons, ih]; rfl
noncomputable def unI (cs : List TV) : Option (List Int) := unflat ic cs
theorem unI_ic (l : List Int) : unI (l.flatMap ic) = some l := unflat_eq (n := 1) (fun _ => rfl) (by decide) (fun x y h => by simpa [ic] using h) l
theorem unI_eq (l : List Int) : unI (ints l) = some l := by rw [← ic_ints]; exact unI_ic l
theorem unI_nil : unI [] = some [] := unI_ic []
theorem unI_some {cs : List TV} {l : List Int} (h : unI cs = some l) : cs = l.flatMap ic := unflat_some h
noncomputable def unS (cs : List TV) : Option (List Span) := unflat Span.cs cs
theorem unS_eq (l : List Span) : unS (l.flatMap Span.cs) = some l := unflat_eq (n := 2) (fun _ => rfl) (by decide) (fun x y h => by
  obtain ⟨a, b⟩ := x; obtain ⟨c, d⟩ := y
  simp only [Span.cs, List.cons.injEq, TV.int.injEq, true_and, and_true] at h
  rw [h.1, h.2]) l
theorem unS_nil : unS [] = some [] := unS_eq []
theorem unS_some {cs : List TV} {l : List Span} (h : unS cs = some l) : cs = l.flatMap Span.cs := unflat_some h
theorem rowS_is {s : TV} {l : List Span} (h : IsRow Span.cs s l) : rowL unS s = some l := by
  rcases h with ⟨rfl, rfl⟩ | ⟨f, rfl⟩
  · exact unS_nil
  · simp [rowL, unS_eq]
theorem rowI_is {s : TV} {l : List Int} (h : IsRow ic s l) : rowL unI s = some l := by
  rcases h with ⟨rfl, rfl⟩ | ⟨f, rfl⟩
  · exact unI_nil
  · simp [rowL, unI_ic]
attribute [go_sem] unS_eq unI_eq unI_ic unS_nil unI_nil
theorem ints_snoc (l : List Int) (x : Int) : ints (l ++ [x]) = ints l ++ [.int .i64 x] := by simp [ints]
/-- A row as it is handed back. -/
def rowI (l : List Int) : TV := if l.length = 0 then .nilSl else .sl (ints l) l.length false
theorem rowI_row (l : List Int) : IsRow ic (rowI l) l := by
  unfold rowI
  split
  · rename_i h; exact .inl ⟨rfl, List.length_eq_zero_iff.1 h⟩
  · exact .inr ⟨false, by rw [ic_ints]⟩
theorem rowI_ne {l : List Int} (h : l.length ≠ 0) : rowI l = .sl (ints l) l.length false := by unfold rowI; rw [if_neg h]
def rowSp (l : List Span) : TV := if l.length = 0 then .nilSl else .sl (l.flatMap Span.cs) l.length false
theorem rowSp_row (l : List Span) : IsRow Span.cs (rowSp l) l := by
  unfold rowSp
  split
  · rename_i h; exact .inl ⟨rfl, List.length_eq_zero_iff.1 h⟩
  · exact .inr ⟨false, rfl⟩
/-- The element of a list at a place. -/
def nth (l : List Int) (i : Int) : Int := l.getD i.toNat 0
theorem nth_eq {l : List Int} {k : Nat} {x : Int} (h : l[k]? = some x) : nth l (k : Int) = x := by
  unfold nth; rw [List.getD_eq_getElem?_getD, Int.toNat_natCast, h]; rfl
def pickI (l : List Int) (n : Int) : Int := if l.length = 0 then 0 else nth l (n % l.length)
theorem before_end : ∀ {a b : List Int}, a = [] ∨ b = [] → before a b = decide (a.length < b.length)
  | [], [], _ => rfl
  | [], _ :: _, _ => by simp [before]
  | _ :: _, [], _ => by simp [before]
  | _ :: _, _ :: _, h => by rcases h with h | h <;> cases h

/-- A row of places, as numbers. -/
def nI (S : List Nat) : List Int := S.map Int.ofNat
theorem before_irrefl : ∀ a : List Int, before a a = false
  | [] => rfl
  | x :: a => by simp [before, before_irrefl a]
theorem before_trans : ∀ {a b c : List Int}, before a b = true → before b c = true → before a c = true
  | [], [], _, h, _ => by cases h
  | [], _ :: _, [], _, h => by cases h
  | [], _ :: _, _ :: _, _, _ => rfl
  | _ :: _, [], _, h, _ => by cases h
  | _ :: _, _ :: _, [], _, h => by cases h
  | x :: a, y :: b, z :: c, h1, h2 => by
    simp only [before] at h1 h2 ⊢
    by_cases hxy : x < y
    · by_cases hyz : y < z
      · rw [if_pos (show x < z by omega)]
      · rw [if_neg hyz] at h2
        by_cases hzy : z < y
        · rw [if_pos hzy] at h2; cases h2
        · rw [if_pos (show x < z by omega)]
    · rw [if_neg hxy] at h1
      by_cases hyx : y < x
      · rw [if_pos hyx] at h1; cases h1
      · rw [if_neg hyx] at h1
        have : x = y := by omega
        subst this
        by_cases hyz : x < z
        · rw [if_pos hyz]
        · rw [if_neg hyz] at h2 ⊢
          by_cases hzy : z < x
          · rw [if_pos hzy] at h2; cases h2
          · rw [if_neg hzy] at h2 ⊢
            exact before_trans h1 h2
theorem before_total : ∀ {a b : List Int}, a.length = b.length → before a b = false → before b a = false → a = b
  | [], [], _, _, _ => rfl
  | [], _ :: _, h, _, _ => by simp at h
  | _ :: _, [], h, _, _ => by simp at h
  | x :: a, y :: b, h, h1, h2 => by
    simp only [before] at h1 h2
    have hxy : ¬ x < y := fun h' => by rw [if_pos h'] at h1; cases h1
    have hyx : ¬ y < x := fun h' => by rw [if_pos h'] at h2; cases h2
    rw [if_neg hxy, if_neg hyx] at h1
    rw [if_neg hyx, if_neg hxy] at h2
    have : x = y := by omega
    subst this
    rw [before_total (by simpa using h) h1 h2]
theorem before_append (c : List Int) {a b : List Int} : before (c ++ a) (c ++ b) = before a b := by
  induction c with
  | nil => rfl
  | cons x c ih => simp only [List.cons_append, before, if_neg (Int.lt_irrefl x)]; exact ih
/-- Is the first row better than the second one? -/
def bet (a b : List Int) : Prop := a.length < b.length ∨ a.length = b.length ∧ before a b = true
theorem bet_irrefl (a : List Int) : ¬ bet a a := by
  rintro (h | ⟨_, h⟩)
  · omega
  · rw [before_irrefl] at h; cases h
theorem bet_trans {a b c : List Int} (h1 : bet a b) (h2 : bet b c) : bet a c := by
  rcases h1 with h1 | ⟨h1, g1⟩ <;> rcases h2 with h2 | ⟨h2, g2⟩
  · exact .inl (by omega)
  · exact .inl (by omega)
  · exact .inl (by omega)
  · exact .inr ⟨by omega, before_trans g1 g2⟩
theorem bet_total {a b : List Int} (h1 : ¬ bet a b) (h2 : ¬ bet b a) : a = b := by
  unfold bet at h1 h2
  have hl : a.length = b.length := by omega
  refine before_total hl ?_ ?_
  · cases h : before a b with
    | false => rfl
    | true => exact absurd (.inr ⟨hl, h⟩) h1
  · cases h : before b a with
    | false => rfl
    | true => exact absurd (.inr ⟨hl.symm, h⟩) h2

/-- A row of places below n, increasing. -/
def rowN (n : Nat) (S : List Nat) : Prop := ∃ p : Nat → Bool, S = (List.range n).filter p
/-- The first of the least rows that are bad. -/
structure Least (bad : List Nat → Bool) (n : Nat) (S : List Nat) : Prop where
  row : rowN n S
  ne : S ≠ []
  isBad : bad S = true
  min : ∀ S', rowN n S' → S' ≠ [] → bad S' = true → ¬ bet (nI S') (nI S)
theorem nI_inj {a b : List Nat} (h : nI a = nI b) : a = b := by
  unfold nI at h
  exact List.map_inj_right (fun _ _ h => Int.ofNat.inj h) |>.1 h
theorem least_one {bad : List Nat → Bool} {n : Nat} {S S' : List Nat} (h : Least bad n S) (h' : Least bad n S') : S = S' :=
  nI_inj (bet_total (h'.min S h.row h.ne h.isBad) (h.min S' h'.row h'.ne h'.isBad))
theorem range_sorted (n : Nat) (p : Nat → Bool) : ((List.range n).filter p).Pairwise (· < ·) := List.pairwise_lt_range.filter p
theorem sorted_mem_ext {a b : List Nat} (ha : a.Pairwise (· < ·)) (hb : b.Pairwise (· < ·)) (h : ∀ x, x ∈ a ↔ x ∈ b) : a = b := by
  induction a generalizing b with
  | nil =>
    cases b with
    | nil => rfl
    | cons y b => have := (h y).2 (by simp); cases this
  | cons x a ih =>
    cases b with
    | nil => have := (h x).1 (by simp); cases this
    | cons y b =>
      rw [List.pairwise_cons] at ha hb
      have hx := (h x).1 (by simp)
      have hy := (h y).2 (by simp)
      have hxy : x = y := by
        rcases List.mem_cons.1 hx with hx | hx
        · exact hx
        · rcases List.mem_cons.1 hy with hy | hy
          · exact hy.symm
          · have := ha.1 y hy; have := hb.1 x hx; omega
      subst hxy
      rw [ih ha.2 hb.2 fun z => ?_]
      have hz := h z
      simp only [List.mem_cons] at hz
      constructor
      · intro hza
        have := ha.1 z hza
        rcases hz.1 (.inr hza) with rfl | h
        · omega
        · exact h
      · intro hzb
        have := hb.1 z hzb
        rcases hz.2 (.inr hzb) with rfl | h
        · omega
        · exact h
/-- A row is one that is increasing and below n. -/
theorem rowN_iff {n : Nat} {S : List Nat} : rowN n S ↔ S.Pairwise (· < ·) ∧ ∀ x ∈ S, x < n := by
  constructor
  · rintro ⟨p, rfl⟩
    exact ⟨range_sorted n p, fun x hx => List.mem_range.1 (List.mem_filter.1 hx).1⟩
  · rintro ⟨h1, h2⟩
    refine ⟨fun x => decide (x ∈ S), sorted_mem_ext h1 (range_sorted n _) fun x => ?_⟩
    simp only [List.mem_filter, List.mem_range, decide_eq_true_eq]
    exact ⟨fun h => ⟨h2 x h, h⟩, fun h => h.2⟩
/-- More places, from fr on. -/
structure More (n fr m : Nat) (J : List Nat) : Prop where
  len : J.length = m
  inc : J.Pairwise (· < ·)
  lo : ∀ x ∈ J, fr ≤ x
  hi : ∀ x ∈ J, x < n
/-- The search: found, and what was looked at last. -/
def cho (n : Nat) (bad : List Nat → Bool) : Nat → List Nat → Nat → List Nat → Bool × List Nat
  | 0, S, _, _ => (bad S, S)
  | m + 1, S, fr, o => (List.range' fr (n - fr)).foldl (fun acc i => if acc.1 then acc else cho n bad m (S ++ [i]) (i + 1) acc.2) (false, o)
def choTo (n : Nat) (bad : List Nat → Bool) (m : Nat) (S : List Nat) (fr : Nat) (o : List Nat) (j : Nat) : Bool × List Nat := (List.range' fr j).foldl (fun acc i => if acc.1 then acc else cho n bad m (S ++ [i]) (i + 1) acc.2) (false, o)
theorem cho_succ (n : Nat) (bad : List Nat → Bool) (m : Nat) (S : List Nat) (fr : Nat) (o : List Nat) : cho n bad (m + 1) S fr o = choTo n bad m S fr o (n - fr) := rfl
theorem choTo_succ {n : Nat} {bad : List Nat → Bool} {m : Nat} {S : List Nat} {fr : Nat} {o : List Nat} {j : Nat} (h : (choTo n bad m S fr o j).1 = false) :
    choTo n bad m S fr o (j + 1) = cho n bad m (S ++ [fr + j]) (fr + j + 1) (choTo n bad m S fr o j).2 := by
  unfold choTo at h ⊢
  rw [List.range'_1_concat, List.foldl_append]
  simp only [List.foldl_cons, List.foldl_nil]
  rw [if_neg (by rw [h]; simp)]
theorem choTo_stop {n : Nat} {bad : List Nat → Bool} {m : Nat} {S : List Nat} {fr : Nat} {o : List Nat} {j : Nat} (h : (choTo n bad m S fr o j).1 = true) : ∀ d, choTo n bad m S fr o (j + d) = choTo n bad m S fr o j
  | 0 => rfl
  | d + 1 => by
    have ih := choTo_stop h d
    rw [← Nat.add_assoc]
    unfold choTo at h ih ⊢
    rw [List.range'_1_concat, List.foldl_append, ih]
    simp only [List.foldl_cons, List.foldl_nil]
    rw [if_pos h]
/-- What the search has come to behind so many sizes. -/
def falT (n : Nat) (bad : List Nat → Bool) : Nat → Bool × List Nat
  | 0 => (false, [])
  | k + 1 => if (falT n bad k).1 then falT n bad k else cho n bad (k + 1) [] 0 (falT n bad k).2
theorem falT_stop {n : Nat} {bad : List Nat → Bool} {k : Nat} (h : (falT n bad k).1 = true) : ∀ d, falT n bad (k + d) = falT n bad k
  | 0 => rfl
  | d + 1 => by
    have ih := falT_stop h d
    rw [← Nat.add_assoc, falT, ih, if_pos h]
theorem falT_next {n : Nat} {bad : List Nat → Bool} {k : Nat} (h : (falT n bad k).1 = false) : falT n bad (k + 1) = cho n bad (k + 1) [] 0 (falT n bad k).2 := by
  rw [falT, if_neg (by rw [h]; simp)]
structure Found (bad : List Nat → Bool) (n fr m : Nat) (St out J : List Nat) : Prop where
  more : More n fr m J
  isBad : bad (St ++ J) = true
  out : out = St ++ J
  first : ∀ J', More n fr m J' → bad (St ++ J') = true → before (nI J') (nI J) = false
theorem cho_found {n : Nat} {bad : List Nat → Bool} : ∀ (m : Nat) (S : List Nat) (fr : Nat) (o : List Nat),
    ((cho n bad m S fr o).1 = true → ∃ J, Found bad n fr m S (cho n bad m S fr o).2 J) ∧
    ((cho n bad m S fr o).1 = false → ∀ J, More n fr m J → bad (S ++ J) = false)
  | 0, S, fr, o => by
    have nilJ : ∀ J, More n fr 0 J → J = [] := fun J hJ => List.length_eq_zero_iff.1 hJ.len
    constructor
    · intro h
      simp only [cho] at h ⊢
      refine ⟨[], ⟨⟨rfl, List.Pairwise.nil, by simp, by simp⟩, by rw [List.append_nil]; exact h, by rw [List.append_nil], ?_⟩⟩
      intro J' hJ' _; rw [nilJ J' hJ']; rfl
    · intro h J hJ
      simp only [cho] at h
      rw [nilJ J hJ, List.append_nil]; exact h
  | m + 1, S, fr, o => by
    rw [cho_succ]
    have key : ∀ j, fr + j ≤ n ∨ j = 0 →
        ((choTo n bad m S fr o j).1 = true → ∃ J, Found bad n fr (m + 1) S (choTo n bad m S fr o j).2 J) ∧
        ((choTo n bad m S fr o j).1 = false → ∀ J, More n fr (m + 1) J → (∃ x J', J = x :: J' ∧ x < fr + j) → bad (S ++ J) = false) := by
      intro j
      induction j with
      | zero =>
        intro _
        refine ⟨fun h => (by cases h), fun _ J hJ ⟨x, J', e, hx⟩ => ?_⟩
        have := hJ.lo x (by rw [e]; simp)
        omega
      | succ j ih =>
        intro hj
        have hj' : fr + j < n := by omega
        obtain ⟨ih1, ih2⟩ := ih (by omega)
        cases hf : (choTo n bad m S fr o j).1 with
        | true =>
          have e : choTo n bad m S fr o (j + 1) = choTo n bad m S fr o j := choTo_stop hf 1
          rw [e]
          exact ⟨ih1, fun h => by rw [hf] at h; cases h⟩
        | false =>
          rw [choTo_succ hf]
          have hrec := cho_found (bad := bad) (n := n) m (S ++ [fr + j]) (fr + j + 1) (choTo n bad m S fr o j).2
          constructor
          · intro h
            obtain ⟨J, hJ⟩ := hrec.1 h
            refine ⟨(fr + j) :: J, ⟨⟨by simp [hJ.more.len], ?_, ?_, ?_⟩, ?_, ?_, ?_⟩⟩
            · exact List.pairwise_cons.2 ⟨fun x hx => by have := hJ.more.lo x hx; omega, hJ.more.inc⟩
            · intro x hx
              rcases List.mem_cons.1 hx with rfl | hx
              · omega
              · have := hJ.more.lo x hx; omega
            · intro x hx
              rcases List.mem_cons.1 hx with rfl | hx
              · omega
              · exact hJ.more.hi x hx
            · have := hJ.isBad; rwa [List.append_assoc] at this
            · rw [hJ.out, List.append_assoc]; rfl
            · intro J' hJ' hb
              match J', hJ' with
              | [], hJ' => have := hJ'.len; simp at this
              | x :: J', hJ' =>
                have hx := hJ'.lo x (by simp)
                have hlt : ¬ x < fr + j := fun hlt => by rw [ih2 hf _ hJ' ⟨x, J', rfl, hlt⟩] at hb; cases hb
                show before ((x : Int) :: nI J') (((fr + j : Nat) : Int) :: nI J) = false
                simp only [before]
                rw [if_neg (by omega)]
                by_cases hgt : x = fr + j
                · subst hgt
                  rw [if_neg (by omega)]
                  have hp := List.pairwise_cons.1 hJ'.inc
                  refine hJ.first J' ⟨by have := hJ'.len; simpa using this, hp.2, fun y hy => by have := hp.1 y hy; omega, fun y hy => hJ'.hi y (List.mem_cons_of_mem _ hy)⟩ ?_
                  rw [List.append_assoc]; exact hb
                · rw [if_pos (by omega)]
          · intro h J hJ ⟨x, J', e, hx⟩
            subst e
            by_cases hxj : x = fr + j
            · subst hxj
              have hp := List.pairwise_cons.1 hJ.inc
              have := hrec.2 h J' ⟨by have := hJ.len; simpa using this, hp.2, fun y hy => by have := hp.1 y hy; omega, fun y hy => hJ.hi y (List.mem_cons_of_mem _ hy)⟩
              rw [List.append_assoc] at this; exact this
            · exact ih2 hf _ hJ ⟨x, J', rfl, by omega⟩
    have k := key (n - fr) (by omega)
    refine ⟨k.1, fun h J hJ => ?_⟩
    match J, hJ with
    | [], hJ => have := hJ.len; simp at this
    | x :: J', hJ =>
      have h1 := hJ.hi x (by simp)
      have h2 := hJ.lo x (by simp)
      exact k.2 h _ hJ ⟨x, J', rfl, by omega⟩
/-- What the search comes to, behind so many sizes. -/
theorem falT_law {n : Nat} {bad : List Nat → Bool} : ∀ k, k ≤ n →
    ((falT n bad k).1 = true → ∃ S, Least bad n S ∧ (falT n bad k).2 = S) ∧
    ((falT n bad k).1 = false → ∀ S, rowN n S → S ≠ [] → S.length ≤ k → bad S = false)
  | 0, _ => ⟨fun h => (by cases h), fun _ S hS hne hl => absurd (List.length_eq_zero_iff.1 (show S.length = 0 by omega)) hne⟩
  | k + 1, hk => by
    obtain ⟨ih1, ih2⟩ := falT_law (n := n) (bad := bad) k (by omega)
    cases hf : (falT n bad k).1 with
    | true =>
      have e : falT n bad (k + 1) = falT n bad k := falT_stop hf 1
      rw [e]
      exact ⟨ih1, fun h => by rw [hf] at h; cases h⟩
    | false =>
      rw [falT_next hf]
      have c := cho_found (bad := bad) (n := n) (k + 1) [] 0 (falT n bad k).2
      have toMore : ∀ S, rowN n S → S.length = k + 1 → More n 0 (k + 1) S := fun S hS hl => ⟨hl, (rowN_iff.1 hS).1, fun x _ => Nat.zero_le x, (rowN_iff.1 hS).2⟩
      constructor
      · intro h
        obtain ⟨J, hJ⟩ := c.1 h
        have hb : bad J = true := hJ.isBad
        refine ⟨J, ⟨rowN_iff.2 ⟨hJ.more.inc, hJ.more.hi⟩, ?_, hb, fun S' hS' hne' hb' hbet => ?_⟩, hJ.out⟩
        · intro h0
          have := hJ.more.len
          rw [h0] at this; simp at this
        · have l1 : (nI S').length = S'.length := List.length_map _
          have l2 : (nI J).length = k + 1 := by rw [nI, List.length_map, hJ.more.len]
          rcases hbet with hlt | ⟨heq, hbf⟩
          · rw [ih2 hf S' hS' hne' (by omega)] at hb'; cases hb'
          · have := hJ.first S' (toMore S' hS' (by omega)) hb'
            rw [this] at hbf; cases hbf
      · intro h S hS hne hl
        by_cases hlk : S.length ≤ k
        · exact ih2 hf S hS hne hlk
        · exact c.2 h S (toMore S hS (by omega))
theorem rowN_len {n : Nat} {S : List Nat} (h : rowN n S) : S.length ≤ n := by
  obtain ⟨p, rfl⟩ := h
  have := List.length_filter_le p (List.range n)
  simpa using this
theorem row_all (n : Nat) : rowN n (List.range n) := ⟨fun _ => true, (List.filter_eq_self.2 (fun _ _ => rfl)).symm⟩
/-- The specification's search: what it has come to behind so many sets. -/
def refStep (bad : List Nat → Bool) (n : Nat) (best : List Nat) (set : Nat) : List Nat :=
  let S := (List.range n).filter set.testBit
  if bad S then (if best.length = 0 ∨ S.length < best.length ∨ S.length = best.length ∧ before (nI S) (nI best) = true then S else best) else best
def refTo (bad : List Nat → Bool) (n k : Nat) : List Nat := (List.range' 1 k).foldl (refStep bad n) []
theorem refTo_succ (bad : List Nat → Bool) (n k : Nat) : refTo bad n (k + 1) = refStep bad n (refTo bad n k) (k + 1) := by
  unfold refTo
  rw [List.range'_1_concat, List.foldl_append, Nat.add_comm 1 k]; rfl
def setN (n s : Nat) : List Nat := (List.range n).filter s.testBit
theorem setN_ne {n s : Nat} (h1 : 1 ≤ s) (h2 : s < 2 ^ n) : setN n s ≠ [] := by
  intro h
  unfold setN at h
  rw [List.filter_eq_nil_iff] at h
  have : s = 0 := by
    apply Nat.eq_of_testBit_eq
    intro i
    rw [Nat.zero_testBit]
    by_cases hi : i < n
    · have := h i (List.mem_range.2 hi)
      simpa using this
    · exact Nat.testBit_lt_two_pow (Nat.lt_of_lt_of_le h2 (Nat.pow_le_pow_right (by omega) (by omega)))
  omega
theorem set_of (p : Nat → Bool) : ∀ n : Nat, ∃ s, s < 2 ^ n ∧ ∀ i, i < n → s.testBit i = p i
  | 0 => ⟨0, by simp, fun i h => by omega⟩
  | n + 1 => by
    obtain ⟨s, h1, h2⟩ := set_of p n
    have hlt : s < 2 ^ (n + 1) := Nat.lt_of_lt_of_le h1 (Nat.pow_le_pow_right (by omega) (by omega))
    cases hp : p n with
    | false =>
      refine ⟨s, hlt, fun i hi => ?_⟩
      by_cases hin : i = n
      · subst hin; rw [hp]; exact Nat.testBit_lt_two_pow h1
      · exact h2 i (by omega)
    | true =>
      refine ⟨s ||| 2 ^ n, Nat.or_lt_two_pow hlt (Nat.pow_lt_pow_right (by omega) (by omega)), fun i hi => ?_⟩
      rw [Nat.testBit_or, Nat.testBit_two_pow]
      by_cases hin : i = n
      · subst hin; simp [hp]
      · rw [h2 i (by omega)]
        have : decide (n = i) = false := by simp; omega
        rw [this, Bool.or_false]
theorem setN_of {n : Nat} {S : List Nat} (h : rowN n S) (hne : S ≠ []) : ∃ s, 1 ≤ s ∧ s < 2 ^ n ∧ setN n s = S := by
  obtain ⟨p, rfl⟩ := h
  obtain ⟨s, h1, h2⟩ := set_of p n
  have e : setN n s = (List.range n).filter p := List.filter_congr fun i hi => h2 i (List.mem_range.1 hi)
  refine ⟨s, ?_, h1, e⟩
  rcases Nat.eq_zero_or_pos s with h0 | h0
  · exfalso; apply hne
    rw [← e, h0]
    unfold setN
    rw [List.filter_eq_nil_iff]
    intro i _; simp
  · exact h0
theorem setN_t {k s : Nat} (h : s.testBit k = true) : setN (k + 1) s = setN k s ++ [k] := by simp [setN, List.range_succ, List.filter_append, h]
theorem setN_f {k s : Nat} (h : s.testBit k = false) : setN (k + 1) s = setN k s := by simp [setN, List.range_succ, List.filter_append, h]
theorem setN_len (k s : Nat) : (setN k s).length ≤ k := by
  have := List.length_filter_le s.testBit (List.range k)
  simpa [setN] using this
theorem nI_snoc (S : List Nat) (k : Nat) : nI (S ++ [k]) = nI S ++ [(k : Int)] := by simp [nI]
theorem nI_len (S : List Nat) : (nI S).length = S.length := List.length_map _

theorem refTo_law (bad : List Nat → Bool) (n : Nat) : ∀ k, k < 2 ^ n →
    (refTo bad n k = [] ∧ ∀ s, 1 ≤ s → s ≤ k → setN n s ≠ [] → bad (setN n s) = false) ∨
    (refTo bad n k ≠ [] ∧ rowN n (refTo bad n k) ∧ bad (refTo bad n k) = true ∧ ∀ s, 1 ≤ s → s ≤ k → setN n s ≠ [] → bad (setN n s) = true → ¬ bet (nI (setN n s)) (nI (refTo bad n k)))
  | 0, _ => .inl ⟨rfl, fun s h1 h2 => by omega⟩
  | k + 1, hk => by
    have ih := refTo_law bad n k (by omega)
    rw [refTo_succ]
    unfold refStep
    simp only
    rw [show (List.range n).filter (k + 1).testBit = setN n (k + 1) from rfl]
    have nl : ∀ S : List Nat, (nI S).length = S.length := fun S => List.length_map _
    cases hb : bad (setN n (k + 1)) with
    | false =>
      rw [if_neg (by simp)]
      rcases ih with ⟨e, h⟩ | ⟨e, h1, h2, h⟩
      · refine .inl ⟨e, fun s a b hne => ?_⟩
        by_cases hs : s = k + 1
        · subst hs; exact hb
        · exact h s a (by omega) hne
      · refine .inr ⟨e, h1, h2, fun s a b hne hb' => ?_⟩
        by_cases hs : s = k + 1
        · subst hs; rw [hb] at hb'; cases hb'
        · exact h s a (by omega) hne hb'
    | true =>
      rw [if_pos rfl]
      have hrow : rowN n (setN n (k + 1)) := ⟨_, rfl⟩
      by_cases hc : (refTo bad n k).length = 0 ∨ (setN n (k + 1)).length < (refTo bad n k).length ∨ (setN n (k + 1)).length = (refTo bad n k).length ∧ before (nI (setN n (k + 1))) (nI (refTo bad n k)) = true
      · rw [if_pos hc]
        have hne : setN n (k + 1) ≠ [] := setN_ne (by omega) hk
        refine .inr ⟨hne, hrow, hb, fun s a b hne' hb' hbet => ?_⟩
        by_cases hs : s = k + 1
        · subst hs; exact bet_irrefl _ hbet
        · rcases ih with ⟨e, h⟩ | ⟨e, h1, h2, h⟩
          · rw [h s a (by omega) hne'] at hb'; cases hb'
          · refine h s a (by omega) hne' hb' (bet_trans hbet ?_)
            rcases hc with h0 | h0 | h0
            · exact absurd (List.length_eq_zero_iff.1 h0) e
            · exact .inl (by rw [nl, nl]; exact h0)
            · exact .inr ⟨by rw [nl, nl]; exact h0.1, h0.2⟩
      · rw [if_neg hc]
        rcases ih with ⟨e, h⟩ | ⟨e, h1, h2, h⟩
        · exact absurd (.inl (by rw [e]; rfl)) hc
        · refine .inr ⟨e, h1, h2, fun s a b hne hb' hbet => ?_⟩
          by_cases hs : s = k + 1
          · subst hs
            rcases hbet with h0 | h0
            · rw [nl, nl] at h0; exact hc (.inr (.inl h0))
            · rw [nl, nl] at h0; exact hc (.inr (.inr h0))
          · exact h s a (by omega) hne hb' hbet
/-- BOTH SEARCHES COME TO THE SAME. -/
theorem searches (bad : List Nat → Bool) (n : Nat) :
    ((falT n bad n).1 = false ∧ refTo bad n (2 ^ n - 1) = [] ∧ ∀ S, rowN n S → S ≠ [] → bad S = false) ∨
    ((falT n bad n).1 = true ∧ ∃ S, Least bad n S ∧ (falT n bad n).2 = S ∧ refTo bad n (2 ^ n - 1) = S) := by
  have hpos : 0 < 2 ^ n := Nat.pow_pos (by omega)
  have r := refTo_law bad n (2 ^ n - 1) (by omega)
  have c := falT_law (bad := bad) n (Nat.le_refl n)
  cases hf : (falT n bad n).1 with
  | false =>
    have hall : ∀ S, rowN n S → S ≠ [] → bad S = false := fun S hS hne => c.2 hf S hS hne (rowN_len hS)
    refine .inl ⟨rfl, ?_, hall⟩
    rcases r with ⟨e, _⟩ | ⟨e, h1, h2, _⟩
    · exact e
    · rw [hall _ h1 e] at h2; cases h2
  | true =>
    obtain ⟨S, hS, e1⟩ := c.1 hf
    refine .inr ⟨rfl, S, hS, e1, ?_⟩
    rcases r with ⟨e, h⟩ | ⟨e, h1, h2, h⟩
    · obtain ⟨s, a, b, c⟩ := setN_of hS.row hS.ne
      have := h s a (by omega) (by rw [c]; exact hS.ne)
      rw [c, hS.isBad] at this; cases this
    · exact least_one ⟨h1, e, h2, fun S' r1 r2 r3 => by
        obtain ⟨s, a, b, c⟩ := setN_of r1 r2
        rw [← c]
        exact h s a (by omega) (by rw [c]; exact r2) (by rw [c]; exact r3)⟩ hS
/-- A smaller row than the least one is not bad. -/
theorem least_less {bad : List Nat → Bool} {n : Nat} {S : List Nat} (h : Least bad n S) {k : Nat} (hk : k < S.length) (h1 : 1 < S.length) : rowN n (S.eraseIdx k) ∧ S.eraseIdx k ≠ [] ∧ bad (S.eraseIdx k) = false := by
  have hr := rowN_iff.1 h.row
  have hl := List.length_eraseIdx_of_lt hk
  have hrow : rowN n (S.eraseIdx k) := rowN_iff.2 ⟨hr.1.sublist (List.eraseIdx_sublist S k), fun x hx => hr.2 x ((List.eraseIdx_sublist S k).mem hx)⟩
  have hne : S.eraseIdx k ≠ [] := fun e => by rw [e] at hl; simp at hl; omega
  refine ⟨hrow, hne, ?_⟩
  cases hb : bad (S.eraseIdx k) with
  | false => rfl
  | true =>
    refine absurd (.inl ?_) (h.min _ hrow hne hb)
    unfold nI
    rw [List.length_map, List.length_map, hl]; omega
/-- The elements at places. -/
def selA {α : Type} (l : List α) (S : List Nat) : List α := S.filterMap (l[·]?)
theorem selA_len {α : Type} {l : List α} : ∀ {S : List Nat}, (∀ x ∈ S, x < l.length) → (selA l S).length = S.length
  | [], _ => rfl
  | x :: S, h => by
    have hx := h x (by simp)
    unfold selA
    rw [List.filterMap_cons, List.getElem?_eq_getElem hx]
    simp only [List.length_cons]
    exact congrArg (· + 1) (selA_len (l := l) (S := S) fun y hy => h y (List.mem_cons_of_mem _ hy))
theorem selA_snoc {α : Type} {l : List α} {S : List Nat} {k : Nat} {x : α} (hx : l[k]? = some x) : selA l (S ++ [k]) = selA l S ++ [x] := by
  unfold selA; rw [List.filterMap_append]; simp [hx]
theorem selA_sub {α : Type} {l : List α} {S : List Nat} {x : α} (h : x ∈ selA l S) : x ∈ l := by
  obtain ⟨i, _, hi⟩ := List.mem_filterMap.1 h
  exact List.mem_of_getElem? hi
theorem selA_range {α : Type} (l : List α) : selA l (List.range l.length) = l := by
  have : ∀ k, k ≤ l.length → (List.range k).filterMap (l[·]?) = l.take k := by
    intro k
    induction k with
    | zero => intro _; simp
    | succ k ih =>
      intro hk
      rw [List.range_succ, List.filterMap_append, ih (by omega)]
      simp only [List.filterMap_cons, List.filterMap_nil]
      rw [List.getElem?_eq_getElem (by omega), List.take_add_one, List.getElem?_eq_getElem (by omega)]
      rfl
  unfold selA
  rw [this l.length (Nat.le_refl _), List.take_length]
/-- Numbers as places. -/
def toN (a : List Int) : List Nat := a.map Int.toNat
theorem toN_nI (S : List Nat) : toN (nI S) = S := by
  unfold toN nI
  rw [List.map_map]
  exact List.map_id S
noncomputable def rowB (n : Nat) (S : List Nat) : Bool := @decide (rowN n S) (Classical.propDecidable _)
theorem rowB_t {n : Nat} {S : List Nat} (h : rowN n S) : rowB n S = true := by unfold rowB; exact @decide_eq_true _ (Classical.propDecidable _) h
theorem rowB_of {n : Nat} {S : List Nat} (h : rowB n S = true) : rowN n S := by unfold rowB at h; exact @of_decide_eq_true _ (Classical.propDecidable _) h
theorem nI_erase {S : List Nat} {k : Nat} : ints (nI (S.eraseIdx k)) = (ints (nI S)).take k ++ (ints (nI S)).drop (k + 1) := by
  unfold ints nI
  rw [List.eraseIdx_eq_take_drop_succ]
  simp only [List.map_append, List.map_take, List.map_drop]
end Go.Oh

/- Part Hb. -/
namespace Go.Proofs.Ytadkjjnnnkfalaa.Sx
end Go.Proofs.Ytadkjjnnnkfalaa.Sx
namespace Go.Proofs.Ytadkjjnnnkfalaa.Sx
open Go.RowKit Go.Pm Go.Oc Go.Oh
set_option maxRecDepth 100000
set_option linter.unusedVariables false
set_option maxHeartbeats 1000000

/-- Cells that are trees. -/
@[go_sem] theorem map_ren_t (ids : List Nat) (cs : List TV) : List.map (PV.ren ids) (List.map PV.t cs) = List.map PV.t cs := by rw [List.map_map]; rfl
@[go_sem] theorem map_inv_t (ids : List Nat) (cs : List TV) : List.map (PV.inv ids) (List.map PV.t cs) = List.map PV.t cs := by rw [List.map_map]; rfl
@[go_sem] theorem all_under_t (k : Nat) (cs : List TV) : (List.map PV.t cs).all (PV.under k) = true := by rw [List.all_map, List.all_eq_true]; intro x _; rfl
@[go_sem] theorem cellsW_t (l : List PO) : ∀ cs : List TV, cellsW l (List.map PV.t cs) (List.map PV.t cs) = True
  | [] => by simp [cellsW]
  | c :: cs => by simp [cellsW, cellsW_t l cs, cellW, PV.toT]
@[go_sem] theorem flat_idsG_t (cs : List TV) : List.flatMap idsG (List.map PV.t cs) = [] := by
  induction cs with
  | nil => rfl
  | cons c cs ih => rw [List.map_cons, List.flatMap_cons, ih]; rfl
@[go_sem] theorem flat_idsP_t (cs : List TV) : List.flatMap idsP (List.map PV.t cs) = [] := by
  induction cs with
  | nil => rfl
  | cons c cs ih => rw [List.map_cons, List.flatMap_cons, ih]; rfl
theorem allO_toT : ∀ cs : List TV, allO (List.map PV.toT (List.map PV.t cs)) = some cs
  | [] => rfl
  | c :: cs => by rw [List.map_cons, List.map_cons]; simp only [PV.toT, allO, allO_toT cs]; rfl
theorem allO_thaw (h : Hp) : ∀ cs : List TV, allO (List.map (thawC h) (List.map PV.t cs)) = some cs
  | [] => rfl
  | c :: cs => by rw [List.map_cons, List.map_cons]; simp only [thawC, PV.toT, allO, allO_thaw h cs]; rfl
@[go_sem] theorem allO_thawA (h : Hp) (cs ds : List TV) : allO (List.map (thawC h) (List.map PV.t cs ++ List.map PV.t ds)) = some (cs ++ ds) := by rw [← List.map_append]; exact allO_thaw h _
attribute [go_sem] allO_toT allO_thaw

theorem hIn_c (n lo hi : Int) : PCalls Try.prog 31 [.int .i64 n, .int .i64 lo, .int .i64 hi] (.bool (inB n lo hi)) := by
  refine pcalls_by Try.mixes noSpec_ok (fn := Try.f31) Try.func31 rfl (by kernel_rfl) (by show 3 ≤ _; decide) ?_
  simp (decide := true) (maxSteps := 4000000) only [go_sem, Nat.reduceAdd, Nat.reduceSub, Nat.reduceMul, Nat.reduceDiv, Nat.reduceMod, Nat.reduceLT, Nat.reduceLeDiff, Nat.reduceEqDiff, Nat.reduceBEq, Nat.reduceBNe, Nat.reduceGT, Int.reduceAdd, Int.reduceSub, Int.reduceMul, Int.reduceNeg, Int.reduceLT, Int.reduceLE, Int.reduceEq, Int.reduceNe, Int.reduceBEq, Int.reduceBNe, Int.reduceToNat, Int.reduceGT, Int.reduceGE, ↓reduceIte, decide_true, decide_false, Try.f31, inB, ge_iff_le]
def hgIn : List TV → Option TV
  | [.int .i64 n, .int .i64 a, .int .i64 b] => some (.bool (inB n a b))
  | _ => none
theorem hgIn_ok : ∀ xs r, hgIn xs = some r → PCalls Try.prog 31 xs r := by
  intro xs r h
  unfold hgIn at h
  split at h
  · cases h; exact hIn_c _ _ _
  · cases h
noncomputable def spH1 : Pm.Spec := noSpec.one 31 hgIn
theorem spH1_ok : SpecOk Try.prog spH1 := Spec.one_ok hgIn_ok noSpec_ok
attribute [go_sem] hgIn
@[go_sem] theorem spH1_p (f : FuncId) (xs : List TV) : spH1.p f xs = Pm.Spec.p (noSpec.one 31 hgIn) f xs := rfl
@[go_sem] theorem spH1_h (f : FuncId) (ps : List PV) (hl : List PO) : spH1.h f ps hl = Pm.Spec.h (noSpec.one 31 hgIn) f ps hl := rfl
@[go_sem] theorem spH1_y (Y : Pm.YS) (f : FuncId) (ps : List PV) (hl : List PO) : spH1.y Y f ps hl = Pm.Spec.y (noSpec.one 31 hgIn) Y f ps hl := rfl
@[go_sem] theorem spH1_fz (f : FuncId) : spH1.fz f = Pm.Spec.fz (noSpec.one 31 hgIn) f := rfl
@[go_sem] theorem spH1_fr (f : FuncId) : spH1.fr f = Pm.Spec.fr (noSpec.one 31 hgIn) f := rfl
@[go_sem] theorem spH1_yf (f : FuncId) : spH1.yf f = Pm.Spec.yf (noSpec.one 31 hgIn) f := rfl
@[go_sem] theorem spH1_mu (t : TypeId) : spH1.mu t = Pm.Spec.mu (noSpec.one 31 hgIn) t := rfl
@[go_sem] theorem spH1_nf (t : TypeId) : spH1.nf t = Pm.Spec.nf (noSpec.one 31 hgIn) t := rfl
theorem hMod_c (n by_ : Int) (h : 0 < by_) (h2 : by_ ≤ 9223372036854775807) : PCalls Try.prog 22 [.int .i64 n, .int .i64 by_] (.int .i64 (n % by_)) := by
  refine pcalls_by Try.mixes noSpec_ok (fn := Try.f22) Try.func22 rfl (by kernel_rfl) (by show 2 ≤ _; decide) ?_
  have hne : ¬ by_ = 0 := by omega
  simp (decide := true) (maxSteps := 4000000) only [go_sem, Nat.reduceAdd, Nat.reduceSub, Nat.reduceMul, Nat.reduceDiv, Nat.reduceMod, Nat.reduceLT, Nat.reduceLeDiff, Nat.reduceEqDiff, Nat.reduceBEq, Nat.reduceBNe, Nat.reduceGT, Int.reduceAdd, Int.reduceSub, Int.reduceMul, Int.reduceNeg, Int.reduceLT, Int.reduceLE, Int.reduceEq, Int.reduceNe, Int.reduceBEq, Int.reduceBNe, Int.reduceToNat, Int.reduceGT, Int.reduceGE, ↓reduceIte, decide_true, decide_false, Try.f22, hne]
  have e := Int.tmod_eq_emod (a := n) (b := by_)
  have e1 := Int.emod_nonneg n hne
  have e2 := Int.emod_lt_of_pos n h
  by_cases hn : n.tmod by_ < 0
  · simp (decide := true) (maxSteps := 4000000) only [go_sem, Nat.reduceAdd, Nat.reduceSub, Nat.reduceMul, Nat.reduceDiv, Nat.reduceMod, Nat.reduceLT, Nat.reduceLeDiff, Nat.reduceEqDiff, Nat.reduceBEq, Nat.reduceBNe, Nat.reduceGT, Int.reduceAdd, Int.reduceSub, Int.reduceMul, Int.reduceNeg, Int.reduceLT, Int.reduceLE, Int.reduceEq, Int.reduceNe, Int.reduceBEq, Int.reduceBNe, Int.reduceToNat, Int.reduceGT, Int.reduceGE, ↓reduceIte, decide_true, decide_false, hn]
    have e3 : n.tmod by_ + by_ = n % by_ := by
      rw [e] at hn ⊢
      split at hn
      · omega
      · rename_i hc
        rw [if_neg hc]
        have : (by_.natAbs : Int) = by_ := by omega
        omega
    rw [e3, wrap_in (by omega) (by omega)]
  · simp (decide := true) (maxSteps := 4000000) only [go_sem, Nat.reduceAdd, Nat.reduceSub, Nat.reduceMul, Nat.reduceDiv, Nat.reduceMod, Nat.reduceLT, Nat.reduceLeDiff, Nat.reduceEqDiff, Nat.reduceBEq, Nat.reduceBNe, Nat.reduceGT, Int.reduceAdd, Int.reduceSub, Int.reduceMul, Int.reduceNeg, Int.reduceLT, Int.reduceLE, Int.reduceEq, Int.reduceNe, Int.reduceBEq, Int.reduceBNe, Int.reduceToNat, Int.reduceGT, Int.reduceGE, ↓reduceIte, decide_true, decide_false, hn]
    rw [e] at hn ⊢
    split at hn
    · rename_i hc; rw [if_pos hc]; simp
    · rename_i hc
      have : (by_.natAbs : Int) = by_ := by omega
      omega
def hgMod : List TV → Option TV
  | [.int .i64 n, .int .i64 b] => if 0 < b ∧ b ≤ 9223372036854775807 then some (.int .i64 (n % b)) else none
  | _ => none
theorem hgMod_ok : ∀ xs r, hgMod xs = some r → PCalls Try.prog 22 xs r := by
  intro xs r h
  unfold hgMod at h
  split at h
  · split at h
    · rename_i hc; cases h; exact hMod_c _ _ hc.1 hc.2
    · cases h
  · cases h
noncomputable def spH2 : Pm.Spec := spH1.one 22 hgMod
theorem spH2_ok : SpecOk Try.prog spH2 := Spec.one_ok hgMod_ok spH1_ok
attribute [go_sem] hgMod
@[go_sem] theorem spH2_p (f : FuncId) (xs : List TV) : spH2.p f xs = Pm.Spec.p (spH1.one 22 hgMod) f xs := rfl
@[go_sem] theorem spH2_h (f : FuncId) (ps : List PV) (hl : List PO) : spH2.h f ps hl = Pm.Spec.h (spH1.one 22 hgMod) f ps hl := rfl
@[go_sem] theorem spH2_y (Y : Pm.YS) (f : FuncId) (ps : List PV) (hl : List PO) : spH2.y Y f ps hl = Pm.Spec.y (spH1.one 22 hgMod) Y f ps hl := rfl
@[go_sem] theorem spH2_fz (f : FuncId) : spH2.fz f = Pm.Spec.fz (spH1.one 22 hgMod) f := rfl
@[go_sem] theorem spH2_fr (f : FuncId) : spH2.fr f = Pm.Spec.fr (spH1.one 22 hgMod) f := rfl
@[go_sem] theorem spH2_yf (f : FuncId) : spH2.yf f = Pm.Spec.yf (spH1.one 22 hgMod) f := rfl
@[go_sem] theorem spH2_mu (t : TypeId) : spH2.mu t = Pm.Spec.mu (spH1.one 22 hgMod) t := rfl
@[go_sem] theorem spH2_nf (t : TypeId) : spH2.nf t = Pm.Spec.nf (spH1.one 22 hgMod) t := rfl
noncomputable def spH3 : Pm.Spec := spH2
theorem spH3_ok : SpecOk Try.prog spH3 := spH2_ok
@[go_sem] theorem spH3_p (f : FuncId) (xs : List TV) : spH3.p f xs = Pm.Spec.p (spH2) f xs := rfl
@[go_sem] theorem spH3_h (f : FuncId) (ps : List PV) (hl : List PO) : spH3.h f ps hl = Pm.Spec.h (spH2) f ps hl := rfl
@[go_sem] theorem spH3_y (Y : Pm.YS) (f : FuncId) (ps : List PV) (hl : List PO) : spH3.y Y f ps hl = Pm.Spec.y (spH2) Y f ps hl := rfl
@[go_sem] theorem spH3_fz (f : FuncId) : spH3.fz f = Pm.Spec.fz (spH2) f := rfl
@[go_sem] theorem spH3_fr (f : FuncId) : spH3.fr f = Pm.Spec.fr (spH2) f := rfl
@[go_sem] theorem spH3_yf (f : FuncId) : spH3.yf f = Pm.Spec.yf (spH2) f := rfl
@[go_sem] theorem spH3_mu (t : TypeId) : spH3.mu t = Pm.Spec.mu (spH2) t := rfl
@[go_sem] theorem spH3_nf (t : TypeId) : spH3.nf t = Pm.Spec.nf (spH2) t := rfl
noncomputable def spH4 : Pm.Spec := spH3
theorem spH4_ok : SpecOk Try.prog spH4 := spH3_ok
@[go_sem] theorem spH4_p (f : FuncId) (xs : List TV) : spH4.p f xs = Pm.Spec.p (spH3) f xs := rfl
@[go_sem] theorem spH4_h (f : FuncId) (ps : List PV) (hl : List PO) : spH4.h f ps hl = Pm.Spec.h (spH3) f ps hl := rfl
@[go_sem] theorem spH4_y (Y : Pm.YS) (f : FuncId) (ps : List PV) (hl : List PO) : spH4.y Y f ps hl = Pm.Spec.y (spH3) Y f ps hl := rfl
@[go_sem] theorem spH4_fz (f : FuncId) : spH4.fz f = Pm.Spec.fz (spH3) f := rfl
@[go_sem] theorem spH4_fr (f : FuncId) : spH4.fr f = Pm.Spec.fr (spH3) f := rfl
@[go_sem] theorem spH4_yf (f : FuncId) : spH4.yf f = Pm.Spec.yf (spH3) f := rfl
@[go_sem] theorem spH4_mu (t : TypeId) : spH4.mu t = Pm.Spec.mu (spH3) t := rfl
@[go_sem] theorem spH4_nf (t : TypeId) : spH4.nf t = Pm.Spec.nf (spH3) t := rfl
theorem hHolds_c (s : Span) (n : Int) : PCalls Try.prog 36 [s.t, .int .i64 n] (.bool (inB n s.lo s.hi)) := by
  refine pcalls_by Try.mixes spH4_ok (fn := Try.f36) Try.func36 rfl (by kernel_rfl) (by show 2 ≤ _; decide) ?_
  simp (decide := true) (maxSteps := 4000000) only [go_sem, Nat.reduceAdd, Nat.reduceSub, Nat.reduceMul, Nat.reduceDiv, Nat.reduceMod, Nat.reduceLT, Nat.reduceLeDiff, Nat.reduceEqDiff, Nat.reduceBEq, Nat.reduceBNe, Nat.reduceGT, Int.reduceAdd, Int.reduceSub, Int.reduceMul, Int.reduceNeg, Int.reduceLT, Int.reduceLE, Int.reduceEq, Int.reduceNe, Int.reduceBEq, Int.reduceBNe, Int.reduceToNat, Int.reduceGT, Int.reduceGE, ↓reduceIte, decide_true, decide_false, Try.f36, Span.t, Span.cs]
def hgHolds : List TV → Option TV
  | [.agg [.int .i64 x, .int .i64 y], .int .i64 n] => some (.bool (inB n x y))
  | _ => none
theorem hgHolds_ok : ∀ xs r, hgHolds xs = some r → PCalls Try.prog 36 xs r := by
  intro xs r h
  unfold hgHolds at h
  split at h
  · cases h; exact hHolds_c ⟨_, _⟩ _
  · cases h
noncomputable def spH5 : Pm.Spec := spH4.one 36 hgHolds
theorem spH5_ok : SpecOk Try.prog spH5 := Spec.one_ok hgHolds_ok spH4_ok
attribute [go_sem] hgHolds
@[go_sem] theorem spH5_p (f : FuncId) (xs : List TV) : spH5.p f xs = Pm.Spec.p (spH4.one 36 hgHolds) f xs := rfl
@[go_sem] theorem spH5_h (f : FuncId) (ps : List PV) (hl : List PO) : spH5.h f ps hl = Pm.Spec.h (spH4.one 36 hgHolds) f ps hl := rfl
@[go_sem] theorem spH5_y (Y : Pm.YS) (f : FuncId) (ps : List PV) (hl : List PO) : spH5.y Y f ps hl = Pm.Spec.y (spH4.one 36 hgHolds) Y f ps hl := rfl
@[go_sem] theorem spH5_fz (f : FuncId) : spH5.fz f = Pm.Spec.fz (spH4.one 36 hgHolds) f := rfl
@[go_sem] theorem spH5_fr (f : FuncId) : spH5.fr f = Pm.Spec.fr (spH4.one 36 hgHolds) f := rfl
@[go_sem] theorem spH5_yf (f : FuncId) : spH5.yf f = Pm.Spec.yf (spH4.one 36 hgHolds) f := rfl
@[go_sem] theorem spH5_mu (t : TypeId) : spH5.mu t = Pm.Spec.mu (spH4.one 36 hgHolds) t := rfl
@[go_sem] theorem spH5_nf (t : TypeId) : spH5.nf t = Pm.Spec.nf (spH4.one 36 hgHolds) t := rfl
theorem hWider_c (s : Span) (n : Int) (b : Bool) : PCalls Try.prog 23 [s.t, .int .i64 n, .bool b] (widerS s n b).t := by
  refine pcalls_by Try.mixes noSpec_ok (fn := Try.f23) Try.func23 rfl (by kernel_rfl) (by show 3 ≤ _; decide) ?_
  cases b <;> simp (decide := true) (maxSteps := 4000000) only [go_sem, Nat.reduceAdd, Nat.reduceSub, Nat.reduceMul, Nat.reduceDiv, Nat.reduceMod, Nat.reduceLT, Nat.reduceLeDiff, Nat.reduceEqDiff, Nat.reduceBEq, Nat.reduceBNe, Nat.reduceGT, Int.reduceAdd, Int.reduceSub, Int.reduceMul, Int.reduceNeg, Int.reduceLT, Int.reduceLE, Int.reduceEq, Int.reduceNe, Int.reduceBEq, Int.reduceBNe, Int.reduceToNat, Int.reduceGT, Int.reduceGE, ↓reduceIte, decide_true, decide_false, Try.f23, Span.t, Span.cs, widerS]
def hgWider : List TV → Option TV
  | [.agg [.int .i64 x, .int .i64 y], .int .i64 n, .bool b] => some (widerS ⟨x, y⟩ n b).t
  | _ => none
theorem hgWider_ok : ∀ xs r, hgWider xs = some r → PCalls Try.prog 23 xs r := by
  intro xs r h
  unfold hgWider at h
  split at h
  · cases h; exact hWider_c ⟨_, _⟩ _ _
  · cases h
noncomputable def spH6 : Pm.Spec := spH5.one 23 hgWider
theorem spH6_ok : SpecOk Try.prog spH6 := Spec.one_ok hgWider_ok spH5_ok
attribute [go_sem] hgWider
@[go_sem] theorem spH6_p (f : FuncId) (xs : List TV) : spH6.p f xs = Pm.Spec.p (spH5.one 23 hgWider) f xs := rfl
@[go_sem] theorem spH6_h (f : FuncId) (ps : List PV) (hl : List PO) : spH6.h f ps hl = Pm.Spec.h (spH5.one 23 hgWider) f ps hl := rfl
@[go_sem] theorem spH6_y (Y : Pm.YS) (f : FuncId) (ps : List PV) (hl : List PO) : spH6.y Y f ps hl = Pm.Spec.y (spH5.one 23 hgWider) Y f ps hl := rfl
@[go_sem] theorem spH6_fz (f : FuncId) : spH6.fz f = Pm.Spec.fz (spH5.one 23 hgWider) f := rfl
@[go_sem] theorem spH6_fr (f : FuncId) : spH6.fr f = Pm.Spec.fr (spH5.one 23 hgWider) f := rfl
@[go_sem] theorem spH6_yf (f : FuncId) : spH6.yf f = Pm.Spec.yf (spH5.one 23 hgWider) f := rfl
@[go_sem] theorem spH6_mu (t : TypeId) : spH6.mu t = Pm.Spec.mu (spH5.one 23 hgWider) t := rfl
@[go_sem] theorem spH6_nf (t : TypeId) : spH6.nf t = Pm.Spec.nf (spH5.one 23 hgWider) t := rfl
/-- Numbers whose sums and differences fit. -/
def hMid (n : Int) : Prop := -4000000000000000000 ≤ n ∧ n ≤ 4000000000000000000
theorem htdiv_floor {a b : Int} (h : 0 < b) : (a - a % b).tdiv b = a / b := by
  have h1 : a - a % b = b * (a / b) := by have := Int.mul_ediv_add_emod a b; omega
  rw [h1, Int.mul_tdiv_cancel_left _ (by omega)]
theorem hdiv_mid {a b : Int} (ha : hMid a) (h : 0 < b) : hMid (a / b) ∨ False := by
  refine .inl ⟨?_, ?_⟩
  · have := Int.ediv_le_ediv h ha.1
    rcases Int.lt_or_le a 0 with h0 | h0
    · have h2 : a ≤ a / b := by
        rw [Int.le_ediv_iff_mul_le h]
        have : a * b ≤ a * 1 := Int.mul_le_mul_of_nonpos_left (by omega) (by omega)
        omega
      have := ha.1; omega
    · have := Int.ediv_nonneg h0 (by omega : 0 ≤ b); omega
  · rcases Int.lt_or_le a 0 with h0 | h0
    · have : a / b < 0 := Int.ediv_neg_of_neg_of_pos h0 h
      omega
    · have := Int.ediv_le_self b h0; have := ha.2; omega
theorem hDown_c (a b : Int) (ha : hMid a) (hb : 0 < b) (hb2 : hMid b) : PCalls Try.prog 44 [.int .i64 a, .int .i64 b] (.int .i64 (a / b)) := by
  refine pcalls_by Try.mixes spH6_ok (fn := Try.f44) Try.func44 rfl (by kernel_rfl) (by show 2 ≤ _; decide) ?_
  have hne : ¬ b = 0 := by omega
  have e1 := Int.emod_nonneg a hne
  have e2 := Int.emod_lt_of_pos a hb
  have hbd : b ≤ 9223372036854775807 := by have := hb2.2; omega
  have hd := (hdiv_mid ha hb).resolve_right id
  simp (decide := true) (maxSteps := 4000000) only [go_sem, Nat.reduceAdd, Nat.reduceSub, Nat.reduceMul, Nat.reduceDiv, Nat.reduceMod, Nat.reduceLT, Nat.reduceLeDiff, Nat.reduceEqDiff, Nat.reduceBEq, Nat.reduceBNe, Nat.reduceGT, Int.reduceAdd, Int.reduceSub, Int.reduceMul, Int.reduceNeg, Int.reduceLT, Int.reduceLE, Int.reduceEq, Int.reduceNe, Int.reduceBEq, Int.reduceBNe, Int.reduceToNat, Int.reduceGT, Int.reduceGE, ↓reduceIte, decide_true, decide_false, Try.f44, hb, hbd, hne]
  rw [wrap_in (n := a - a % b) (by have := ha.1; have := hb2.2; omega) (by have := ha.2; omega), htdiv_floor hb, wrap_in (by have := hd.1; omega) (by have := hd.2; omega)]
def hgDown : List TV → Option TV
  | [.int .i64 a, .int .i64 b] => if (-4000000000000000000 ≤ a ∧ a ≤ 4000000000000000000) ∧ 0 < b ∧ b ≤ 4000000000000000000 then some (.int .i64 (a / b)) else none
  | _ => none
theorem hgDown_ok : ∀ xs r, hgDown xs = some r → PCalls Try.prog 44 xs r := by
  intro xs r h
  unfold hgDown at h
  split at h
  · split at h
    · rename_i hc; cases h; exact hDown_c _ _ hc.1 hc.2.1 ⟨by omega, hc.2.2⟩
    · cases h
  · cases h
noncomputable def spH7 : Pm.Spec := spH6.one 44 hgDown
theorem spH7_ok : SpecOk Try.prog spH7 := Spec.one_ok hgDown_ok spH6_ok
attribute [go_sem] hgDown
@[go_sem] theorem spH7_p (f : FuncId) (xs : List TV) : spH7.p f xs = Pm.Spec.p (spH6.one 44 hgDown) f xs := rfl
@[go_sem] theorem spH7_h (f : FuncId) (ps : List PV) (hl : List PO) : spH7.h f ps hl = Pm.Spec.h (spH6.one 44 hgDown) f ps hl := rfl
@[go_sem] theorem spH7_y (Y : Pm.YS) (f : FuncId) (ps : List PV) (hl : List PO) : spH7.y Y f ps hl = Pm.Spec.y (spH6.one 44 hgDown) Y f ps hl := rfl
@[go_sem] theorem spH7_fz (f : FuncId) : spH7.fz f = Pm.Spec.fz (spH6.one 44 hgDown) f := rfl
@[go_sem] theorem spH7_fr (f : FuncId) : spH7.fr f = Pm.Spec.fr (spH6.one 44 hgDown) f := rfl
@[go_sem] theorem spH7_yf (f : FuncId) : spH7.yf f = Pm.Spec.yf (spH6.one 44 hgDown) f := rfl
@[go_sem] theorem spH7_mu (t : TypeId) : spH7.mu t = Pm.Spec.mu (spH6.one 44 hgDown) t := rfl
@[go_sem] theorem spH7_nf (t : TypeId) : spH7.nf t = Pm.Spec.nf (spH6.one 44 hgDown) t := rfl
theorem hUp_c (a b : Int) (ha : hMid a) (hb : 0 < b) (hb2 : hMid b) : PCalls Try.prog 42 [.int .i64 a, .int .i64 b] (.int .i64 (-((-a) / b))) := by
  refine pcalls_by Try.mixes spH7_ok (fn := Try.f42) Try.func42 rfl (by kernel_rfl) (by show 2 ≤ _; decide) ?_
  have hna : IntKind.i64.wrap (0 - a) = -a := by rw [wrap_in (by have := ha.2; omega) (by have := ha.1; omega)]; omega
  have hm : hMid (-a) := ⟨by have := ha.2; omega, by have := ha.1; omega⟩
  have hd := (hdiv_mid hm hb).resolve_right id
  have hc : ((-4000000000000000000 ≤ -a ∧ -a ≤ 4000000000000000000) ∧ 0 < b ∧ b ≤ 4000000000000000000) := ⟨hm, hb, hb2.2⟩
  simp (decide := true) (maxSteps := 4000000) only [go_sem, Nat.reduceAdd, Nat.reduceSub, Nat.reduceMul, Nat.reduceDiv, Nat.reduceMod, Nat.reduceLT, Nat.reduceLeDiff, Nat.reduceEqDiff, Nat.reduceBEq, Nat.reduceBNe, Nat.reduceGT, Int.reduceAdd, Int.reduceSub, Int.reduceMul, Int.reduceNeg, Int.reduceLT, Int.reduceLE, Int.reduceEq, Int.reduceNe, Int.reduceBEq, Int.reduceBNe, Int.reduceToNat, Int.reduceGT, Int.reduceGE, ↓reduceIte, decide_true, decide_false, Try.f42, hna, if_pos hc]
  rw [wrap_in (by have := hd.2; omega) (by have := hd.1; omega)]; omega
def hgUp : List TV → Option TV
  | [.int .i64 a, .int .i64 b] => if (-4000000000000000000 ≤ a ∧ a ≤ 4000000000000000000) ∧ 0 < b ∧ b ≤ 4000000000000000000 then some (.int .i64 (-((-a) / b))) else none
  | _ => none
theorem hgUp_ok : ∀ xs r, hgUp xs = some r → PCalls Try.prog 42 xs r := by
  intro xs r h
  unfold hgUp at h
  split at h
  · split at h
    · rename_i hc; cases h; exact hUp_c _ _ hc.1 hc.2.1 ⟨by omega, hc.2.2⟩
    · cases h
  · cases h
noncomputable def spH8 : Pm.Spec := spH7.one 42 hgUp
theorem spH8_ok : SpecOk Try.prog spH8 := Spec.one_ok hgUp_ok spH7_ok
attribute [go_sem] hgUp
@[go_sem] theorem spH8_p (f : FuncId) (xs : List TV) : spH8.p f xs = Pm.Spec.p (spH7.one 42 hgUp) f xs := rfl
@[go_sem] theorem spH8_h (f : FuncId) (ps : List PV) (hl : List PO) : spH8.h f ps hl = Pm.Spec.h (spH7.one 42 hgUp) f ps hl := rfl
@[go_sem] theorem spH8_y (Y : Pm.YS) (f : FuncId) (ps : List PV) (hl : List PO) : spH8.y Y f ps hl = Pm.Spec.y (spH7.one 42 hgUp) Y f ps hl := rfl
@[go_sem] theorem spH8_fz (f : FuncId) : spH8.fz f = Pm.Spec.fz (spH7.one 42 hgUp) f := rfl
@[go_sem] theorem spH8_fr (f : FuncId) : spH8.fr f = Pm.Spec.fr (spH7.one 42 hgUp) f := rfl
@[go_sem] theorem spH8_yf (f : FuncId) : spH8.yf f = Pm.Spec.yf (spH7.one 42 hgUp) f := rfl
@[go_sem] theorem spH8_mu (t : TypeId) : spH8.mu t = Pm.Spec.mu (spH7.one 42 hgUp) t := rfl
@[go_sem] theorem spH8_nf (t : TypeId) : spH8.nf t = Pm.Spec.nf (spH7.one 42 hgUp) t := rfl
theorem hChosen_c (lo hi n : Int) (h1 : In64 lo) (h2 : In64 hi) : PCalls Try.prog 25 [.int .i64 lo, .int .i64 hi, .int .i64 n] (.int .i64 (chosen lo hi n)) := by
  refine pcalls_by Try.mixes spH8_ok (fn := Try.f25) Try.func25 rfl (by kernel_rfl) (by show 3 ≤ _; decide) ?_
  obtain ⟨a1, a2⟩ := h1
  obtain ⟨b1, b2⟩ := h2
  unfold chosen
  by_cases hge : lo ≥ hi
  · simp (decide := true) (maxSteps := 4000000) only [go_sem, Nat.reduceAdd, Nat.reduceSub, Nat.reduceMul, Nat.reduceDiv, Nat.reduceMod, Nat.reduceLT, Nat.reduceLeDiff, Nat.reduceEqDiff, Nat.reduceBEq, Nat.reduceBNe, Nat.reduceGT, Int.reduceAdd, Int.reduceSub, Int.reduceMul, Int.reduceNeg, Int.reduceLT, Int.reduceLE, Int.reduceEq, Int.reduceNe, Int.reduceBEq, Int.reduceBNe, Int.reduceToNat, Int.reduceGT, Int.reduceGE, ↓reduceIte, decide_true, decide_false, Try.f25, hge]
  · by_cases hbig : 9223372036854775807 < hi - lo + 1
    · have e : IntKind.i64.wrap (IntKind.i64.wrap (hi - lo) + 1) < 1 := by simp only [IntKind.wrap_i64]; omega
      simp (decide := true) (maxSteps := 4000000) only [go_sem, Nat.reduceAdd, Nat.reduceSub, Nat.reduceMul, Nat.reduceDiv, Nat.reduceMod, Nat.reduceLT, Nat.reduceLeDiff, Nat.reduceEqDiff, Nat.reduceBEq, Nat.reduceBNe, Nat.reduceGT, Int.reduceAdd, Int.reduceSub, Int.reduceMul, Int.reduceNeg, Int.reduceLT, Int.reduceLE, Int.reduceEq, Int.reduceNe, Int.reduceBEq, Int.reduceBNe, Int.reduceToNat, Int.reduceGT, Int.reduceGE, ↓reduceIte, decide_true, decide_false, Try.f25, hge, e, hbig]
    · have e : IntKind.i64.wrap (IntKind.i64.wrap (hi - lo) + 1) = hi - lo + 1 := by rw [wrap_in (n := hi - lo) (by omega) (by omega), wrap_in (by omega) (by omega)]
      have e2 : ¬ hi - lo + 1 < 1 := by omega
      have e3 : 0 < hi - lo + 1 ∧ hi - lo + 1 ≤ 9223372036854775807 := by omega
      have m1 := Int.emod_nonneg n (show hi - lo + 1 ≠ 0 by omega)
      have m2 := Int.emod_lt_of_pos n (show 0 < hi - lo + 1 by omega)
      simp (decide := true) (maxSteps := 4000000) only [go_sem, Nat.reduceAdd, Nat.reduceSub, Nat.reduceMul, Nat.reduceDiv, Nat.reduceMod, Nat.reduceLT, Nat.reduceLeDiff, Nat.reduceEqDiff, Nat.reduceBEq, Nat.reduceBNe, Nat.reduceGT, Int.reduceAdd, Int.reduceSub, Int.reduceMul, Int.reduceNeg, Int.reduceLT, Int.reduceLE, Int.reduceEq, Int.reduceNe, Int.reduceBEq, Int.reduceBNe, Int.reduceToNat, Int.reduceGT, Int.reduceGE, ↓reduceIte, decide_true, decide_false, Try.f25, hge, hbig, e, e2, if_pos e3]
      rw [wrap_in (by omega) (by omega)]
def hgChosen : List TV → Option TV
  | [.int .i64 a, .int .i64 b, .int .i64 n] => if (-9223372036854775808 ≤ a ∧ a ≤ 9223372036854775807) ∧ -9223372036854775808 ≤ b ∧ b ≤ 9223372036854775807 then some (.int .i64 (chosen a b n)) else none
  | _ => none
theorem hgChosen_ok : ∀ xs r, hgChosen xs = some r → PCalls Try.prog 25 xs r := by
  intro xs r h
  unfold hgChosen at h
  split at h
  · split at h
    · rename_i hc; cases h; exact hChosen_c _ _ _ hc.1 hc.2
    · cases h
  · cases h
noncomputable def spH9 : Pm.Spec := spH8.one 25 hgChosen
theorem spH9_ok : SpecOk Try.prog spH9 := Spec.one_ok hgChosen_ok spH8_ok
attribute [go_sem] hgChosen
@[go_sem] theorem spH9_p (f : FuncId) (xs : List TV) : spH9.p f xs = Pm.Spec.p (spH8.one 25 hgChosen) f xs := rfl
@[go_sem] theorem spH9_h (f : FuncId) (ps : List PV) (hl : List PO) : spH9.h f ps hl = Pm.Spec.h (spH8.one 25 hgChosen) f ps hl := rfl
@[go_sem] theorem spH9_y (Y : Pm.YS) (f : FuncId) (ps : List PV) (hl : List PO) : spH9.y Y f ps hl = Pm.Spec.y (spH8.one 25 hgChosen) Y f ps hl := rfl
@[go_sem] theorem spH9_fz (f : FuncId) : spH9.fz f = Pm.Spec.fz (spH8.one 25 hgChosen) f := rfl
@[go_sem] theorem spH9_fr (f : FuncId) : spH9.fr f = Pm.Spec.fr (spH8.one 25 hgChosen) f := rfl
@[go_sem] theorem spH9_yf (f : FuncId) : spH9.yf f = Pm.Spec.yf (spH8.one 25 hgChosen) f := rfl
@[go_sem] theorem spH9_mu (t : TypeId) : spH9.mu t = Pm.Spec.mu (spH8.one 25 hgChosen) t := rfl
@[go_sem] theorem spH9_nf (t : TypeId) : spH9.nf t = Pm.Spec.nf (spH8.one 25 hgChosen) t := rfl
noncomputable def spH10 : Pm.Spec := spH9
theorem spH10_ok : SpecOk Try.prog spH10 := spH9_ok
@[go_sem] theorem spH10_p (f : FuncId) (xs : List TV) : spH10.p f xs = Pm.Spec.p (spH9) f xs := rfl
@[go_sem] theorem spH10_h (f : FuncId) (ps : List PV) (hl : List PO) : spH10.h f ps hl = Pm.Spec.h (spH9) f ps hl := rfl
@[go_sem] theorem spH10_y (Y : Pm.YS) (f : FuncId) (ps : List PV) (hl : List PO) : spH10.y Y f ps hl = Pm.Spec.y (spH9) Y f ps hl := rfl
@[go_sem] theorem spH10_fz (f : FuncId) : spH10.fz f = Pm.Spec.fz (spH9) f := rfl
@[go_sem] theorem spH10_fr (f : FuncId) : spH10.fr f = Pm.Spec.fr (spH9) f := rfl
@[go_sem] theorem spH10_yf (f : FuncId) : spH10.yf f = Pm.Spec.yf (spH9) f := rfl
@[go_sem] theorem spH10_mu (t : TypeId) : spH10.mu t = Pm.Spec.mu (spH9) t := rfl
@[go_sem] theorem spH10_nf (t : TypeId) : spH10.nf t = Pm.Spec.nf (spH9) t := rfl
theorem hSame_c {a b : List Int} {s t : TV} (hs : IsRow ic s a) (ht : IsRow ic t b) (ha : a.length ≤ 9223372036854775806) : PCalls Try.prog 29 [s, t] (.bool (decide (a = b))) := by
  refine pcalls_by Try.mixes noSpec_ok (fn := Try.f29) Try.func29 rfl (by kernel_rfl) (by show 2 ≤ _; decide) ?_
  by_cases hl : a.length = b.length
  · by_cases h0 : a.length = 0
    · have ea : a = [] := List.length_eq_zero_iff.1 h0
      have eb : b = [] := List.length_eq_zero_iff.1 (by omega)
      subst ea; subst eb
      rcases hs with ⟨rfl, _⟩ | ⟨f1, rfl⟩ <;> rcases ht with ⟨rfl, _⟩ | ⟨f2, rfl⟩
      all_goals
        simp (decide := true) (maxSteps := 4000000) only [go_sem, Nat.reduceAdd, Nat.reduceSub, Nat.reduceMul, Nat.reduceDiv, Nat.reduceMod, Nat.reduceLT, Nat.reduceLeDiff, Nat.reduceEqDiff, Nat.reduceBEq, Nat.reduceBNe, Nat.reduceGT, Int.reduceAdd, Int.reduceSub, Int.reduceMul, Int.reduceNeg, Int.reduceLT, Int.reduceLE, Int.reduceEq, Int.reduceNe, Int.reduceBEq, Int.reduceBNe, Int.reduceToNat, Int.reduceGT, Int.reduceGE, ↓reduceIte, decide_true, decide_false, eq_self, Nat.mul_one, Nat.zero_mul, Nat.one_mul, Int.le_refl, Nat.le_refl, Int.cast_ofNat_Int, Try.f29, List.length_nil, bne_self_eq_false]
        refine pwpC_loopU (A := Unit) [0, 1] (fun _ => [(5, .t (.int .i64 0))]) (fun _ => []) (fun _ => 0) () (by decide) (fun _ => by rfl) ?_ fun Q1 hQ1 _ I1 hI1 => ?_
        · simp (decide := true) (maxSteps := 4000000) only [go_sem, Nat.reduceAdd, Nat.reduceSub, Nat.reduceMul, Nat.reduceDiv, Nat.reduceMod, Nat.reduceLT, Nat.reduceLeDiff, Nat.reduceEqDiff, Nat.reduceBEq, Nat.reduceBNe, Nat.reduceGT, Int.reduceAdd, Int.reduceSub, Int.reduceMul, Int.reduceNeg, Int.reduceLT, Int.reduceLE, Int.reduceEq, Int.reduceNe, Int.reduceBEq, Int.reduceBNe, Int.reduceToNat, Int.reduceGT, Int.reduceGE, ↓reduceIte, decide_true, decide_false, eq_self, Nat.mul_one, Nat.zero_mul, Nat.one_mul, Int.le_refl, Nat.le_refl, Int.cast_ofNat_Int]
        · simp (decide := true) (maxSteps := 4000000) only [go_sem, Nat.reduceAdd, Nat.reduceSub, Nat.reduceMul, Nat.reduceDiv, Nat.reduceMod, Nat.reduceLT, Nat.reduceLeDiff, Nat.reduceEqDiff, Nat.reduceBEq, Nat.reduceBNe, Nat.reduceGT, Int.reduceAdd, Int.reduceSub, Int.reduceMul, Int.reduceNeg, Int.reduceLT, Int.reduceLE, Int.reduceEq, Int.reduceNe, Int.reduceBEq, Int.reduceBNe, Int.reduceToNat, Int.reduceGT, Int.reduceGE, ↓reduceIte, decide_true, decide_false, eq_self, Nat.mul_one, Nat.zero_mul, Nat.one_mul, Int.le_refl, Nat.le_refl, Int.cast_ofNat_Int, List.length_nil]
          refine hQ1 _ _ ?_
          simp (decide := true) (maxSteps := 4000000) only [go_sem, Nat.reduceAdd, Nat.reduceSub, Nat.reduceMul, Nat.reduceDiv, Nat.reduceMod, Nat.reduceLT, Nat.reduceLeDiff, Nat.reduceEqDiff, Nat.reduceBEq, Nat.reduceBNe, Nat.reduceGT, Int.reduceAdd, Int.reduceSub, Int.reduceMul, Int.reduceNeg, Int.reduceLT, Int.reduceLE, Int.reduceEq, Int.reduceNe, Int.reduceBEq, Int.reduceBNe, Int.reduceToNat, Int.reduceGT, Int.reduceGE, ↓reduceIte, decide_true, decide_false, eq_self, Nat.mul_one, Nat.zero_mul, Nat.one_mul, Int.le_refl, Nat.le_refl, Int.cast_ofNat_Int]
    · obtain ⟨f1, rfl⟩ := hs.ne (by omega)
      obtain ⟨f2, rfl⟩ := ht.ne (by omega)
      rw [ic_ints, ic_ints]
      have hl' : ((a.length : Int) != (b.length : Int)) = false := bne_int_f (by omega)
      simp (decide := true) (maxSteps := 4000000) only [go_sem, Nat.reduceAdd, Nat.reduceSub, Nat.reduceMul, Nat.reduceDiv, Nat.reduceMod, Nat.reduceLT, Nat.reduceLeDiff, Nat.reduceEqDiff, Nat.reduceBEq, Nat.reduceBNe, Nat.reduceGT, Int.reduceAdd, Int.reduceSub, Int.reduceMul, Int.reduceNeg, Int.reduceLT, Int.reduceLE, Int.reduceEq, Int.reduceNe, Int.reduceBEq, Int.reduceBNe, Int.reduceToNat, Int.reduceGT, Int.reduceGE, ↓reduceIte, decide_true, decide_false, eq_self, Nat.mul_one, Nat.zero_mul, Nat.one_mul, Int.le_refl, Nat.le_refl, Int.cast_ofNat_Int, Try.f29, hl']
      refine pwpC_loopU (A := { k : Nat // a.take k = b.take k ∧ k ≤ a.length }) [0, 1] (fun k => [(5, .t (.int .i64 k.1))]) (fun k => []) (fun k => a.length - k.1) ⟨0, by simp⟩ (by decide) (fun _ => by rfl) ?_ fun Q1 hQ1 ⟨k, hk, hka⟩ I1 hI1 => ?_
      · simp (decide := true) (maxSteps := 4000000) only [go_sem, Nat.reduceAdd, Nat.reduceSub, Nat.reduceMul, Nat.reduceDiv, Nat.reduceMod, Nat.reduceLT, Nat.reduceLeDiff, Nat.reduceEqDiff, Nat.reduceBEq, Nat.reduceBNe, Nat.reduceGT, Int.reduceAdd, Int.reduceSub, Int.reduceMul, Int.reduceNeg, Int.reduceLT, Int.reduceLE, Int.reduceEq, Int.reduceNe, Int.reduceBEq, Int.reduceBNe, Int.reduceToNat, Int.reduceGT, Int.reduceGE, ↓reduceIte, decide_true, decide_false, eq_self, Nat.mul_one, Nat.zero_mul, Nat.one_mul, Int.le_refl, Nat.le_refl, Int.cast_ofNat_Int]
      · by_cases hlt : (k : Int) < a.length
        · have hltb : (k : Int) < b.length := by omega
          obtain ⟨x, hx⟩ := get_lt hlt
          obtain ⟨y, hy⟩ := get_lt hltb
          have d1 := ints_at hx
          have d2 := ints_at hy
          rw [Nat.mul_one] at d1 d2
          have hc1 : IntKind.i64.wrap (k + 1) = ((k + 1 : Nat) : Int) := by rw [wrap_in (by omega) (by omega)]; omega
          by_cases hxy : x = y
          · subst hxy
            simp (decide := true) (maxSteps := 4000000) only [go_sem, Nat.reduceAdd, Nat.reduceSub, Nat.reduceMul, Nat.reduceDiv, Nat.reduceMod, Nat.reduceLT, Nat.reduceLeDiff, Nat.reduceEqDiff, Nat.reduceBEq, Nat.reduceBNe, Nat.reduceGT, Int.reduceAdd, Int.reduceSub, Int.reduceMul, Int.reduceNeg, Int.reduceLT, Int.reduceLE, Int.reduceEq, Int.reduceNe, Int.reduceBEq, Int.reduceBNe, Int.reduceToNat, Int.reduceGT, Int.reduceGE, ↓reduceIte, decide_true, decide_false, eq_self, Nat.mul_one, Nat.zero_mul, Nat.one_mul, Int.le_refl, Nat.le_refl, Int.cast_ofNat_Int, hlt, hltb, d1, d2, bne_self_eq_false]
            refine hI1 _ ⟨k + 1, by rw [take_snoc hx, take_snoc hy, hk], by omega⟩ (by simp only; omega) ?_
            simp (decide := true) (maxSteps := 4000000) only [go_sem, Nat.reduceAdd, Nat.reduceSub, Nat.reduceMul, Nat.reduceDiv, Nat.reduceMod, Nat.reduceLT, Nat.reduceLeDiff, Nat.reduceEqDiff, Nat.reduceBEq, Nat.reduceBNe, Nat.reduceGT, Int.reduceAdd, Int.reduceSub, Int.reduceMul, Int.reduceNeg, Int.reduceLT, Int.reduceLE, Int.reduceEq, Int.reduceNe, Int.reduceBEq, Int.reduceBNe, Int.reduceToNat, Int.reduceGT, Int.reduceGE, ↓reduceIte, decide_true, decide_false, eq_self, Nat.mul_one, Nat.zero_mul, Nat.one_mul, Int.le_refl, Nat.le_refl, Int.cast_ofNat_Int, hc1]
          · have hb : (x != y) = true := bne_int_t hxy
            simp (decide := true) (maxSteps := 4000000) only [go_sem, Nat.reduceAdd, Nat.reduceSub, Nat.reduceMul, Nat.reduceDiv, Nat.reduceMod, Nat.reduceLT, Nat.reduceLeDiff, Nat.reduceEqDiff, Nat.reduceBEq, Nat.reduceBNe, Nat.reduceGT, Int.reduceAdd, Int.reduceSub, Int.reduceMul, Int.reduceNeg, Int.reduceLT, Int.reduceLE, Int.reduceEq, Int.reduceNe, Int.reduceBEq, Int.reduceBNe, Int.reduceToNat, Int.reduceGT, Int.reduceGE, ↓reduceIte, decide_true, decide_false, eq_self, Nat.mul_one, Nat.zero_mul, Nat.one_mul, Int.le_refl, Nat.le_refl, Int.cast_ofNat_Int, hlt, hltb, d1, d2, hb]
            refine hQ1 _ _ ?_
            have : decide (a = b) = false := by
              rw [decide_eq_false_iff_not]
              rintro rfl
              rw [hx] at hy; cases hy; exact hxy rfl
            simp (decide := true) (maxSteps := 4000000) only [go_sem, Nat.reduceAdd, Nat.reduceSub, Nat.reduceMul, Nat.reduceDiv, Nat.reduceMod, Nat.reduceLT, Nat.reduceLeDiff, Nat.reduceEqDiff, Nat.reduceBEq, Nat.reduceBNe, Nat.reduceGT, Int.reduceAdd, Int.reduceSub, Int.reduceMul, Int.reduceNeg, Int.reduceLT, Int.reduceLE, Int.reduceEq, Int.reduceNe, Int.reduceBEq, Int.reduceBNe, Int.reduceToNat, Int.reduceGT, Int.reduceGE, ↓reduceIte, decide_true, decide_false, eq_self, Nat.mul_one, Nat.zero_mul, Nat.one_mul, Int.le_refl, Nat.le_refl, Int.cast_ofNat_Int, this]
        · have hke : k = a.length := by omega
          subst hke
          simp (decide := true) (maxSteps := 4000000) only [go_sem, Nat.reduceAdd, Nat.reduceSub, Nat.reduceMul, Nat.reduceDiv, Nat.reduceMod, Nat.reduceLT, Nat.reduceLeDiff, Nat.reduceEqDiff, Nat.reduceBEq, Nat.reduceBNe, Nat.reduceGT, Int.reduceAdd, Int.reduceSub, Int.reduceMul, Int.reduceNeg, Int.reduceLT, Int.reduceLE, Int.reduceEq, Int.reduceNe, Int.reduceBEq, Int.reduceBNe, Int.reduceToNat, Int.reduceGT, Int.reduceGE, ↓reduceIte, decide_true, decide_false, eq_self, Nat.mul_one, Nat.zero_mul, Nat.one_mul, Int.le_refl, Nat.le_refl, Int.cast_ofNat_Int, hlt]
          refine hQ1 _ _ ?_
          have : decide (a = b) = true := by
            rw [decide_eq_true_eq]
            rwa [List.take_length, List.take_of_length_le (by omega)] at hk
          simp (decide := true) (maxSteps := 4000000) only [go_sem, Nat.reduceAdd, Nat.reduceSub, Nat.reduceMul, Nat.reduceDiv, Nat.reduceMod, Nat.reduceLT, Nat.reduceLeDiff, Nat.reduceEqDiff, Nat.reduceBEq, Nat.reduceBNe, Nat.reduceGT, Int.reduceAdd, Int.reduceSub, Int.reduceMul, Int.reduceNeg, Int.reduceLT, Int.reduceLE, Int.reduceEq, Int.reduceNe, Int.reduceBEq, Int.reduceBNe, Int.reduceToNat, Int.reduceGT, Int.reduceGE, ↓reduceIte, decide_true, decide_false, eq_self, Nat.mul_one, Nat.zero_mul, Nat.one_mul, Int.le_refl, Nat.le_refl, Int.cast_ofNat_Int, this]
  · have hl' : ((a.length : Int) != (b.length : Int)) = true := bne_int_t (by omega)
    have hd : decide (a = b) = false := by
      rw [decide_eq_false_iff_not]
      rintro rfl; exact hl rfl
    rcases hs with ⟨rfl, rfl⟩ | ⟨f1, rfl⟩ <;> rcases ht with ⟨rfl, rfl⟩ | ⟨f2, rfl⟩
    · exact absurd rfl hl
    all_goals
      try simp only [List.length_nil, Int.cast_ofNat_Int] at hl'
      simp (decide := true) (maxSteps := 4000000) only [go_sem, Nat.reduceAdd, Nat.reduceSub, Nat.reduceMul, Nat.reduceDiv, Nat.reduceMod, Nat.reduceLT, Nat.reduceLeDiff, Nat.reduceEqDiff, Nat.reduceBEq, Nat.reduceBNe, Nat.reduceGT, Int.reduceAdd, Int.reduceSub, Int.reduceMul, Int.reduceNeg, Int.reduceLT, Int.reduceLE, Int.reduceEq, Int.reduceNe, Int.reduceBEq, Int.reduceBNe, Int.reduceToNat, Int.reduceGT, Int.reduceGE, ↓reduceIte, decide_true, decide_false, eq_self, Nat.mul_one, Nat.zero_mul, Nat.one_mul, Int.le_refl, Nat.le_refl, Int.cast_ofNat_Int, Try.f29, hl', hd]
noncomputable def hgSame : List TV → Option TV
  | [s, t] => match rowL unI s, rowL unI t with
    | some a, some b => if a.length ≤ 9223372036854775806 then some (.bool (decide (a = b))) else none
    | _, _ => none
  | _ => none
theorem hgSame_ok : ∀ xs r, hgSame xs = some r → PCalls Try.prog 29 xs r := by
  intro xs r h
  unfold hgSame at h
  split at h
  · split at h
    · rename_i a b ha hb
      split at h
      · rename_i hc; cases h
        exact hSame_c (rowL_some (un := unI) unI_nil (@unI_some) ha) (rowL_some (un := unI) unI_nil (@unI_some) hb) hc
      · cases h
    · cases h
  · cases h
noncomputable def spH11 : Pm.Spec := spH10.one 29 hgSame
theorem spH11_ok : SpecOk Try.prog spH11 := Spec.one_ok hgSame_ok spH10_ok
attribute [go_sem] hgSame
@[go_sem] theorem spH11_p (f : FuncId) (xs : List TV) : spH11.p f xs = Pm.Spec.p (spH10.one 29 hgSame) f xs := rfl
@[go_sem] theorem spH11_h (f : FuncId) (ps : List PV) (hl : List PO) : spH11.h f ps hl = Pm.Spec.h (spH10.one 29 hgSame) f ps hl := rfl
@[go_sem] theorem spH11_y (Y : Pm.YS) (f : FuncId) (ps : List PV) (hl : List PO) : spH11.y Y f ps hl = Pm.Spec.y (spH10.one 29 hgSame) Y f ps hl := rfl
@[go_sem] theorem spH11_fz (f : FuncId) : spH11.fz f = Pm.Spec.fz (spH10.one 29 hgSame) f := rfl
@[go_sem] theorem spH11_fr (f : FuncId) : spH11.fr f = Pm.Spec.fr (spH10.one 29 hgSame) f := rfl
@[go_sem] theorem spH11_yf (f : FuncId) : spH11.yf f = Pm.Spec.yf (spH10.one 29 hgSame) f := rfl
@[go_sem] theorem spH11_mu (t : TypeId) : spH11.mu t = Pm.Spec.mu (spH10.one 29 hgSame) t := rfl
@[go_sem] theorem spH11_nf (t : TypeId) : spH11.nf t = Pm.Spec.nf (spH10.one 29 hgSame) t := rfl
theorem hSameSpans_c {a b : List Span} {s t : TV} (hs : IsRow Span.cs s a) (ht : IsRow Span.cs t b) (ha : a.length ≤ 9223372036854775806) : PCalls Try.prog 18 [s, t] (.bool (decide (a = b))) := by
  refine pcalls_by Try.mixes noSpec_ok (fn := Try.f18) Try.func18 rfl (by kernel_rfl) (by show 2 ≤ _; decide) ?_
  by_cases hl : a.length = b.length
  · by_cases h0 : a.length = 0
    · have ea : a = [] := List.length_eq_zero_iff.1 h0
      have eb : b = [] := List.length_eq_zero_iff.1 (by omega)
      subst ea; subst eb
      rcases hs with ⟨rfl, _⟩ | ⟨f1, rfl⟩ <;> rcases ht with ⟨rfl, _⟩ | ⟨f2, rfl⟩
      all_goals
        simp (decide := true) (maxSteps := 4000000) only [go_sem, Nat.reduceAdd, Nat.reduceSub, Nat.reduceMul, Nat.reduceDiv, Nat.reduceMod, Nat.reduceLT, Nat.reduceLeDiff, Nat.reduceEqDiff, Nat.reduceBEq, Nat.reduceBNe, Nat.reduceGT, Int.reduceAdd, Int.reduceSub, Int.reduceMul, Int.reduceNeg, Int.reduceLT, Int.reduceLE, Int.reduceEq, Int.reduceNe, Int.reduceBEq, Int.reduceBNe, Int.reduceToNat, Int.reduceGT, Int.reduceGE, ↓reduceIte, decide_true, decide_false, eq_self, Nat.mul_one, Nat.zero_mul, Nat.one_mul, Int.le_refl, Nat.le_refl, Int.cast_ofNat_Int, Try.f18, List.length_nil, bne_self_eq_false]
        refine pwpC_loopU (A := Unit) [0, 1] (fun _ => [(5, .t (.int .i64 0))]) (fun _ => []) (fun _ => 0) () (by decide) (fun _ => by rfl) ?_ fun Q1 hQ1 _ I1 hI1 => ?_
        · simp (decide := true) (maxSteps := 4000000) only [go_sem, Nat.reduceAdd, Nat.reduceSub, Nat.reduceMul, Nat.reduceDiv, Nat.reduceMod, Nat.reduceLT, Nat.reduceLeDiff, Nat.reduceEqDiff, Nat.reduceBEq, Nat.reduceBNe, Nat.reduceGT, Int.reduceAdd, Int.reduceSub, Int.reduceMul, Int.reduceNeg, Int.reduceLT, Int.reduceLE, Int.reduceEq, Int.reduceNe, Int.reduceBEq, Int.reduceBNe, Int.reduceToNat, Int.reduceGT, Int.reduceGE, ↓reduceIte, decide_true, decide_false, eq_self, Nat.mul_one, Nat.zero_mul, Nat.one_mul, Int.le_refl, Nat.le_refl, Int.cast_ofNat_Int]
        · simp (decide := true) (maxSteps := 4000000) only [go_sem, Nat.reduceAdd, Nat.reduceSub, Nat.reduceMul, Nat.reduceDiv, Nat.reduceMod, Nat.reduceLT, Nat.reduceLeDiff, Nat.reduceEqDiff, Nat.reduceBEq, Nat.reduceBNe, Nat.reduceGT, Int.reduceAdd, Int.reduceSub, Int.reduceMul, Int.reduceNeg, Int.reduceLT, Int.reduceLE, Int.reduceEq, Int.reduceNe, Int.reduceBEq, Int.reduceBNe, Int.reduceToNat, Int.reduceGT, Int.reduceGE, ↓reduceIte, decide_true, decide_false, eq_self, Nat.mul_one, Nat.zero_mul, Nat.one_mul, Int.le_refl, Nat.le_refl, Int.cast_ofNat_Int, List.length_nil]
          refine hQ1 _ _ ?_
          simp (decide := true) (maxSteps := 4000000) only [go_sem, Nat.reduceAdd, Nat.reduceSub, Nat.reduceMul, Nat.reduceDiv, Nat.reduceMod, Nat.reduceLT, Nat.reduceLeDiff, Nat.reduceEqDiff, Nat.reduceBEq, Nat.reduceBNe, Nat.reduceGT, Int.reduceAdd, Int.reduceSub, Int.reduceMul, Int.reduceNeg, Int.reduceLT, Int.reduceLE, Int.reduceEq, Int.reduceNe, Int.reduceBEq, Int.reduceBNe, Int.reduceToNat, Int.reduceGT, Int.reduceGE, ↓reduceIte, decide_true, decide_false, eq_self, Nat.mul_one, Nat.zero_mul, Nat.one_mul, Int.le_refl, Nat.le_refl, Int.cast_ofNat_Int]
    · obtain ⟨f1, rfl⟩ := hs.ne (by omega)
      obtain ⟨f2, rfl⟩ := ht.ne (by omega)
      have hl' : ((a.length : Int) != (b.length : Int)) = false := bne_int_f (by omega)
      simp (decide := true) (maxSteps := 4000000) only [go_sem, Nat.reduceAdd, Nat.reduceSub, Nat.reduceMul, Nat.reduceDiv, Nat.reduceMod, Nat.reduceLT, Nat.reduceLeDiff, Nat.reduceEqDiff, Nat.reduceBEq, Nat.reduceBNe, Nat.reduceGT, Int.reduceAdd, Int.reduceSub, Int.reduceMul, Int.reduceNeg, Int.reduceLT, Int.reduceLE, Int.reduceEq, Int.reduceNe, Int.reduceBEq, Int.reduceBNe, Int.reduceToNat, Int.reduceGT, Int.reduceGE, ↓reduceIte, decide_true, decide_false, eq_self, Nat.mul_one, Nat.zero_mul, Nat.one_mul, Int.le_refl, Nat.le_refl, Int.cast_ofNat_Int, Try.f18, hl']
      refine pwpC_loopU (A := { k : Nat // a.take k = b.take k ∧ k ≤ a.length }) [0, 1] (fun k => [(5, .t (.int .i64 k.1))]) (fun _ => []) (fun k => a.length - k.1) ⟨0, by simp⟩ (by decide) (fun _ => by rfl) ?_ fun Q1 hQ1 ⟨k, hk, hka⟩ I1 hI1 => ?_
      · simp (decide := true) (maxSteps := 4000000) only [go_sem, Nat.reduceAdd, Nat.reduceSub, Nat.reduceMul, Nat.reduceDiv, Nat.reduceMod, Nat.reduceLT, Nat.reduceLeDiff, Nat.reduceEqDiff, Nat.reduceBEq, Nat.reduceBNe, Nat.reduceGT, Int.reduceAdd, Int.reduceSub, Int.reduceMul, Int.reduceNeg, Int.reduceLT, Int.reduceLE, Int.reduceEq, Int.reduceNe, Int.reduceBEq, Int.reduceBNe, Int.reduceToNat, Int.reduceGT, Int.reduceGE, ↓reduceIte, decide_true, decide_false, eq_self, Nat.mul_one, Nat.zero_mul, Nat.one_mul, Int.le_refl, Nat.le_refl, Int.cast_ofNat_Int]
      · by_cases hlt : (k : Int) < a.length
        · have hltb : (k : Int) < b.length := by omega
          obtain ⟨x, hx⟩ := get_lt hlt
          obtain ⟨y, hy⟩ := get_lt hltb
          have d1 := flat_at Span.cs (n := 2) (fun _ => rfl) hx
          have d2 := flat_at Span.cs (n := 2) (fun _ => rfl) hy
          have hc1 : IntKind.i64.wrap (k + 1) = ((k + 1 : Nat) : Int) := by rw [wrap_in (by omega) (by omega)]; omega
          obtain ⟨x0, x1⟩ := x
          obtain ⟨y0, y1⟩ := y
          by_cases hxy : x0 = y0 ∧ x1 = y1
          · obtain ⟨rfl, rfl⟩ := hxy
            simp (decide := true) (maxSteps := 4000000) only [go_sem, Nat.reduceAdd, Nat.reduceSub, Nat.reduceMul, Nat.reduceDiv, Nat.reduceMod, Nat.reduceLT, Nat.reduceLeDiff, Nat.reduceEqDiff, Nat.reduceBEq, Nat.reduceBNe, Nat.reduceGT, Int.reduceAdd, Int.reduceSub, Int.reduceMul, Int.reduceNeg, Int.reduceLT, Int.reduceLE, Int.reduceEq, Int.reduceNe, Int.reduceBEq, Int.reduceBNe, Int.reduceToNat, Int.reduceGT, Int.reduceGE, ↓reduceIte, decide_true, decide_false, eq_self, Nat.mul_one, Nat.zero_mul, Nat.one_mul, Int.le_refl, Nat.le_refl, Int.cast_ofNat_Int, hlt, hltb, d1, d2, Span.cs, beq_self_eq_true]
            refine hI1 _ ⟨k + 1, by rw [take_snoc hx, take_snoc hy, hk], by omega⟩ (by simp only; omega) ?_
            simp (decide := true) (maxSteps := 4000000) only [go_sem, Nat.reduceAdd, Nat.reduceSub, Nat.reduceMul, Nat.reduceDiv, Nat.reduceMod, Nat.reduceLT, Nat.reduceLeDiff, Nat.reduceEqDiff, Nat.reduceBEq, Nat.reduceBNe, Nat.reduceGT, Int.reduceAdd, Int.reduceSub, Int.reduceMul, Int.reduceNeg, Int.reduceLT, Int.reduceLE, Int.reduceEq, Int.reduceNe, Int.reduceBEq, Int.reduceBNe, Int.reduceToNat, Int.reduceGT, Int.reduceGE, ↓reduceIte, decide_true, decide_false, eq_self, Nat.mul_one, Nat.zero_mul, Nat.one_mul, Int.le_refl, Nat.le_refl, Int.cast_ofNat_Int, hc1]
          · have hb : (x0 == y0 && x1 == y1) = false := by simpa using hxy
            simp (decide := true) (maxSteps := 4000000) only [go_sem, Nat.reduceAdd, Nat.reduceSub, Nat.reduceMul, Nat.reduceDiv, Nat.reduceMod, Nat.reduceLT, Nat.reduceLeDiff, Nat.reduceEqDiff, Nat.reduceBEq, Nat.reduceBNe, Nat.reduceGT, Int.reduceAdd, Int.reduceSub, Int.reduceMul, Int.reduceNeg, Int.reduceLT, Int.reduceLE, Int.reduceEq, Int.reduceNe, Int.reduceBEq, Int.reduceBNe, Int.reduceToNat, Int.reduceGT, Int.reduceGE, ↓reduceIte, decide_true, decide_false, eq_self, Nat.mul_one, Nat.zero_mul, Nat.one_mul, Int.le_refl, Nat.le_refl, Int.cast_ofNat_Int, hlt, hltb, d1, d2, Span.cs, hb]
            refine hQ1 _ _ ?_
            have : decide (a = b) = false := by
              rw [decide_eq_false_iff_not]
              rintro rfl
              rw [hx] at hy; cases hy; exact hxy ⟨rfl, rfl⟩
            simp (decide := true) (maxSteps := 4000000) only [go_sem, Nat.reduceAdd, Nat.reduceSub, Nat.reduceMul, Nat.reduceDiv, Nat.reduceMod, Nat.reduceLT, Nat.reduceLeDiff, Nat.reduceEqDiff, Nat.reduceBEq, Nat.reduceBNe, Nat.reduceGT, Int.reduceAdd, Int.reduceSub, Int.reduceMul, Int.reduceNeg, Int.reduceLT, Int.reduceLE, Int.reduceEq, Int.reduceNe, Int.reduceBEq, Int.reduceBNe, Int.reduceToNat, Int.reduceGT, Int.reduceGE, ↓reduceIte, decide_true, decide_false, eq_self, Nat.mul_one, Nat.zero_mul, Nat.one_mul, Int.le_refl, Nat.le_refl, Int.cast_ofNat_Int, this]
        · have hke : k = a.length := by omega
          subst hke
          simp (decide := true) (maxSteps := 4000000) only [go_sem, Nat.reduceAdd, Nat.reduceSub, Nat.reduceMul, Nat.reduceDiv, Nat.reduceMod, Nat.reduceLT, Nat.reduceLeDiff, Nat.reduceEqDiff, Nat.reduceBEq, Nat.reduceBNe, Nat.reduceGT, Int.reduceAdd, Int.reduceSub, Int.reduceMul, Int.reduceNeg, Int.reduceLT, Int.reduceLE, Int.reduceEq, Int.reduceNe, Int.reduceBEq, Int.reduceBNe, Int.reduceToNat, Int.reduceGT, Int.reduceGE, ↓reduceIte, decide_true, decide_false, eq_self, Nat.mul_one, Nat.zero_mul, Nat.one_mul, Int.le_refl, Nat.le_refl, Int.cast_ofNat_Int, hlt]
          refine hQ1 _ _ ?_
          have : decide (a = b) = true := by
            rw [decide_eq_true_eq]
            rwa [List.take_length, List.take_of_length_le (by omega)] at hk
          simp (decide := true) (maxSteps := 4000000) only [go_sem, Nat.reduceAdd, Nat.reduceSub, Nat.reduceMul, Nat.reduceDiv, Nat.reduceMod, Nat.reduceLT, Nat.reduceLeDiff, Nat.reduceEqDiff, Nat.reduceBEq, Nat.reduceBNe, Nat.reduceGT, Int.reduceAdd, Int.reduceSub, Int.reduceMul, Int.reduceNeg, Int.reduceLT, Int.reduceLE, Int.reduceEq, Int.reduceNe, Int.reduceBEq, Int.reduceBNe, Int.reduceToNat, Int.reduceGT, Int.reduceGE, ↓reduceIte, decide_true, decide_false, eq_self, Nat.mul_one, Nat.zero_mul, Nat.one_mul, Int.le_refl, Nat.le_refl, Int.cast_ofNat_Int, this]
  · have hl' : ((a.length : Int) != (b.length : Int)) = true := bne_int_t (by omega)
    have hd : decide (a = b) = false := by
      rw [decide_eq_false_iff_not]
      rintro rfl; exact hl rfl
    rcases hs with ⟨rfl, rfl⟩ | ⟨f1, rfl⟩ <;> rcases ht with ⟨rfl, rfl⟩ | ⟨f2, rfl⟩
    · exact absurd rfl hl
    all_goals
      try simp only [List.length_nil, Int.cast_ofNat_Int] at hl'
      simp (decide := true) (maxSteps := 4000000) only [go_sem, Nat.reduceAdd, Nat.reduceSub, Nat.reduceMul, Nat.reduceDiv, Nat.reduceMod, Nat.reduceLT, Nat.reduceLeDiff, Nat.reduceEqDiff, Nat.reduceBEq, Nat.reduceBNe, Nat.reduceGT, Int.reduceAdd, Int.reduceSub, Int.reduceMul, Int.reduceNeg, Int.reduceLT, Int.reduceLE, Int.reduceEq, Int.reduceNe, Int.reduceBEq, Int.reduceBNe, Int.reduceToNat, Int.reduceGT, Int.reduceGE, ↓reduceIte, decide_true, decide_false, eq_self, Nat.mul_one, Nat.zero_mul, Nat.one_mul, Int.le_refl, Nat.le_refl, Int.cast_ofNat_Int, Try.f18, hl', hd]
noncomputable def hgSameSpans : List TV → Option TV
  | [s, t] => match rowL unS s, rowL unS t with
    | some a, some b => if a.length ≤ 9223372036854775806 then some (.bool (decide (a = b))) else none
    | _, _ => none
  | _ => none
theorem hgSameSpans_ok : ∀ xs r, hgSameSpans xs = some r → PCalls Try.prog 18 xs r := by
  intro xs r h
  unfold hgSameSpans at h
  split at h
  · split at h
    · rename_i a b ha hb
      split at h
      · rename_i hc; cases h
        exact hSameSpans_c (rowL_some (un := unS) unS_nil (@unS_some) ha) (rowL_some (un := unS) unS_nil (@unS_some) hb) hc
      · cases h
    · cases h
  · cases h
noncomputable def spH12 : Pm.Spec := spH11.one 18 hgSameSpans
theorem spH12_ok : SpecOk Try.prog spH12 := Spec.one_ok hgSameSpans_ok spH11_ok
attribute [go_sem] hgSameSpans
@[go_sem] theorem spH12_p (f : FuncId) (xs : List TV) : spH12.p f xs = Pm.Spec.p (spH11.one 18 hgSameSpans) f xs := rfl
@[go_sem] theorem spH12_h (f : FuncId) (ps : List PV) (hl : List PO) : spH12.h f ps hl = Pm.Spec.h (spH11.one 18 hgSameSpans) f ps hl := rfl
@[go_sem] theorem spH12_y (Y : Pm.YS) (f : FuncId) (ps : List PV) (hl : List PO) : spH12.y Y f ps hl = Pm.Spec.y (spH11.one 18 hgSameSpans) Y f ps hl := rfl
@[go_sem] theorem spH12_fz (f : FuncId) : spH12.fz f = Pm.Spec.fz (spH11.one 18 hgSameSpans) f := rfl
@[go_sem] theorem spH12_fr (f : FuncId) : spH12.fr f = Pm.Spec.fr (spH11.one 18 hgSameSpans) f := rfl
@[go_sem] theorem spH12_yf (f : FuncId) : spH12.yf f = Pm.Spec.yf (spH11.one 18 hgSameSpans) f := rfl
@[go_sem] theorem spH12_mu (t : TypeId) : spH12.mu t = Pm.Spec.mu (spH11.one 18 hgSameSpans) t := rfl
@[go_sem] theorem spH12_nf (t : TypeId) : spH12.nf t = Pm.Spec.nf (spH11.one 18 hgSameSpans) t := rfl
theorem hPick_c {l : List Int} {s : TV} (hs : IsRow ic s l) (hl : l.length ≤ 9223372036854775806) (n : Int) : PCalls Try.prog 26 [s, .int .i64 n] (.int .i64 (pickI l n)) := by
  have hI := rowI_is hs
  refine pcalls_by Try.mixes spH12_ok (fn := Try.f26) Try.func26 rfl (by kernel_rfl) (by show 2 ≤ _; decide) ?_
  unfold pickI
  by_cases h0 : l.length = 0
  · have h0' : ((l.length : Int) == 0) = true := beq_int_t (by omega)
    rcases hs with ⟨rfl, rfl⟩ | ⟨full, rfl⟩ <;> simp (decide := true) (maxSteps := 4000000) only [go_sem, Nat.reduceAdd, Nat.reduceSub, Nat.reduceMul, Nat.reduceDiv, Nat.reduceMod, Nat.reduceLT, Nat.reduceLeDiff, Nat.reduceEqDiff, Nat.reduceBEq, Nat.reduceBNe, Nat.reduceGT, Int.reduceAdd, Int.reduceSub, Int.reduceMul, Int.reduceNeg, Int.reduceLT, Int.reduceLE, Int.reduceEq, Int.reduceNe, Int.reduceBEq, Int.reduceBNe, Int.reduceToNat, Int.reduceGT, Int.reduceGE, ↓reduceIte, decide_true, decide_false, eq_self, Nat.mul_one, Nat.zero_mul, Nat.one_mul, Int.le_refl, Nat.le_refl, Int.cast_ofNat_Int, Try.f26, h0, h0', List.length_nil]
  · have h0' : ((l.length : Int) == 0) = false := beq_int_f (by omega)
    obtain ⟨full, rfl⟩ := hs.ne (by omega)
    have hc : 0 < (l.length : Int) ∧ (l.length : Int) ≤ 9223372036854775807 := by omega
    have m1 := Int.emod_nonneg n (show (l.length : Int) ≠ 0 by omega)
    have m2 := Int.emod_lt_of_pos n (show 0 < (l.length : Int) by omega)
    obtain ⟨k, hk⟩ := Int.eq_ofNat_of_zero_le m1
    rw [hk] at m2
    obtain ⟨x, hx⟩ := get_lt m2
    have d := flat_at ic (n := 1) (fun _ => rfl) hx
    rw [Nat.mul_one] at d
    simp (decide := true) (maxSteps := 4000000) only [go_sem, Nat.reduceAdd, Nat.reduceSub, Nat.reduceMul, Nat.reduceDiv, Nat.reduceMod, Nat.reduceLT, Nat.reduceLeDiff, Nat.reduceEqDiff, Nat.reduceBEq, Nat.reduceBNe, Nat.reduceGT, Int.reduceAdd, Int.reduceSub, Int.reduceMul, Int.reduceNeg, Int.reduceLT, Int.reduceLE, Int.reduceEq, Int.reduceNe, Int.reduceBEq, Int.reduceBNe, Int.reduceToNat, Int.reduceGT, Int.reduceGE, ↓reduceIte, decide_true, decide_false, eq_self, Nat.mul_one, Nat.zero_mul, Nat.one_mul, Int.le_refl, Nat.le_refl, Int.cast_ofNat_Int, Try.f26, h0, h0', hc, hk, m2, d, ic, Int.toNat_natCast, nth_eq hx]
noncomputable def hgPick : List TV → Option TV
  | [s, .int .i64 n] => match rowL unI s with
    | some l => if l.length ≤ 9223372036854775806 then some (.int .i64 (pickI l n)) else none
    | none => none
  | _ => none
theorem hgPick_ok : ∀ xs r, hgPick xs = some r → PCalls Try.prog 26 xs r := by
  intro xs r h
  unfold hgPick at h
  split at h
  · split at h
    · rename_i l hl
      split at h
      · rename_i hc; cases h
        exact hPick_c (rowL_some (un := unI) unI_nil (@unI_some) hl) hc _
      · cases h
    · cases h
  · cases h
noncomputable def spH13 : Pm.Spec := spH12.one 26 hgPick
theorem spH13_ok : SpecOk Try.prog spH13 := Spec.one_ok hgPick_ok spH12_ok
attribute [go_sem] hgPick
@[go_sem] theorem spH13_p (f : FuncId) (xs : List TV) : spH13.p f xs = Pm.Spec.p (spH12.one 26 hgPick) f xs := rfl
@[go_sem] theorem spH13_h (f : FuncId) (ps : List PV) (hl : List PO) : spH13.h f ps hl = Pm.Spec.h (spH12.one 26 hgPick) f ps hl := rfl
@[go_sem] theorem spH13_y (Y : Pm.YS) (f : FuncId) (ps : List PV) (hl : List PO) : spH13.y Y f ps hl = Pm.Spec.y (spH12.one 26 hgPick) Y f ps hl := rfl
@[go_sem] theorem spH13_fz (f : FuncId) : spH13.fz f = Pm.Spec.fz (spH12.one 26 hgPick) f := rfl
@[go_sem] theorem spH13_fr (f : FuncId) : spH13.fr f = Pm.Spec.fr (spH12.one 26 hgPick) f := rfl
@[go_sem] theorem spH13_yf (f : FuncId) : spH13.yf f = Pm.Spec.yf (spH12.one 26 hgPick) f := rfl
@[go_sem] theorem spH13_mu (t : TypeId) : spH13.mu t = Pm.Spec.mu (spH12.one 26 hgPick) t := rfl
@[go_sem] theorem spH13_nf (t : TypeId) : spH13.nf t = Pm.Spec.nf (spH12.one 26 hgPick) t := rfl
noncomputable def spH14 : Pm.Spec := spH13
theorem spH14_ok : SpecOk Try.prog spH14 := spH13_ok
@[go_sem] theorem spH14_p (f : FuncId) (xs : List TV) : spH14.p f xs = Pm.Spec.p (spH13) f xs := rfl
@[go_sem] theorem spH14_h (f : FuncId) (ps : List PV) (hl : List PO) : spH14.h f ps hl = Pm.Spec.h (spH13) f ps hl := rfl
@[go_sem] theorem spH14_y (Y : Pm.YS) (f : FuncId) (ps : List PV) (hl : List PO) : spH14.y Y f ps hl = Pm.Spec.y (spH13) Y f ps hl := rfl
@[go_sem] theorem spH14_fz (f : FuncId) : spH14.fz f = Pm.Spec.fz (spH13) f := rfl
@[go_sem] theorem spH14_fr (f : FuncId) : spH14.fr f = Pm.Spec.fr (spH13) f := rfl
@[go_sem] theorem spH14_yf (f : FuncId) : spH14.yf f = Pm.Spec.yf (spH13) f := rfl
@[go_sem] theorem spH14_mu (t : TypeId) : spH14.mu t = Pm.Spec.mu (spH13) t := rfl
@[go_sem] theorem spH14_nf (t : TypeId) : spH14.nf t = Pm.Spec.nf (spH13) t := rfl
noncomputable def spH15 : Pm.Spec := spH14
theorem spH15_ok : SpecOk Try.prog spH15 := spH14_ok
@[go_sem] theorem spH15_p (f : FuncId) (xs : List TV) : spH15.p f xs = Pm.Spec.p (spH14) f xs := rfl
@[go_sem] theorem spH15_h (f : FuncId) (ps : List PV) (hl : List PO) : spH15.h f ps hl = Pm.Spec.h (spH14) f ps hl := rfl
@[go_sem] theorem spH15_y (Y : Pm.YS) (f : FuncId) (ps : List PV) (hl : List PO) : spH15.y Y f ps hl = Pm.Spec.y (spH14) Y f ps hl := rfl
@[go_sem] theorem spH15_fz (f : FuncId) : spH15.fz f = Pm.Spec.fz (spH14) f := rfl
@[go_sem] theorem spH15_fr (f : FuncId) : spH15.fr f = Pm.Spec.fr (spH14) f := rfl
@[go_sem] theorem spH15_yf (f : FuncId) : spH15.yf f = Pm.Spec.yf (spH14) f := rfl
@[go_sem] theorem spH15_mu (t : TypeId) : spH15.mu t = Pm.Spec.mu (spH14) t := rfl
@[go_sem] theorem spH15_nf (t : TypeId) : spH15.nf t = Pm.Spec.nf (spH14) t := rfl
noncomputable def spH16 : Pm.Spec := spH15
theorem spH16_ok : SpecOk Try.prog spH16 := spH15_ok
@[go_sem] theorem spH16_p (f : FuncId) (xs : List TV) : spH16.p f xs = Pm.Spec.p (spH15) f xs := rfl
@[go_sem] theorem spH16_h (f : FuncId) (ps : List PV) (hl : List PO) : spH16.h f ps hl = Pm.Spec.h (spH15) f ps hl := rfl
@[go_sem] theorem spH16_y (Y : Pm.YS) (f : FuncId) (ps : List PV) (hl : List PO) : spH16.y Y f ps hl = Pm.Spec.y (spH15) Y f ps hl := rfl
@[go_sem] theorem spH16_fz (f : FuncId) : spH16.fz f = Pm.Spec.fz (spH15) f := rfl
@[go_sem] theorem spH16_fr (f : FuncId) : spH16.fr f = Pm.Spec.fr (spH15) f := rfl
@[go_sem] theorem spH16_yf (f : FuncId) : spH16.yf f = Pm.Spec.yf (spH15) f := rfl
@[go_sem] theorem spH16_mu (t : TypeId) : spH16.mu t = Pm.Spec.mu (spH15) t := rfl
@[go_sem] theorem spH16_nf (t : TypeId) : spH16.nf t = Pm.Spec.nf (spH15) t := rfl
noncomputable def spH : Pm.Spec := spH16
@[go_sem] theorem spH_p (f : FuncId) (xs : List TV) : spH.p f xs = Pm.Spec.p (spH16) f xs := rfl
@[go_sem] theorem spH_h (f : FuncId) (ps : List PV) (hl : List PO) : spH.h f ps hl = Pm.Spec.h (spH16) f ps hl := rfl
@[go_sem] theorem spH_y (Y : Pm.YS) (f : FuncId) (ps : List PV) (hl : List PO) : spH.y Y f ps hl = Pm.Spec.y (spH16) Y f ps hl := rfl
@[go_sem] theorem spH_fz (f : FuncId) : spH.fz f = Pm.Spec.fz (spH16) f := rfl
@[go_sem] theorem spH_fr (f : FuncId) : spH.fr f = Pm.Spec.fr (spH16) f := rfl
@[go_sem] theorem spH_yf (f : FuncId) : spH.yf f = Pm.Spec.yf (spH16) f := rfl
@[go_sem] theorem spH_mu (t : TypeId) : spH.mu t = Pm.Spec.mu (spH16) t := rfl
@[go_sem] theorem spH_nf (t : TypeId) : spH.nf t = Pm.Spec.nf (spH16) t := rfl
theorem spH_ok : SpecOk Try.prog spH := spH16_ok
theorem noSpec_okH : SpecOk Try.prog noSpec := noSpec_ok
end Go.Proofs.Ytadkjjnnnkfalaa.Sx

/- Part Ibp. -/
namespace Go.Oc.Ix
end Go.Oc.Ix
namespace Go.Proofs.Ytadkjjnnnkfalaa.Ix
end Go.Proofs.Ytadkjjnnnkfalaa.Ix
namespace Go.Oc.Ix
open Go Go.Pm
def ic (n : Int) : List TV := [.int .i64 n]
theorem ic_ints (l : List Int) : l.flatMap ic = ints l := by
  induction l with
  | nil => rfl
  | cons x l ih => simp only [List.flatMap_cons, ih]; rfl
def unI : List TV → Option (List Int)
  | [] => some []
  | .int .i64 a :: r => (unI r).map (a :: ·)
  | _ => none
theorem unI_eq : ∀ l : List Int, unI (ints l) = some l
  | [] => rfl
  | x :: l => by
    show (unI (ints l)).map (x :: ·) = some (x :: l)
    rw [unI_eq l]; rfl
theorem unI_some : ∀ {cs : List TV} {l : List Int}, unI cs = some l → cs = l.flatMap ic := by
  intro cs
  induction cs using unI.induct with
  | case1 => intro l h; simp [unI] at h; subst h; rfl
  | case2 a r ih =>
    intro l h
    simp only [unI, Option.map_eq_some_iff] at h
    obtain ⟨l', h1, rfl⟩ := h
    rw [ih h1]; rfl
  | case3 r h1 h2 =>
    intro l h
    unfold unI at h
    split at h
    · exact absurd rfl h1
    · exact absurd rfl (h2 _ _)
    · cases h
attribute [go_sem] unI_eq

theorem before_end : ∀ {a b : List Int}, a = [] ∨ b = [] → before a b = decide (a.length < b.length)
  | [], [], _ => rfl
  | [], _ :: _, _ => by simp [before]
  | _ :: _, [], _ => by simp [before]
  | _ :: _, _ :: _, h => by rcases h with h | h <;> cases h
theorem rowL_is {α : Type} {un : List TV → Option (List α)} {c : α → List TV} (hu : ∀ l : List α, un (l.flatMap c) = some l) {s : TV} {l : List α} (h : IsRow c s l) : rowL un s = some l := by
  rcases h with ⟨rfl, rfl⟩ | ⟨full, rfl⟩
  · exact hu []
  · simp only [rowL, hu, if_true]
theorem rowI_is {s : TV} {l : List Int} (h : IsRow ic s l) : rowL unI s = some l := rowL_is (fun l => by rw [ic_ints]; exact unI_eq l) h
/-- A row as a function hands it back that appends to none. -/
def rowG {α : Type} (c : α → List TV) (l : List α) : TV := if l.length = 0 then .nilSl else .sl (l.flatMap c) l.length false
theorem rowG_is {α : Type} (c : α → List TV) (l : List α) : IsRow c (rowG c l) l := by
  unfold rowG
  split
  · rename_i h; exact .inl ⟨rfl, List.length_eq_zero_iff.1 h⟩
  · exact .inr ⟨_, rfl⟩
/-- .. with no room behind it. -/
def rowF {α : Type} (c : α → List TV) (l : List α) : TV := if l.length = 0 then .nilSl else .sl (l.flatMap c) l.length true
theorem rowF_is {α : Type} (c : α → List TV) (l : List α) : IsRow c (rowF c l) l := by
  unfold rowF
  split
  · rename_i h; exact .inl ⟨rfl, List.length_eq_zero_iff.1 h⟩
  · exact .inr ⟨_, rfl⟩
theorem flR_len {α : Type} (c : α → List TV) {n : Nat} (hc : ∀ x, (c x).length = n) (l : List α) : (l.flatMap c).length = l.length * n := flat_len c hc l
theorem mulB {a b A B : Int} (ha : 0 ≤ a) (hb : 0 ≤ b) (h1 : a ≤ A) (h2 : b ≤ B) : 0 ≤ a * b ∧ a * b ≤ A * B :=
  ⟨Int.mul_nonneg ha hb, Int.mul_le_mul h1 h2 hb (by omega)⟩
end Go.Oc.Ix

/- Part Ip. -/
namespace Go.Oc.Ix
end Go.Oc.Ix
namespace Go.Proofs.Ytadkjjnnnkfalaa.Ix
end Go.Proofs.Ytadkjjnnnkfalaa.Ix
namespace Go.Oc.Ix
open Go Go.Pm
set_option maxRecDepth 100000
set_option linter.unusedVariables false
/-- Heads. -/
def circOk : Int → List Int → Bool
  | _, [] => true
  | a, x :: l => inB x (a + 1) 200 && circOk x l
def headOk (t : Int) (l : List Int) : Bool := inB t 1 400 && (inB l.length 1 12 && circOk 1 l)
def nthI (l : List Int) (i : Int) : Int := l.getD i.toNat 0
theorem nthI_at {l : List Int} {k : Nat} {x : Int} (h : l[k]? = some x) : nthI l k = x := by
  unfold nthI; rw [Int.toNat_natCast, List.getD_eq_getElem?_getD, h]; rfl
theorem circ_mem : ∀ {a : Int} {l : List Int}, circOk a l = true → ∀ x ∈ l, a + 1 ≤ x ∧ x ≤ 200
  | a, [], _, x, hx => by cases hx
  | a, y :: l, h, x, hx => by
    simp only [circOk, Bool.and_eq_true, inB_iff] at h
    rcases List.mem_cons.1 hx with rfl | hx
    · exact h.1
    · have := circ_mem h.2 x hx; omega
theorem circ_lt : ∀ {a : Int} {l : List Int}, circOk a l = true → ∀ {i k : Nat} {x y : Int}, i < k → l[i]? = some x → l[k]? = some y → x < y
  | a, [], _, i, k, x, y, _, h, _ => by simp at h
  | a, z :: l, h, 0, k + 1, x, y, _, hx, hy => by
    simp only [circOk, Bool.and_eq_true, inB_iff] at h
    simp at hx hy; subst hx
    have := circ_mem h.2 y (List.mem_of_getElem? hy); omega
  | a, z :: l, h, i + 1, k + 1, x, y, hik, hx, hy => by
    simp only [circOk, Bool.and_eq_true] at h
    simp at hx hy
    exact circ_lt h.2 (by omega) hx hy
theorem headOk_iff {t : Int} {l : List Int} : headOk t l = true ↔ (1 ≤ t ∧ t ≤ 400) ∧ (1 ≤ l.length ∧ l.length ≤ 12) ∧ circOk 1 l = true := by
  simp only [headOk, Bool.and_eq_true, inB_iff]
  constructor
  · rintro ⟨a, b, c⟩; exact ⟨a, ⟨by omega, by omega⟩, c⟩
  · rintro ⟨a, b, c⟩; exact ⟨a, ⟨by omega, by omega⟩, c⟩
theorem head_at {t : Int} {l : List Int} (h : headOk t l = true) {k : Nat} {x : Int} (hx : l[k]? = some x) : 2 ≤ x ∧ x ≤ 200 := by
  have := circ_mem (headOk_iff.1 h).2.2 x (List.mem_of_getElem? hx); omega
/-- The loop over the circles, as the program goes: so far all is well, and the last one. -/
def circTo : Bool → Int → List Int → Bool
  | ok, _, [] => ok
  | ok, a, x :: l => circTo (ok && inB x (IntKind.i64.wrap (a + 1)) 200) x l
theorem circTo_false : ∀ (a : Int) (l : List Int), circTo false a l = false
  | _, [] => rfl
  | a, x :: l => by simp only [circTo, Bool.false_and]; exact circTo_false x l
theorem circTo_eq : ∀ {a : Int} {l : List Int} (ok : Bool), -9223372036854775808 ≤ a ∧ a ≤ 9223372036854775806 → circTo ok a l = (ok && circOk a l)
  | a, [], ok, _ => by simp [circTo, circOk]
  | a, x :: l, ok, h => by
    rw [circTo, wrap_in (by omega) (by omega)]
    cases hx : (ok && inB x (a + 1) 200) with
    | false =>
      rw [circTo_false, circOk, ← Bool.and_assoc, hx, Bool.false_and]
    | true =>
      simp only [Bool.and_eq_true, inB_iff] at hx
      rw [circTo_eq true ⟨by omega, by omega⟩, circOk]
      have : inB x (a + 1) 200 = true := inB_iff.2 hx.2
      rw [this, hx.1, Bool.true_and, Bool.true_and]

/-- Plans. -/
structure Pl where
  c : Int
  t : Int
  h : Int
  deriving DecidableEq
def Pl.cs (p : Pl) : List TV := [.int .i64 p.c, .int .i64 p.t, .int .i64 p.h]
def Pl.tv (p : Pl) : TV := .agg p.cs
def planAt (t h n i : Int) : Option Pl := if t * h % n = 0 then some ⟨i, t * h / n / h, t * h / n % h⟩ else none
def plansTo (t : Int) (l : List Int) (n : Int) (k : Nat) : List Pl := (List.range k).filterMap fun i : Nat => planAt t (nthI l i) n i
def plansP (t : Int) (l : List Int) (n : Int) : List Pl := plansTo t l n l.length
theorem plansTo_succ (t : Int) (l : List Int) (n : Int) (k : Nat) : plansTo t l n (k + 1) = plansTo t l n k ++ (planAt t (nthI l k) n k).toList := by
  unfold plansTo
  rw [List.range_succ, List.filterMap_append]
  simp only [List.filterMap_cons, List.filterMap_nil]
  cases planAt t (nthI l k) n k <;> rfl
theorem plansTo_len (t : Int) (l : List Int) (n : Int) (k : Nat) : (plansTo t l n k).length ≤ k := by
  unfold plansTo
  have := List.length_filterMap_le (fun i : Nat => planAt t (nthI l i) n i) (List.range k)
  simpa using this
def plansE (t : Int) (l : List Int) (n : Int) : List Pl × Int :=
  if headOk t l = false then ([], 10) else if inB n 1 20000 = false then ([], 11) else if (plansP t l n).length = 0 then ([], 4) else (plansP t l n, 0)
/-- What a plan that closes is. -/
theorem plan_spec {t h n i : Int} {p : Pl} (hn : 0 < n) (hh : 0 < h) (hp : planAt t h n i = some p) : p.c = i ∧ 0 ≤ p.h ∧ p.h < h ∧ n * (p.t * h + p.h) = t * h := by
  unfold planAt at hp
  split at hp
  · rename_i e
    cases hp
    have h1 := Int.mul_ediv_add_emod (t * h) n
    have h2 := Int.mul_ediv_add_emod (t * h / n) h
    have h3 := Int.emod_nonneg (t * h / n) (show h ≠ 0 by omega)
    have h4 := Int.emod_lt_of_pos (t * h / n) hh
    refine ⟨rfl, h3, h4, ?_⟩
    simp only
    rw [Int.mul_comm (t * h / n / h) h, h2]
    omega
  · cases hp

/-- Compound plans. -/
structure Pr where
  a : Int
  b : Int
  x : Int
  y : Int
  deriving DecidableEq
def Pr.cs (p : Pr) : List TV := [.int .i64 p.a, .int .i64 p.b, .int .i64 p.x, .int .i64 p.y]
def Pr.tv (p : Pr) : TV := .agg p.cs
def holP (p : Pr) : Int := max p.x (-p.x) + max p.y (-p.y)
/-- Of the compound plans of two circles (with a and b holes): the one that moves x holes on the first one. -/
def prAt (t a b n i k x : Int) : Option Pr :=
  if t * a * b % n = 0 ∧ (t * a * b / n - x * b) % a = 0 ∧ inB ((t * a * b / n - x * b) / a) (-2000) 2000 = true then some ⟨i, k, x, (t * a * b / n - x * b) / a⟩ else none
def prsTo (t a b n i k : Int) (m : Nat) : List Pr := (List.range m).filterMap fun j : Nat => prAt t a b n i k ((j : Int) - 2000)
def prsP (t a b n i k : Int) : List Pr := prsTo t a b n i k 4001
theorem prsTo_succ (t a b n i k : Int) (m : Nat) : prsTo t a b n i k (m + 1) = prsTo t a b n i k m ++ (prAt t a b n i k ((m : Int) - 2000)).toList := by
  unfold prsTo
  rw [List.range_succ, List.filterMap_append]
  simp only [List.filterMap_cons, List.filterMap_nil]
  cases prAt t a b n i k ((m : Int) - 2000) <;> rfl
theorem prsTo_len (t a b n i k : Int) (m : Nat) : (prsTo t a b n i k m).length ≤ m := by
  unfold prsTo
  have := List.length_filterMap_le (fun j : Nat => prAt t a b n i k ((j : Int) - 2000)) (List.range m)
  simpa using this
/-- The first one of the best of a list. -/
def minS (o : Option Pr) (p : Pr) : Option Pr := match o with
  | none => some p
  | some q => if holP p < holP q then some p else some q
def minL (l : List Pr) : Option Pr := l.foldl minS none
theorem minL_snoc (l : List Pr) (p : Pr) : minL (l ++ [p]) = minS (minL l) p := by unfold minL; rw [List.foldl_append]; rfl
theorem snocInd {α : Type} {P : List α → Prop} (h0 : P []) (h1 : ∀ l a, P l → P (l ++ [a])) (l : List α) : P l := by
  have : ∀ l : List α, P l.reverse := by
    intro l
    induction l with
    | nil => exact h0
    | cons a l ih => rw [List.reverse_cons]; exact h1 _ _ ih
  have h := this l.reverse
  rwa [List.reverse_reverse] at h
theorem minL_none : ∀ l : List Pr, minL l = none ↔ l = [] := by
  intro l
  refine snocInd (P := fun l => minL l = none ↔ l = []) (by simp [minL]) (fun l p ih => ?_) l
  rw [minL_snoc]
  unfold minS
  split
  · simp
  · split <;> simp
theorem minL_some {R : Pr → Pr → Prop} : ∀ {l : List Pr} {r : Pr}, l.Pairwise R → minL l = some r → r ∈ l ∧ ∀ c ∈ l, holP r < holP c ∨ holP r = holP c ∧ (r = c ∨ R r c) := by
  intro l
  refine snocInd (P := fun l => ∀ {r : Pr}, l.Pairwise R → minL l = some r → r ∈ l ∧ ∀ c ∈ l, holP r < holP c ∨ holP r = holP c ∧ (r = c ∨ R r c)) (fun _ h => by simp [minL] at h) (fun l p ih => ?_) l
  · intro r hR h
    rw [List.pairwise_append] at hR
    obtain ⟨h1, _, h3⟩ := hR
    rw [minL_snoc] at h
    unfold minS at h
    split at h
    · rename_i e
      cases h
      rw [minL_none] at e
      subst e
      refine ⟨by simp, fun c hc => ?_⟩
      simp at hc; subst hc; exact .inr ⟨rfl, .inl rfl⟩
    · rename_i q e
      obtain ⟨hq, hm⟩ := ih h1 e
      split at h
      · rename_i hlt
        cases h
        refine ⟨by simp, fun c hc => ?_⟩
        rcases List.mem_append.1 hc with hc | hc
        · rcases hm c hc with h | ⟨h, _⟩
          · left; omega
          · left; omega
        · simp at hc; subst hc; exact .inr ⟨rfl, .inl rfl⟩
      · rename_i hlt
        cases h
        refine ⟨by simp [hq], fun c hc => ?_⟩
        rcases List.mem_append.1 hc with hc | hc
        · exact hm c hc
        · simp at hc; subst hc
          by_cases he : holP r = holP c
          · exact .inr ⟨he, .inr (h3 r hq c (by simp))⟩
          · left; omega
/-- All compound plans, as the specification goes: by A, then by B, then by X. -/
def candK (t : Int) (l : List Int) (n : Int) (i k : Nat) : List Pr := prsP t (nthI l i) (nthI l k) n i k
def candI (t : Int) (l : List Int) (n : Int) (i m : Nat) : List Pr := (List.range' (i + 1) m).flatMap fun k => candK t l n i k
def cands (t : Int) (l : List Int) (n : Int) (m : Nat) : List Pr := (List.range m).flatMap fun i => candI t l n i (l.length - (i + 1))
def compP (t : Int) (l : List Int) (n : Int) : Option Pr := minL (cands t l n l.length)
def compE (t : Int) (l : List Int) (n : Int) : Pr × Int :=
  if headOk t l = false then (⟨0, 0, 0, 0⟩, 10) else if inB n 1 20000 = false then (⟨0, 0, 0, 0⟩, 11) else match compP t l n with
    | none => (⟨0, 0, 0, 0⟩, 4)
    | some p => (p, 0)
def befP (p q : Pr) : Prop := p.a < q.a ∨ p.a = q.a ∧ (p.b < q.b ∨ p.b = q.b ∧ p.x < q.x)
theorem prAt_eq {t a b n i k x : Int} {p : Pr} (h : prAt t a b n i k x = some p) : p.a = i ∧ p.b = k ∧ p.x = x ∧ t * a * b % n = 0 ∧ (t * a * b / n - x * b) % a = 0 ∧ p.y = (t * a * b / n - x * b) / a ∧ -2000 ≤ p.y ∧ p.y ≤ 2000 := by
  unfold prAt at h
  split at h
  · rename_i hc; cases h
    have := inB_iff.1 hc.2.2
    exact ⟨rfl, rfl, rfl, hc.1, hc.2.1, rfl, this.1, this.2⟩
  · cases h
theorem prsTo_mem {t a b n i k : Int} {m : Nat} {p : Pr} : p ∈ prsTo t a b n i k m ↔ ∃ j : Nat, j < m ∧ prAt t a b n i k ((j : Int) - 2000) = some p := by
  unfold prsTo
  rw [List.mem_filterMap]
  simp only [List.mem_range]
theorem prsTo_pw (t a b n i k : Int) (m : Nat) : (prsTo t a b n i k m).Pairwise fun p q => p.a = i ∧ q.a = i ∧ p.b = k ∧ q.b = k ∧ p.x < q.x := by
  unfold prsTo
  rw [List.pairwise_filterMap]
  refine List.Pairwise.imp ?_ List.pairwise_lt_range
  intro c d hcd p hp q hq
  have h1 := prAt_eq hp
  have h2 := prAt_eq hq
  refine ⟨h1.1, h2.1, h1.2.1, h2.2.1, ?_⟩
  rw [h1.2.2.1, h2.2.2.1]; omega
theorem candI_pw (t : Int) (l : List Int) (n : Int) (i m : Nat) : (candI t l n i m).Pairwise fun p q => p.a = (i : Int) ∧ q.a = (i : Int) ∧ (p.b < q.b ∨ p.b = q.b ∧ p.x < q.x) := by
  unfold candI
  rw [List.pairwise_flatMap]
  refine ⟨fun k _ => (prsTo_pw ..).imp fun h => ⟨h.1, h.2.1, .inr ⟨h.2.2.1.trans h.2.2.2.1.symm, h.2.2.2.2⟩⟩, ?_⟩
  refine List.Pairwise.imp ?_ List.pairwise_lt_range'
  intro c d hcd p hp q hq
  obtain ⟨j1, _, h1⟩ := prsTo_mem.1 hp
  obtain ⟨j2, _, h2⟩ := prsTo_mem.1 hq
  have h1 := prAt_eq h1
  have h2 := prAt_eq h2
  exact ⟨h1.1, h2.1, .inl (by rw [h1.2.1, h2.2.1]; omega)⟩
theorem candI_mem {t : Int} {l : List Int} {n : Int} {i m : Nat} {p : Pr} : p ∈ candI t l n i m ↔ ∃ k j : Nat, i < k ∧ k < i + 1 + m ∧ j < 4001 ∧ prAt t (nthI l i) (nthI l k) n i k ((j : Int) - 2000) = some p := by
  unfold candI
  rw [List.mem_flatMap]
  constructor
  · rintro ⟨k, hk, h⟩
    rw [List.mem_range'_1] at hk
    obtain ⟨j, h1, h2⟩ := prsTo_mem.1 h
    exact ⟨k, j, by omega, by omega, h1, h2⟩
  · rintro ⟨k, j, h1, h2, h3, h4⟩
    exact ⟨k, List.mem_range'_1.2 (by omega), prsTo_mem.2 ⟨j, h3, h4⟩⟩
theorem cands_pw (t : Int) (l : List Int) (n : Int) (m : Nat) : (cands t l n m).Pairwise befP := by
  unfold cands
  rw [List.pairwise_flatMap]
  refine ⟨fun i _ => (candI_pw ..).imp fun h => .inr ⟨h.1.trans h.2.1.symm, h.2.2⟩, ?_⟩
  refine List.Pairwise.imp ?_ List.pairwise_lt_range
  intro c d hcd p hp q hq
  obtain ⟨k1, j1, _, _, _, h1⟩ := candI_mem.1 hp
  obtain ⟨k2, j2, _, _, _, h2⟩ := candI_mem.1 hq
  have h1 := prAt_eq h1
  have h2 := prAt_eq h2
  left; rw [h1.1, h2.1]; omega
theorem cands_mem {t : Int} {l : List Int} {n : Int} {p : Pr} : p ∈ cands t l n l.length ↔ ∃ i k j : Nat, i < k ∧ k < l.length ∧ j < 4001 ∧ prAt t (nthI l i) (nthI l k) n i k ((j : Int) - 2000) = some p := by
  unfold cands
  rw [List.mem_flatMap]
  constructor
  · rintro ⟨i, hi, h⟩
    rw [List.mem_range] at hi
    obtain ⟨k, j, h1, h2, h3, h4⟩ := candI_mem.1 h
    exact ⟨i, k, j, h1, by omega, h3, h4⟩
  · rintro ⟨i, k, j, h1, h2, h3, h4⟩
    exact ⟨i, List.mem_range.2 (by omega), candI_mem.2 ⟨k, j, h1, by omega, h3, h4⟩⟩
/-- Which one it is. -/
theorem compP_some {t : Int} {l : List Int} {n : Int} {r : Pr} (h : compP t l n = some r) : r ∈ cands t l n l.length ∧ ∀ c ∈ cands t l n l.length, holP r < holP c ∨ holP r = holP c ∧ (r = c ∨ befP r c) := minL_some (cands_pw ..) h
theorem compP_none {t : Int} {l : List Int} {n : Int} : compP t l n = none ↔ cands t l n l.length = [] := minL_none _

/-- The best of a list, as the program finds it: by what is better. -/
def bestS (f : Pr → Pr → Bool) (o : Option Pr) (p : Pr) : Option Pr := match o with
  | none => some p
  | some q => if f p q then some p else some q
def bestF (f : Pr → Pr → Bool) (l : List Pr) : Option Pr := l.foldl (bestS f) none
theorem bestF_snoc (f : Pr → Pr → Bool) (l : List Pr) (p : Pr) : bestF f (l ++ [p]) = bestS f (bestF f l) p := by unfold bestF; rw [List.foldl_append]; rfl
def lessH (p q : Pr) : Bool := decide (holP p < holP q)
theorem bestF_min (l : List Pr) : bestF lessH l = minL l := by
  unfold bestF minL
  congr 1
  funext o p
  cases o with
  | none => rfl
  | some q => simp [bestS, minS, lessH]
def lessB (p q : Pr) : Bool := if holP p ≠ holP q then decide (holP p < holP q) else decide (p.a < q.a) || p.a == q.a && decide (p.b < q.b)
theorem lessB_iff {p q : Pr} : lessB p q = true ↔ holP p < holP q ∨ holP p = holP q ∧ (p.a < q.a ∨ p.a = q.a ∧ p.b < q.b) := by
  unfold lessB
  split
  · rename_i h; rw [decide_eq_true_eq]; constructor
    · exact fun h => .inl h
    · rintro (h' | ⟨h', _⟩)
      · exact h'
      · exact absurd h' h
  · rename_i h
    have h : holP p = holP q := by omega
    simp only [Bool.or_eq_true, Bool.and_eq_true, decide_eq_true_eq, beq_iff_eq]
    omega
theorem bestB_none : ∀ l : List Pr, bestF lessB l = none ↔ l = [] := by
  intro l
  refine snocInd (P := fun l => bestF lessB l = none ↔ l = []) (by simp [bestF]) (fun l p ih => ?_) l
  rw [bestF_snoc]
  unfold bestS
  split
  · simp
  · split <;> simp
theorem bestB_some : ∀ {l : List Pr} {r : Pr}, bestF lessB l = some r → r ∈ l ∧ ∀ c ∈ l, lessB c r = false := by
  intro l
  refine snocInd (P := fun l => ∀ {r : Pr}, bestF lessB l = some r → r ∈ l ∧ ∀ c ∈ l, lessB c r = false) (fun h => by simp [bestF] at h) (fun l p ih => ?_) l
  · intro r h
    rw [bestF_snoc] at h
    unfold bestS at h
    have irr : ∀ p : Pr, lessB p p = false := fun p => by
      rw [Bool.eq_false_iff]; intro h; rw [lessB_iff] at h; omega
    split at h
    · rename_i e
      cases h
      rw [bestB_none] at e
      subst e
      refine ⟨by simp, fun c hc => ?_⟩
      simp at hc; subst hc; exact irr _
    · rename_i q e
      obtain ⟨hq, hm⟩ := ih e
      split at h
      · rename_i hlt
        cases h
        refine ⟨by simp, fun c hc => ?_⟩
        rcases List.mem_append.1 hc with hc | hc
        · have h1 := hm c hc
          rw [Bool.eq_false_iff] at h1 ⊢
          intro h2
          apply h1
          rw [lessB_iff] at *
          omega
        · simp at hc; subst hc; exact irr _
      · rename_i hlt
        cases h
        refine ⟨by simp [hq], fun c hc => ?_⟩
        rcases List.mem_append.1 hc with hc | hc
        · exact hm c hc
        · simp at hc; subst hc
          simpa using hlt
def allA (t : Int) (l : List Int) (n : Int) (b m : Nat) : List Pr := (List.range m).filterMap fun a => minL (candK t l n a b)
def allB (t : Int) (l : List Int) (n : Int) (m : Nat) : List Pr := (List.range m).flatMap fun b => allA t l n b b
theorem candK_mem {t : Int} {l : List Int} {n : Int} {i k : Nat} {p : Pr} : p ∈ candK t l n i k ↔ ∃ j : Nat, j < 4001 ∧ prAt t (nthI l i) (nthI l k) n i k ((j : Int) - 2000) = some p := prsTo_mem
theorem candK_some {t : Int} {l : List Int} {n : Int} {i k : Nat} {r : Pr} (h : minL (candK t l n i k) = some r) : (r ∈ candK t l n i k ∧ r.a = i ∧ r.b = k) ∧ ∀ c ∈ candK t l n i k, holP r < holP c ∨ holP r = holP c ∧ (r = c ∨ r.x < c.x) := by
  obtain ⟨h1, h2⟩ := minL_some (prsTo_pw ..) h
  obtain ⟨j, _, hj⟩ := candK_mem.1 h1
  have hj := prAt_eq hj
  refine ⟨⟨h1, hj.1, hj.2.1⟩, fun c hc => ?_⟩
  rcases h2 c hc with h | ⟨h, h' | h'⟩
  · exact .inl h
  · exact .inr ⟨h, .inl h'⟩
  · exact .inr ⟨h, .inr h'.2.2.2.2⟩
theorem allB_mem {t : Int} {l : List Int} {n : Int} {r : Pr} : r ∈ allB t l n l.length ↔ ∃ a b : Nat, a < b ∧ b < l.length ∧ minL (candK t l n a b) = some r := by
  unfold allB allA
  simp only [List.mem_flatMap, List.mem_filterMap, List.mem_range]
  constructor
  · rintro ⟨b, hb, a, ha, h⟩; exact ⟨a, b, ha, hb, h⟩
  · rintro ⟨a, b, ha, hb, h⟩; exact ⟨b, hb, a, ha, h⟩
theorem comp_prog (t : Int) (l : List Int) (n : Int) : bestF lessB (allB t l n l.length) = compP t l n := by
  have key : ∀ {a b : Nat} {p : Pr}, a < b → b < l.length → p ∈ candK t l n a b → p ∈ cands t l n l.length := fun h1 h2 h => by
    obtain ⟨j, h3, h4⟩ := candK_mem.1 h
    exact cands_mem.2 ⟨_, _, j, h1, h2, h3, h4⟩
  cases hc : compP t l n with
  | none =>
    rw [compP_none] at hc
    rw [bestB_none]
    rw [List.eq_nil_iff_forall_not_mem]
    intro r hr
    obtain ⟨a, b, h1, h2, h3⟩ := allB_mem.1 hr
    have := key h1 h2 (candK_some h3).1.1
    rw [hc] at this; cases this
  | some r' =>
    obtain ⟨m1, m2⟩ := compP_some hc
    obtain ⟨i, k, j, h1, h2, h3, h4⟩ := cands_mem.1 m1
    have hk : r' ∈ candK t l n i k := candK_mem.2 ⟨j, h3, h4⟩
    have h4 := prAt_eq h4
    cases hs : minL (candK t l n i k) with
    | none => rw [minL_none] at hs; rw [hs] at hk; cases hk
    | some s =>
      have hsA : s ∈ allB t l n l.length := allB_mem.2 ⟨i, k, h1, h2, hs⟩
      obtain ⟨⟨s1, s2, s3⟩, s4⟩ := candK_some hs
      cases hr : bestF lessB (allB t l n l.length) with
      | none => rw [bestB_none] at hr; rw [hr] at hsA; cases hsA
      | some r =>
        obtain ⟨r1, r2⟩ := bestB_some hr
        obtain ⟨a, b, g1, g2, g3⟩ := allB_mem.1 r1
        obtain ⟨⟨t1, t2, t3⟩, t4⟩ := candK_some g3
        have q1 := m2 r (key g1 g2 t1)
        have q2 := r2 s hsA
        rw [Bool.eq_false_iff, ne_eq, lessB_iff] at q2
        have q3 := s4 r' hk
        congr 1
        have e1 : holP r = holP r' := by omega
        have e2 : holP s = holP r := by omega
        have q4 : r' = r ∨ befP r' r := by
          rcases q1 with h | ⟨_, h⟩
          · omega
          · exact h
        rcases q4 with h | h
        · exact h.symm
        · exfalso
          unfold befP at h
          have e3 : r'.a = i := h4.1
          have e4 : r'.b = k := h4.2.1
          have ha : r'.a = r.a ∧ r'.b = r.b ∧ r'.x < r.x := by omega
          have hia : i = a := by omega
          have hkb : k = b := by omega
          subst hia; subst hkb
          rcases t4 r' hk with h' | ⟨_, h' | h'⟩
          · omega
          · rw [h'] at ha; omega
          · omega

/-- Lines. -/
def placeP (all n k : Int) : Int := if 2 * (k * all % n) ≤ n then k * all / n else k * all / n + 1
def wrongP (all n k : Int) : Int := placeP all n k * n - k * all
def absI (n : Int) : Int := max n (-n)
theorem place_spec {all n k : Int} (hn : 0 < n) : (placeP all n k = k * all / n ∧ wrongP all n k = -(k * all % n) ∧ 2 * (k * all % n) ≤ n) ∨ (placeP all n k = k * all / n + 1 ∧ wrongP all n k = n - k * all % n ∧ n < 2 * (k * all % n)) := by
  have h1 := Int.mul_ediv_add_emod (k * all) n
  unfold wrongP placeP
  generalize k * all / n = q at *
  generalize k * all % n = r at *
  generalize k * all = a at *
  split
  · left; refine ⟨rfl, ?_, by omega⟩
    rw [Int.mul_comm q n]; omega
  · right; refine ⟨rfl, ?_, by omega⟩
    rw [Int.add_mul, Int.mul_comm q n]; omega
theorem wrong_bound {all n k : Int} (hn : 0 < n) : -n ≤ wrongP all n k ∧ wrongP all n k ≤ n := by
  have h1 := Int.emod_nonneg (k * all) (show n ≠ 0 by omega)
  have h2 := Int.emod_lt_of_pos (k * all) hn
  rcases place_spec (all := all) (k := k) hn with ⟨_, h, _⟩ | ⟨_, h, _⟩ <;> rw [h] <;> omega
theorem line_place {all n k : Int} (hn : 0 < n) (h0 : 0 ≤ k * all) : (2 * k * all - n + 2 * n - 1).tdiv (2 * n) = placeP all n k := by
  have h1 := Int.mul_ediv_add_emod (k * all) n
  have h2 := Int.emod_nonneg (k * all) (show n ≠ 0 by omega)
  have h3 := Int.emod_lt_of_pos (k * all) hn
  rw [Int.mul_assoc 2 k all, Int.tdiv_eq_ediv_of_nonneg (by omega)]
  unfold placeP
  generalize k * all / n = q at *
  generalize k * all % n = r at *
  generalize k * all = a at *
  subst h1
  split
  · have e : 2 * (n * q + r) - n + 2 * n - 1 = (2 * r + n - 1) + q * (2 * n) := by
      rw [Int.mul_comm q (2 * n), Int.mul_assoc]; omega
    rw [e, Int.add_mul_ediv_right _ _ (by omega), Int.ediv_eq_zero_of_lt (by omega) (by omega)]; omega
  · have e : 2 * (n * q + r) - n + 2 * n - 1 = (2 * r - n - 1) + (q + 1) * (2 * n) := by
      rw [Int.add_mul, Int.mul_comm q (2 * n), Int.mul_assoc]; omega
    rw [e, Int.add_mul_ediv_right _ _ (by omega), Int.ediv_eq_zero_of_lt (by omega) (by omega)]; omega
def faultTo (all n : Int) (m : Nat) : Int := (List.range m).foldl (fun (a : Int) (k : Nat) => max a (absI (wrongP all n k))) 0
def faultP (all n : Int) : Int := faultTo all n n.toNat
theorem faultTo_succ (all n : Int) (m : Nat) : faultTo all n (m + 1) = max (faultTo all n m) (absI (wrongP all n m)) := by
  unfold faultTo; rw [List.range_succ, List.foldl_append]; rfl
theorem faultTo_bound {all n : Int} (hn : 0 < n) : ∀ m : Nat, 0 ≤ faultTo all n m ∧ faultTo all n m ≤ n
  | 0 => by simp [faultTo]; omega
  | m + 1 => by
    have h1 := faultTo_bound (all := all) hn m
    have h2 := wrong_bound (all := all) (k := m) hn
    rw [faultTo_succ]; unfold absI; omega
theorem faultTo_le {all n : Int} : ∀ {m k : Nat}, k < m → absI (wrongP all n k) ≤ faultTo all n m
  | m + 1, k, h => by
    rw [faultTo_succ]
    by_cases hk : k = m
    · subst hk; omega
    · have := faultTo_le (all := all) (n := n) (show k < m by omega); omega
theorem faultTo_is {all n : Int} : ∀ {m : Nat}, 0 < m → ∃ k : Nat, k < m ∧ faultTo all n m = absI (wrongP all n k)
  | 1, _ => ⟨0, by omega, by rw [faultTo_succ]; simp only [faultTo, List.range_zero, List.foldl_nil]; unfold absI; omega⟩
  | m + 2, _ => by
    obtain ⟨k, h1, h2⟩ := faultTo_is (all := all) (n := n) (show 0 < m + 1 by omega)
    rw [faultTo_succ]
    by_cases h : faultTo all n (m + 1) ≤ absI (wrongP all n ((m + 1 : Nat) : Int))
    · exact ⟨m + 1, by omega, by omega⟩
    · exact ⟨k, by omega, by omega⟩
/-- How many lines are cut before their place, and behind it. -/
def offTo (all n : Int) (m : Nat) : Int × Int := (List.range m).foldl (fun (a : Int × Int) (k : Nat) => if wrongP all n k < 0 then (a.1 + 1, a.2) else if wrongP all n k > 0 then (a.1, a.2 + 1) else a) (0, 0)
theorem offTo_succ (all n : Int) (m : Nat) : offTo all n (m + 1) = if wrongP all n m < 0 then ((offTo all n m).1 + 1, (offTo all n m).2) else if wrongP all n m > 0 then ((offTo all n m).1, (offTo all n m).2 + 1) else offTo all n m := by
  unfold offTo; rw [List.range_succ, List.foldl_append]; rfl
theorem offTo_spec (all n : Int) : ∀ m : Nat, 0 ≤ (offTo all n m).1 ∧ 0 ≤ (offTo all n m).2 ∧ (offTo all n m).1 + (offTo all n m).2 ≤ m ∧ ((offTo all n m).1 = 0 ∧ (offTo all n m).2 = 0 → faultTo all n m = 0)
  | 0 => by simp [offTo, faultTo]
  | m + 1 => by
    obtain ⟨h1, h2, h3, h4⟩ := offTo_spec all n m
    rw [offTo_succ, faultTo_succ]
    split
    · simp only; refine ⟨by omega, by omega, by omega, by omega⟩
    · split
      · simp only; refine ⟨by omega, by omega, by omega, by omega⟩
      · refine ⟨h1, h2, by omega, fun h => ?_⟩
        rw [h4 h]; unfold absI; omega
/-- What is engraved. -/
def engrP (fault all : Int) : Int := (fault * 129600000 + all - 1) / all
theorem engr_up {f all : Int} (ha : 0 < all) : -((-(f * 129600000)) / all) = engrP f all := by
  unfold engrP
  generalize f * 129600000 = a
  have h1 := Int.mul_ediv_add_emod (-a) all
  have h2 := Int.emod_nonneg (-a) (show all ≠ 0 by omega)
  have h3 := Int.emod_lt_of_pos (-a) ha
  have e : a + all - 1 = (all - 1 - (-a) % all) + (-((-a) / all)) * all := by
    rw [Int.neg_mul, Int.mul_comm ((-a) / all) all]; omega
  have e2 : (all - 1 - (-a) % all) / all = 0 := Int.ediv_eq_zero_of_lt (by omega) (by omega)
  rw [e, Int.add_mul_ediv_right _ _ (by omega), e2]; omega
def cutE (t : Int) (l : List Int) (c n : Int) : List Int × Int × Int :=
  if headOk t l = false then ([], 0, 10) else if inB n 1 2000 = false then ([], 0, 11) else if inB c 0 ((l.length : Int) - 1) = false then ([], 0, 12) else
    ((List.range n.toNat).map (fun k : Nat => placeP (t * nthI l c) n k), engrP (faultP (t * nthI l c) n) (n * (t * nthI l c)), 0)
/-- The best circle of the first ones (one more than k), and its fault. -/
def bestK (t : Int) (l : List Int) (n : Int) : Nat → Int × Int
  | 0 => (0, faultP (t * nthI l 0) n)
  | k + 1 => if faultP (t * nthI l ((k + 1 : Nat) : Int)) n * nthI l (bestK t l n k).1 < (bestK t l n k).2 * nthI l ((k + 1 : Nat) : Int) then (((k + 1 : Nat) : Int), faultP (t * nthI l ((k + 1 : Nat) : Int)) n) else bestK t l n k
def bestE (t : Int) (l : List Int) (n : Int) : Int × Int × Int :=
  if headOk t l = false then (0, 0, 10) else if inB n 1 2000 = false then (0, 0, 11) else
    ((bestK t l n (l.length - 1)).1, engrP (bestK t l n (l.length - 1)).2 (n * (t * nthI l (bestK t l n (l.length - 1)).1)), 0)
theorem bestK_spec (t : Int) (l : List Int) (n : Int) (k : Nat) : 0 ≤ (bestK t l n k).1 ∧ (bestK t l n k).1 ≤ k ∧ (bestK t l n k).2 = faultP (t * nthI l (bestK t l n k).1) n := by
  induction k with
  | zero => exact ⟨Int.le_refl _, Int.le_refl _, rfl⟩
  | succ k ih =>
    rw [bestK]
    split
    · exact ⟨by simp only; omega, by simp only; omega, rfl⟩
    · exact ⟨ih.1, by omega, ih.2.2⟩
/-- Trains. -/
structure Tn where
  a : Int
  b : Int
  c : Int
  d : Int
  deriving DecidableEq
def Tn.cs (p : Tn) : List TV := [.int .i64 p.a, .int .i64 p.b, .int .i64 p.c, .int .i64 p.d]
def Tn.tv (p : Tn) : TV := .agg p.cs
def stockOk1 (st : List Int) : Bool := inB st.length 2 10 && st.all fun n => inB n 10 200
/-- Do wheels give the ratio? (every second one is driven) -/
def drvL (st : List Int) : Bool → Int → Int → List Int → Int × Int
  | _, x, y, [] => (x, y)
  | true, x, y, w :: l => drvL st false (x * nthI st w) y l
  | false, x, y, w :: l => drvL st true x (y * nthI st w) l
def fitsL (st : List Int) (p q : Int) (l : List Int) : Bool := (drvL st true q p l).1 == (drvL st true q p l).2
def tnOf : List Int → Tn
  | [a, b] => ⟨a, b, -1, -1⟩
  | [a, b, c, d] => ⟨a, b, c, d⟩
  | _ => ⟨-1, -1, -1, -1⟩
/-- The first wheels that fit, d more behind l. -/
def srch (st : List Int) (p q : Int) : Nat → List Int → Option (List Int)
  | 0, l => if fitsL st p q l = true then some l else none
  | d + 1, l => (List.range st.length).findSome? fun i : Nat => if l.contains (i : Int) then none else srch st p q d (l ++ [(i : Int)])
def trainP (st : List Int) (p q : Int) : Option Tn := match srch st p q 2 [] with
  | some l => some (tnOf l)
  | none => (srch st p q 4 []).map tnOf
def trainE (st : List Int) (p q : Int) : Tn × Int :=
  if (stockOk1 st && inB p 1 100000 && inB q 1 100000) = false then (⟨0, 0, 0, 0⟩, 13) else match trainP st p q with
    | none => (⟨0, 0, 0, 0⟩, 4)
    | some t => (t, 0)
/-- Differentials. -/
structure Df where
  m : Int
  p : Pl
  t : Tn
  on : Bool
  deriving DecidableEq
def Df.cs (x : Df) : List TV := .int .i64 x.m :: (x.p.cs ++ (x.t.cs ++ [.bool x.on]))
def Df.tv (x : Df) : TV := .agg x.cs
def diff1 (t : Int) (l st : List Int) (n aside m : Int) : Option Df :=
  if inB m 1 20000 = false then none else match plansP t l m with
    | [] => none
    | p :: _ => match trainP st (t * aside) m with
      | none => none
      | some tr => some ⟨m, p, tr, decide (m > n)⟩
def diff2 (t : Int) (l st : List Int) (n aside : Int) : Option Df := match diff1 t l st n aside (n - aside) with
  | some x => some x
  | none => diff1 t l st n aside (n + aside)
def diffP (t : Int) (l st : List Int) (n : Int) : Option Df := (List.range 20).findSome? fun i : Nat => diff2 t l st n ((i : Int) + 1)
def diffE (t : Int) (l st : List Int) (n : Int) : Df × Int :=
  if headOk t l = false then (⟨0, ⟨0, 0, 0⟩, ⟨0, 0, 0, 0⟩, false⟩, 10) else if inB n 1 2000 = false then (⟨0, ⟨0, 0, 0⟩, ⟨0, 0, 0, 0⟩, false⟩, 11) else if stockOk1 st = false then (⟨0, ⟨0, 0, 0⟩, ⟨0, 0, 0, 0⟩, false⟩, 13) else
    match diffP t l st n with
    | none => (⟨0, ⟨0, 0, 0⟩, ⟨0, 0, 0, 0⟩, false⟩, 4)
    | some x => (x, 0)
/-- Prefixes of a search. -/
def fsTo {α : Type} (f : Nat → Option α) (k : Nat) : Option α := (List.range k).findSome? f
theorem fsTo_succ {α : Type} (f : Nat → Option α) (k : Nat) : fsTo f (k + 1) = match fsTo f k with
    | some x => some x
    | none => f k := by
  unfold fsTo
  rw [List.range_succ, List.findSome?_append]
  cases (List.range k).findSome? f with
  | some x => rfl
  | none => simp
theorem fsTo_hit {α : Type} {f : Nat → Option α} {n k : Nat} {x : α} (h0 : fsTo f k = none) (hk : k < n) (h1 : f k = some x) : fsTo f n = some x := by
  have h2 : fsTo f (k + 1) = some x := by rw [fsTo_succ, h0]; exact h1
  clear h0 h1
  induction n with
  | zero => omega
  | succ n ih =>
    by_cases hkn : k = n
    · subst hkn; exact h2
    · rw [fsTo_succ, ih (by omega)]
theorem fsTo_some {α : Type} {f : Nat → Option α} {n : Nat} {x : α} (h : fsTo f n = some x) : ∃ k, k < n ∧ fsTo f k = none ∧ f k = some x := by
  induction n with
  | zero => simp [fsTo] at h
  | succ n ih =>
    rw [fsTo_succ] at h
    cases h' : fsTo f n with
    | some y =>
      rw [h'] at h
      obtain ⟨k, h1, h2, h3⟩ := ih (by rw [h']; exact h)
      exact ⟨k, by omega, h2, h3⟩
    | none => rw [h'] at h; exact ⟨n, by omega, h', h⟩
theorem fsTo_none {α : Type} {f : Nat → Option α} {n : Nat} : fsTo f n = none ↔ ∀ k, k < n → f k = none := by
  unfold fsTo
  rw [List.findSome?_eq_none_iff]
  simp
/-- The specification's search. -/
def r2 (st : List Int) (p q : Int) (a b : Nat) : Option Tn := if a ≠ b ∧ nthI st a * q = nthI st b * p then some ⟨a, b, -1, -1⟩ else none
def r4 (st : List Int) (p q : Int) (a b c d : Nat) : Option Tn :=
  if (a ≠ b ∧ a ≠ c ∧ a ≠ d ∧ b ≠ c ∧ b ≠ d ∧ c ≠ d) ∧ nthI st a * nthI st c * q = nthI st b * nthI st d * p then some ⟨a, b, c, d⟩ else none
def trainR (st : List Int) (p q : Int) : Option Tn := match fsTo (fun a => fsTo (r2 st p q a) st.length) st.length with
  | some t => some t
  | none => fsTo (fun a => fsTo (fun b => fsTo (fun c => fsTo (r4 st p q a b c) st.length) st.length) st.length) st.length
theorem srch_map (st : List Int) (p q : Int) (d : Nat) (l : List Int) : (srch st p q (d + 1) l).map tnOf = fsTo (fun i => if l.contains (i : Int) then none else (srch st p q d (l ++ [(i : Int)])).map tnOf) st.length := by
  unfold fsTo
  rw [srch, List.map_findSome?]
  congr 1
  funext i
  simp only [Function.comp]
  split <;> rfl
theorem fsTo_congr {α : Type} {f g : Nat → Option α} {n : Nat} (h : ∀ k, k < n → f k = g k) : fsTo f n = fsTo g n := by
  induction n with
  | zero => rfl
  | succ n ih => rw [fsTo_succ, fsTo_succ, ih fun k hk => h k (by omega), h n (by omega)]
theorem srch0 (st : List Int) (p q : Int) (l : List Int) : (srch st p q 0 l).map tnOf = if fitsL st p q l = true then some (tnOf l) else none := by
  unfold srch; split <;> rfl
theorem train_ref (st : List Int) (p q : Int) : trainR st p q = trainP st p q := by
  have h2 : (srch st p q 2 []).map tnOf = fsTo (fun a => fsTo (r2 st p q a) st.length) st.length := by
    rw [srch_map]
    refine fsTo_congr fun a _ => ?_
    rw [if_neg (by simp), srch_map]
    refine fsTo_congr fun b _ => ?_
    rw [srch0]
    simp only [List.nil_append, List.cons_append, List.contains_cons, List.contains_nil, Bool.or_false, fitsL, drvL, tnOf, r2, beq_iff_eq]
    rw [Int.mul_comm q, Int.mul_comm p]
    by_cases hab : a = b
    · subst hab; simp
    · have hab' : ¬ (b : Int) = a := by omega
      simp [hab, hab']
  have h4 : (srch st p q 4 []).map tnOf = fsTo (fun a => fsTo (fun b => fsTo (fun c => fsTo (r4 st p q a b c) st.length) st.length) st.length) st.length := by
    rw [srch_map]
    refine fsTo_congr fun a _ => ?_
    rw [if_neg (by simp), srch_map]
    refine fsTo_congr fun b _ => ?_
    by_cases hab : a = b
    · subst hab
      simp only [List.nil_append, List.contains_cons, List.contains_nil, Bool.or_false, beq_self_eq_true, if_true]
      symm
      rw [fsTo_none]; intro c _
      rw [fsTo_none]; intro d _
      simp [r4]
    · have hab' : ¬ (b : Int) = a := by omega
      rw [if_neg (by simpa using hab'), srch_map]
      refine fsTo_congr fun c _ => ?_
      by_cases hc : c = a ∨ c = b
      · rw [if_pos (by rcases hc with rfl | rfl <;> simp)]
        symm
        rw [fsTo_none]; intro d _
        unfold r4; rw [if_neg]; rintro ⟨h, _⟩; omega
      · rw [if_neg (by simp; omega), srch_map]
        refine fsTo_congr fun d _ => ?_
        by_cases hd : d = a ∨ d = b ∨ d = c
        · rw [if_pos (by rcases hd with rfl | rfl | rfl <;> simp)]
          symm
          unfold r4; rw [if_neg]; rintro ⟨h, _⟩; omega
        · rw [if_neg (by simp; omega), srch0]
          simp only [List.nil_append, List.cons_append, fitsL, drvL, tnOf, r4, beq_iff_eq]
          have e : (nthI st a * nthI st c * q = nthI st b * nthI st d * p) ↔ (q * nthI st a * nthI st c = p * nthI st b * nthI st d) := by
            rw [Int.mul_comm _ q, Int.mul_comm _ p, Int.mul_assoc, Int.mul_assoc]
          have hx : (a ≠ b ∧ a ≠ c ∧ a ≠ d ∧ b ≠ c ∧ b ≠ d ∧ c ≠ d) := by omega
          by_cases hp : q * nthI st a * nthI st c = p * nthI st b * nthI st d
          · rw [if_pos hp, if_pos ⟨hx, e.2 hp⟩]
          · rw [if_neg hp, if_neg fun h => hp (e.1 h.2)]
  unfold trainR trainP
  rw [← h2, ← h4]
  cases srch st p q 2 [] <;> rfl
end Go.Oc.Ix

/- Part Iu0. -/
namespace Go.Oc.Ix
end Go.Oc.Ix
namespace Go.Proofs.Ytadkjjnnnkfalaa.Ix
end Go.Proofs.Ytadkjjnnnkfalaa.Ix
namespace Go.Oc.Ix
open Go Go.Pm
/-- So far all is well, and the last circle. -/
def chkTo (t : Int) (l : List Int) (k : Nat) : Bool := circTo (inB t 1 400 && inB l.length 1 12) 1 (l.take k)
def lastTo (l : List Int) : Nat → Int
  | 0 => 1
  | k + 1 => nthI l k
theorem circTo_snoc : ∀ (ok : Bool) (a : Int) (l : List Int) (x : Int), circTo ok a (l ++ [x]) = (circTo ok a l && inB x (IntKind.i64.wrap ((l.getLast?.getD a) + 1)) 200)
  | ok, a, [], x => rfl
  | ok, a, [y], x => rfl
  | ok, a, y :: z :: l, x => by
    rw [List.cons_append, circTo, circTo_snoc _ y (z :: l) x, circTo, List.getLast?_cons_cons]
    rfl
theorem chkTo_succ {t : Int} {l : List Int} {k : Nat} {x : Int} (h : l[k]? = some x) : chkTo t l (k + 1) = (chkTo t l k && inB x (IntKind.i64.wrap (lastTo l k + 1)) 200) := by
  unfold chkTo
  rw [take_snoc h, circTo_snoc]
  congr 4
  cases k with
  | zero => rfl
  | succ k =>
    have hk := (List.getElem?_eq_some_iff.1 h).1
    have hx : l[k]? = some l[k] := List.getElem?_eq_getElem (by omega)
    rw [take_snoc hx, List.getLast?_concat]
    show l[k] = nthI l k
    rw [nthI_at hx]
theorem chkTo_all (t : Int) (l : List Int) : chkTo t l l.length = headOk t l := by
  unfold chkTo headOk
  rw [List.take_length, circTo_eq _ (by omega), Bool.and_assoc]
end Go.Oc.Ix
namespace Go.Proofs.Ytadkjjnnnkfalaa.Ix
open Go.RowKit Go.Pm Go.Oc Go.Oc.Ix
set_option maxRecDepth 100000
set_option linter.unusedVariables false
set_option maxHeartbeats 4000000

theorem iWithin_c (n lo hi : Int) : PCalls Try.prog 82 [.int .i64 n, .int .i64 lo, .int .i64 hi] (.bool (inB n lo hi)) := by
  refine pcalls_by Try.mixes noSpec_ok (fn := Try.f82) Try.func82 rfl (by kernel_rfl) (by show 3 ≤ _; decide) ?_
  simp (decide := true) (maxSteps := 4000000) only [go_sem, Nat.reduceAdd, Nat.reduceSub, Nat.reduceMul, Nat.reduceDiv, Nat.reduceMod, Nat.reduceLT, Nat.reduceLeDiff, Nat.reduceEqDiff, Nat.reduceBEq, Nat.reduceBNe, Nat.reduceGT, Int.reduceAdd, Int.reduceSub, Int.reduceMul, Int.reduceNeg, Int.reduceLT, Int.reduceLE, Int.reduceEq, Int.reduceNe, Int.reduceBEq, Int.reduceBNe, Int.reduceToNat, Int.reduceGT, Int.reduceGE, ↓reduceIte, decide_true, decide_false, eq_self, Nat.mul_one, Nat.zero_mul, Nat.one_mul, Int.le_refl, Nat.le_refl, Int.cast_ofNat_Int, Try.f82, inB]
noncomputable def ixWithin : List TV → Option TV
  | [.int .i64 n, .int .i64 a, .int .i64 b] => some (.bool (inB n a b))
  | _ => none
theorem ixWithin_ok : ∀ xs r, ixWithin xs = some r → PCalls Try.prog 82 xs r := by
  intro xs r h
  unfold ixWithin at h
  split at h
  · cases h; exact iWithin_c _ _ _
  · cases h
attribute [go_sem] ixWithin
noncomputable def spU1 : Pm.Spec := noSpec.one 82 ixWithin
@[go_sem] theorem spU1_p (f : FuncId) (xs : List TV) : spU1.p f xs = Pm.Spec.p (noSpec.one 82 ixWithin) f xs := rfl
@[go_sem] theorem spU1_h (f : FuncId) (ps : List PV) (hl : List PO) : spU1.h f ps hl = Pm.Spec.h (noSpec.one 82 ixWithin) f ps hl := rfl
@[go_sem] theorem spU1_y (Y : Pm.YS) (f : FuncId) (ps : List PV) (hl : List PO) : spU1.y Y f ps hl = Pm.Spec.y (noSpec.one 82 ixWithin) Y f ps hl := rfl
@[go_sem] theorem spU1_fz (f : FuncId) : spU1.fz f = Pm.Spec.fz (noSpec.one 82 ixWithin) f := rfl
@[go_sem] theorem spU1_fr (f : FuncId) : spU1.fr f = Pm.Spec.fr (noSpec.one 82 ixWithin) f := rfl
@[go_sem] theorem spU1_yf (f : FuncId) : spU1.yf f = Pm.Spec.yf (noSpec.one 82 ixWithin) f := rfl
@[go_sem] theorem spU1_mu (t : TypeId) : spU1.mu t = Pm.Spec.mu (noSpec.one 82 ixWithin) t := rfl
@[go_sem] theorem spU1_nf (t : TypeId) : spU1.nf t = Pm.Spec.nf (noSpec.one 82 ixWithin) t := rfl
theorem spU1_ok : SpecOk Try.prog spU1 := Spec.one_ok ixWithin_ok noSpec_ok
theorem iCheck_c (t : Int) {l : List Int} {s : TV} (hl : IsRow ic s l) (hll : l.length ≤ 17592186044415) : PCalls Try.prog 115 [.agg [.int .i64 t, s]] (.int .i64 (if headOk t l then 0 else 10)) := by
  have h0 : chkTo t l 0 = (inB t 1 400 && inB l.length 1 12) := rfl
  have hall := chkTo_all t l
  have fin : ∀ b : Bool, headOk t l = b → headOk t l = b := fun _ h => h
  refine pcalls_by Try.mixes spU1_ok (fn := Try.f115) Try.func115 rfl (by kernel_rfl) (by show 1 ≤ _; decide) ?_
  rcases hl with ⟨rfl, rfl⟩ | ⟨f, rfl⟩
  · cases h1 : inB t 1 400 <;> simp (decide := true) (maxSteps := 4000000) only [go_sem, Nat.reduceAdd, Nat.reduceSub, Nat.reduceMul, Nat.reduceDiv, Nat.reduceMod, Nat.reduceLT, Nat.reduceLeDiff, Nat.reduceEqDiff, Nat.reduceBEq, Nat.reduceBNe, Nat.reduceGT, Int.reduceAdd, Int.reduceSub, Int.reduceMul, Int.reduceNeg, Int.reduceLT, Int.reduceLE, Int.reduceEq, Int.reduceNe, Int.reduceBEq, Int.reduceBNe, Int.reduceToNat, Int.reduceGT, Int.reduceGE, ↓reduceIte, decide_true, decide_false, eq_self, Nat.mul_one, Nat.zero_mul, Nat.one_mul, Int.le_refl, Nat.le_refl, Int.cast_ofNat_Int, Try.f115, h1]
    all_goals refine pwpC_loopU (A := Unit) [1, 17, 18] (fun _ => [(19, .t (.int .i64 0)), (3, .t (.bool false)), (4, .t (.int .i64 1))]) (fun _ => []) (fun _ => 0) () (by decide) (fun _ => by rfl) ?_ fun Q1 hQ1 _ I1 hI1 => ?_
    all_goals first
      | (simp (decide := true) (maxSteps := 4000000) only [go_sem, Nat.reduceAdd, Nat.reduceSub, Nat.reduceMul, Nat.reduceDiv, Nat.reduceMod, Nat.reduceLT, Nat.reduceLeDiff, Nat.reduceEqDiff, Nat.reduceBEq, Nat.reduceBNe, Nat.reduceGT, Int.reduceAdd, Int.reduceSub, Int.reduceMul, Int.reduceNeg, Int.reduceLT, Int.reduceLE, Int.reduceEq, Int.reduceNe, Int.reduceBEq, Int.reduceBNe, Int.reduceToNat, Int.reduceGT, Int.reduceGE, ↓reduceIte, decide_true, decide_false, eq_self, Nat.mul_one, Nat.zero_mul, Nat.one_mul, Int.le_refl, Nat.le_refl, Int.cast_ofNat_Int, inB]; done)
      | (simp (decide := true) (maxSteps := 4000000) only [go_sem, Nat.reduceAdd, Nat.reduceSub, Nat.reduceMul, Nat.reduceDiv, Nat.reduceMod, Nat.reduceLT, Nat.reduceLeDiff, Nat.reduceEqDiff, Nat.reduceBEq, Nat.reduceBNe, Nat.reduceGT, Int.reduceAdd, Int.reduceSub, Int.reduceMul, Int.reduceNeg, Int.reduceLT, Int.reduceLE, Int.reduceEq, Int.reduceNe, Int.reduceBEq, Int.reduceBNe, Int.reduceToNat, Int.reduceGT, Int.reduceGE, ↓reduceIte, decide_true, decide_false, eq_self, Nat.mul_one, Nat.zero_mul, Nat.one_mul, Int.le_refl, Nat.le_refl, Int.cast_ofNat_Int]
         refine hQ1 _ _ ?_
         have e : headOk t [] = false := by simp [headOk, inB]
         simp (decide := true) (maxSteps := 4000000) only [go_sem, Nat.reduceAdd, Nat.reduceSub, Nat.reduceMul, Nat.reduceDiv, Nat.reduceMod, Nat.reduceLT, Nat.reduceLeDiff, Nat.reduceEqDiff, Nat.reduceBEq, Nat.reduceBNe, Nat.reduceGT, Int.reduceAdd, Int.reduceSub, Int.reduceMul, Int.reduceNeg, Int.reduceLT, Int.reduceLE, Int.reduceEq, Int.reduceNe, Int.reduceBEq, Int.reduceBNe, Int.reduceToNat, Int.reduceGT, Int.reduceGE, ↓reduceIte, decide_true, decide_false, eq_self, Nat.mul_one, Nat.zero_mul, Nat.one_mul, Int.le_refl, Nat.le_refl, Int.cast_ofNat_Int, e])
  · rw [ic_ints]
    cases h1 : inB t 1 400 <;> cases h2 : inB (l.length : Int) 1 12 <;> simp (decide := true) (maxSteps := 4000000) only [go_sem, Nat.reduceAdd, Nat.reduceSub, Nat.reduceMul, Nat.reduceDiv, Nat.reduceMod, Nat.reduceLT, Nat.reduceLeDiff, Nat.reduceEqDiff, Nat.reduceBEq, Nat.reduceBNe, Nat.reduceGT, Int.reduceAdd, Int.reduceSub, Int.reduceMul, Int.reduceNeg, Int.reduceLT, Int.reduceLE, Int.reduceEq, Int.reduceNe, Int.reduceBEq, Int.reduceBNe, Int.reduceToNat, Int.reduceGT, Int.reduceGE, ↓reduceIte, decide_true, decide_false, eq_self, Nat.mul_one, Nat.zero_mul, Nat.one_mul, Int.le_refl, Nat.le_refl, Int.cast_ofNat_Int, Try.f115, h1, h2]
    all_goals
      refine pwpC_loopU (A := { k : Nat // k ≤ l.length }) [1, 17, 18] (fun k => [(19, .t (.int .i64 k.1)), (3, .t (.bool (chkTo t l k.1))), (4, .t (.int .i64 (lastTo l k.1)))]) (fun _ => []) (fun k => l.length - k.1) ⟨0, by omega⟩ (by decide) (fun _ => by rfl) ?_ fun Q1 hQ1 ⟨k, hk⟩ I1 hI1 => ?_
      · simp (decide := true) (maxSteps := 4000000) only [go_sem, Nat.reduceAdd, Nat.reduceSub, Nat.reduceMul, Nat.reduceDiv, Nat.reduceMod, Nat.reduceLT, Nat.reduceLeDiff, Nat.reduceEqDiff, Nat.reduceBEq, Nat.reduceBNe, Nat.reduceGT, Int.reduceAdd, Int.reduceSub, Int.reduceMul, Int.reduceNeg, Int.reduceLT, Int.reduceLE, Int.reduceEq, Int.reduceNe, Int.reduceBEq, Int.reduceBNe, Int.reduceToNat, Int.reduceGT, Int.reduceGE, ↓reduceIte, decide_true, decide_false, eq_self, Nat.mul_one, Nat.zero_mul, Nat.one_mul, Int.le_refl, Nat.le_refl, Int.cast_ofNat_Int, h0, h1, h2, lastTo]
      · by_cases hlt : (k : Int) < l.length
        · obtain ⟨x, hx⟩ := get_lt hlt
          have hd := ints_at hx
          rw [Nat.mul_one] at hd
          have hc1 : IntKind.i64.wrap (k + 1) = ((k + 1 : Nat) : Int) := by rw [wrap_in (by omega) (by omega)]; omega
          have hs := chkTo_succ (t := t) hx
          have hn : lastTo l (k + 1) = x := nthI_at hx
          cases hok : chkTo t l k <;> rw [hok] at hs <;> simp (decide := true) (maxSteps := 4000000) only [go_sem, Nat.reduceAdd, Nat.reduceSub, Nat.reduceMul, Nat.reduceDiv, Nat.reduceMod, Nat.reduceLT, Nat.reduceLeDiff, Nat.reduceEqDiff, Nat.reduceBEq, Nat.reduceBNe, Nat.reduceGT, Int.reduceAdd, Int.reduceSub, Int.reduceMul, Int.reduceNeg, Int.reduceLT, Int.reduceLE, Int.reduceEq, Int.reduceNe, Int.reduceBEq, Int.reduceBNe, Int.reduceToNat, Int.reduceGT, Int.reduceGE, ↓reduceIte, decide_true, decide_false, eq_self, Nat.mul_one, Nat.zero_mul, Nat.one_mul, Int.le_refl, Nat.le_refl, Int.cast_ofNat_Int, hlt, hd, hok]
          all_goals refine hI1 _ ⟨k + 1, by omega⟩ (by simp only; omega) ?_
          all_goals simp (decide := true) (maxSteps := 4000000) only [go_sem, Nat.reduceAdd, Nat.reduceSub, Nat.reduceMul, Nat.reduceDiv, Nat.reduceMod, Nat.reduceLT, Nat.reduceLeDiff, Nat.reduceEqDiff, Nat.reduceBEq, Nat.reduceBNe, Nat.reduceGT, Int.reduceAdd, Int.reduceSub, Int.reduceMul, Int.reduceNeg, Int.reduceLT, Int.reduceLE, Int.reduceEq, Int.reduceNe, Int.reduceBEq, Int.reduceBNe, Int.reduceToNat, Int.reduceGT, Int.reduceGE, ↓reduceIte, decide_true, decide_false, eq_self, Nat.mul_one, Nat.zero_mul, Nat.one_mul, Int.le_refl, Nat.le_refl, Int.cast_ofNat_Int, hc1, hs, hn]
        · have hke : k = l.length := by omega
          subst hke
          simp (decide := true) (maxSteps := 4000000) only [go_sem, Nat.reduceAdd, Nat.reduceSub, Nat.reduceMul, Nat.reduceDiv, Nat.reduceMod, Nat.reduceLT, Nat.reduceLeDiff, Nat.reduceEqDiff, Nat.reduceBEq, Nat.reduceBNe, Nat.reduceGT, Int.reduceAdd, Int.reduceSub, Int.reduceMul, Int.reduceNeg, Int.reduceLT, Int.reduceLE, Int.reduceEq, Int.reduceNe, Int.reduceBEq, Int.reduceBNe, Int.reduceToNat, Int.reduceGT, Int.reduceGE, ↓reduceIte, decide_true, decide_false, eq_self, Nat.mul_one, Nat.zero_mul, Nat.one_mul, Int.le_refl, Nat.le_refl, Int.cast_ofNat_Int, hlt]
          refine hQ1 _ _ ?_
          rw [hall]
          cases h3 : headOk t l <;> simp (decide := true) (maxSteps := 4000000) only [go_sem, Nat.reduceAdd, Nat.reduceSub, Nat.reduceMul, Nat.reduceDiv, Nat.reduceMod, Nat.reduceLT, Nat.reduceLeDiff, Nat.reduceEqDiff, Nat.reduceBEq, Nat.reduceBNe, Nat.reduceGT, Int.reduceAdd, Int.reduceSub, Int.reduceMul, Int.reduceNeg, Int.reduceLT, Int.reduceLE, Int.reduceEq, Int.reduceNe, Int.reduceBEq, Int.reduceBNe, Int.reduceToNat, Int.reduceGT, Int.reduceGE, ↓reduceIte, decide_true, decide_false, eq_self, Nat.mul_one, Nat.zero_mul, Nat.one_mul, Int.le_refl, Nat.le_refl, Int.cast_ofNat_Int, h3]
noncomputable def ixCheck : List TV → Option TV
  | [.agg [.int .i64 t, s]] => match rowL unI s with
    | some l => if l.length ≤ 17592186044415 then some (.int .i64 (if headOk t l then 0 else 10)) else none
    | none => none
  | _ => none
theorem ixCheck_ok : ∀ xs r, ixCheck xs = some r → PCalls Try.prog 115 xs r := by
  intro xs r h
  unfold ixCheck at h
  split at h
  · split at h
    · rename_i l hl
      have hl := rowL_some (un := unI) (by first | rfl | exact unI_nil) (@unI_some) hl
      split at h
      · rename_i hc; cases h; exact iCheck_c _ hl hc
      · cases h
    · cases h
  · cases h
attribute [go_sem] ixCheck
noncomputable def spU2 : Pm.Spec := spU1.one 115 ixCheck
@[go_sem] theorem spU2_p (f : FuncId) (xs : List TV) : spU2.p f xs = Pm.Spec.p (spU1.one 115 ixCheck) f xs := rfl
@[go_sem] theorem spU2_h (f : FuncId) (ps : List PV) (hl : List PO) : spU2.h f ps hl = Pm.Spec.h (spU1.one 115 ixCheck) f ps hl := rfl
@[go_sem] theorem spU2_y (Y : Pm.YS) (f : FuncId) (ps : List PV) (hl : List PO) : spU2.y Y f ps hl = Pm.Spec.y (spU1.one 115 ixCheck) Y f ps hl := rfl
@[go_sem] theorem spU2_fz (f : FuncId) : spU2.fz f = Pm.Spec.fz (spU1.one 115 ixCheck) f := rfl
@[go_sem] theorem spU2_fr (f : FuncId) : spU2.fr f = Pm.Spec.fr (spU1.one 115 ixCheck) f := rfl
@[go_sem] theorem spU2_yf (f : FuncId) : spU2.yf f = Pm.Spec.yf (spU1.one 115 ixCheck) f := rfl
@[go_sem] theorem spU2_mu (t : TypeId) : spU2.mu t = Pm.Spec.mu (spU1.one 115 ixCheck) t := rfl
@[go_sem] theorem spU2_nf (t : TypeId) : spU2.nf t = Pm.Spec.nf (spU1.one 115 ixCheck) t := rfl
theorem spU2_ok : SpecOk Try.prog spU2 := Spec.one_ok ixCheck_ok spU1_ok
/-- A head that is opened: the head, the error. -/
def openE (t : Int) (l : List Int) (n most : Int) : Int := if headOk t l = false then 10 else if inB n 1 most = false then 11 else 0
theorem iOpened_c (t : Int) {l : List Int} {s : TV} (hl : IsRow ic s l) (hll : l.length ≤ 17592186044415) (n most : Int) : PCalls Try.prog 78 [.agg [.int .i64 t, s], .int .i64 n, .int .i64 most]
    (.tup [if openE t l n most = 0 then .agg [.int .i64 t, s] else .agg [.int .i64 0, .nilSl], .int .i64 (openE t l n most)]) := by
  have rI := rowI_is hl
  unfold rowL at rI
  unfold openE
  refine pcalls_by Try.mixes spU2_ok (fn := Try.f78) Try.func78 rfl (by kernel_rfl) (by show 3 ≤ _; decide) ?_
  cases h1 : headOk t l
  · simp (decide := true) (maxSteps := 4000000) only [go_sem, Nat.reduceAdd, Nat.reduceSub, Nat.reduceMul, Nat.reduceDiv, Nat.reduceMod, Nat.reduceLT, Nat.reduceLeDiff, Nat.reduceEqDiff, Nat.reduceBEq, Nat.reduceBNe, Nat.reduceGT, Int.reduceAdd, Int.reduceSub, Int.reduceMul, Int.reduceNeg, Int.reduceLT, Int.reduceLE, Int.reduceEq, Int.reduceNe, Int.reduceBEq, Int.reduceBNe, Int.reduceToNat, Int.reduceGT, Int.reduceGE, ↓reduceIte, decide_true, decide_false, eq_self, Nat.mul_one, Nat.zero_mul, Nat.one_mul, Int.le_refl, Nat.le_refl, Int.cast_ofNat_Int, Try.f78, rI, hll, h1]
  · cases h2 : inB n 1 most <;> simp (decide := true) (maxSteps := 4000000) only [go_sem, Nat.reduceAdd, Nat.reduceSub, Nat.reduceMul, Nat.reduceDiv, Nat.reduceMod, Nat.reduceLT, Nat.reduceLeDiff, Nat.reduceEqDiff, Nat.reduceBEq, Nat.reduceBNe, Nat.reduceGT, Int.reduceAdd, Int.reduceSub, Int.reduceMul, Int.reduceNeg, Int.reduceLT, Int.reduceLE, Int.reduceEq, Int.reduceNe, Int.reduceBEq, Int.reduceBNe, Int.reduceToNat, Int.reduceGT, Int.reduceGE, ↓reduceIte, decide_true, decide_false, eq_self, Nat.mul_one, Nat.zero_mul, Nat.one_mul, Int.le_refl, Nat.le_refl, Int.cast_ofNat_Int, Try.f78, rI, hll, h1, h2]
noncomputable def ixOpened : List TV → Option TV
  | [.agg [.int .i64 t, s], .int .i64 n, .int .i64 most] => match rowL unI s with
    | some l => if l.length ≤ 17592186044415 then some (.tup [if openE t l n most = 0 then .agg [.int .i64 t, s] else .agg [.int .i64 0, .nilSl], .int .i64 (openE t l n most)]) else none
    | none => none
  | _ => none
theorem ixOpened_ok : ∀ xs r, ixOpened xs = some r → PCalls Try.prog 78 xs r := by
  intro xs r h
  unfold ixOpened at h
  split at h
  · split at h
    · rename_i l hl
      have hl := rowL_some (un := unI) rfl (@unI_some) hl
      split at h
      · rename_i hc; cases h; exact iOpened_c _ hl hc _ _
      · cases h
    · cases h
  · cases h
attribute [go_sem] ixOpened
noncomputable def spU3 : Pm.Spec := spU2.one 78 ixOpened
@[go_sem] theorem spU3_p (f : FuncId) (xs : List TV) : spU3.p f xs = Pm.Spec.p (spU2.one 78 ixOpened) f xs := rfl
@[go_sem] theorem spU3_h (f : FuncId) (ps : List PV) (hl : List PO) : spU3.h f ps hl = Pm.Spec.h (spU2.one 78 ixOpened) f ps hl := rfl
@[go_sem] theorem spU3_y (Y : Pm.YS) (f : FuncId) (ps : List PV) (hl : List PO) : spU3.y Y f ps hl = Pm.Spec.y (spU2.one 78 ixOpened) Y f ps hl := rfl
@[go_sem] theorem spU3_fz (f : FuncId) : spU3.fz f = Pm.Spec.fz (spU2.one 78 ixOpened) f := rfl
@[go_sem] theorem spU3_fr (f : FuncId) : spU3.fr f = Pm.Spec.fr (spU2.one 78 ixOpened) f := rfl
@[go_sem] theorem spU3_yf (f : FuncId) : spU3.yf f = Pm.Spec.yf (spU2.one 78 ixOpened) f := rfl
@[go_sem] theorem spU3_mu (t : TypeId) : spU3.mu t = Pm.Spec.mu (spU2.one 78 ixOpened) t := rfl
@[go_sem] theorem spU3_nf (t : TypeId) : spU3.nf t = Pm.Spec.nf (spU2.one 78 ixOpened) t := rfl
theorem spU3_ok : SpecOk Try.prog spU3 := Spec.one_ok ixOpened_ok spU2_ok
end Go.Proofs.Ytadkjjnnnkfalaa.Ix

/- Part Iz. -/
namespace Go.Oc.Ix
end Go.Oc.Ix
namespace Go.Proofs.Ytadkjjnnnkfalaa.Ix
end Go.Proofs.Ytadkjjnnnkfalaa.Ix
namespace Go.Oc.Ix
open Go Go.Pm
set_option maxRecDepth 100000
def placesTo (all n : Int) (m : Nat) : List Int := (List.range m).map fun k : Nat => placeP all n k
theorem placesTo_succ (all n : Int) (m : Nat) : placesTo all n (m + 1) = placesTo all n m ++ [placeP all n m] := by
  unfold placesTo; rw [List.range_succ, List.map_append]; rfl
theorem placesTo_len (all n : Int) (m : Nat) : (placesTo all n m).length = m := by simp [placesTo]
theorem ints_snoc (l : List Int) (x : Int) : ints (l ++ [x]) = ints l ++ [.int .i64 x] := by simp [ints]
theorem allB0 {t : Int} {l : List Int} (hh : headOk t l = true) {c : Nat} {h : Int} (hx : l[c]? = some h) : 1 ≤ t * h ∧ t * h ≤ 80000 := by
  have hh' := headOk_iff.1 hh
  have hb := head_at hh hx
  have m1 := mulB (a := t) (b := h) (A := 400) (B := 200) (by omega) (by omega) (by omega) (by omega)
  have := Int.mul_pos (show 0 < t by omega) (show 0 < h by omega)
  omega
end Go.Oc.Ix
namespace Go.Proofs.Ytadkjjnnnkfalaa.Ix
open Go.RowKit Go.Pm Go.Oc Go.Oc.Ix
set_option maxRecDepth 100000
set_option linter.unusedVariables false
set_option maxHeartbeats 4000000

theorem iLine_c {all n k : Int} (hk0 : 0 ≤ k) (hk1 : k ≤ 2000) (hn : 1 ≤ n) (hn2 : n ≤ 2000) (ha : 0 ≤ all) (ha2 : all ≤ 80000) : PCalls Try.prog 116 [.int .i64 k, .int .i64 n, .int .i64 all] (.tup [.int .i64 (placeP all n k), .int .i64 (wrongP all n k)]) := by
  have m1 := mulB (a := k) (b := all) (A := 2000) (B := 80000) hk0 ha hk1 ha2
  have w1 : IntKind.i64.wrap (2 * k) = 2 * k := wrap_in (by omega) (by omega)
  have e1 : 2 * k * all = 2 * (k * all) := Int.mul_assoc ..
  have w2 : IntKind.i64.wrap (2 * k * all) = 2 * k * all := wrap_in (by omega) (by omega)
  have w3 : IntKind.i64.wrap (2 * k * all - n) = 2 * k * all - n := wrap_in (by omega) (by omega)
  have w4 : IntKind.i64.wrap (2 * n) = 2 * n := wrap_in (by omega) (by omega)
  have w5 : IntKind.i64.wrap (2 * k * all - n + 2 * n) = 2 * k * all - n + 2 * n := wrap_in (by omega) (by omega)
  have w6 : IntKind.i64.wrap (2 * k * all - n + 2 * n - 1) = 2 * k * all - n + 2 * n - 1 := wrap_in (by omega) (by omega)
  have hlp := line_place (all := all) (n := n) (k := k) (by omega) m1.1
  have hwb := wrong_bound (all := all) (n := n) (k := k) (by omega)
  have hwd : placeP all n k * n - k * all = wrongP all n k := rfl
  have hpb : 0 ≤ placeP all n k ∧ placeP all n k ≤ 320000000 := by
    have h4 : 0 ≤ k * all / n := Int.ediv_nonneg m1.1 (by omega)
    have h5 : k * all / n ≤ k * all := Int.ediv_le_self n m1.1
    unfold placeP; split <;> omega
  have w7 : IntKind.i64.wrap (placeP all n k) = placeP all n k := wrap_in (by omega) (by omega)
  have w8 : IntKind.i64.wrap (placeP all n k * n) = placeP all n k * n := wrap_in (by omega) (by omega)
  have w9 : IntKind.i64.wrap (k * all) = k * all := wrap_in (by omega) (by omega)
  have w10 : IntKind.i64.wrap (wrongP all n k) = wrongP all n k := wrap_in (by omega) (by omega)
  have hn0 : ¬ 2 * n = 0 := by omega
  refine pcalls_by Try.mixes noSpec_ok (fn := Try.f116) Try.func116 rfl (by kernel_rfl) (by show 3 ≤ _; decide) ?_
  simp (decide := true) (maxSteps := 4000000) only [go_sem, Nat.reduceAdd, Nat.reduceSub, Nat.reduceMul, Nat.reduceDiv, Nat.reduceMod, Nat.reduceLT, Nat.reduceLeDiff, Nat.reduceEqDiff, Nat.reduceBEq, Nat.reduceBNe, Nat.reduceGT, Int.reduceAdd, Int.reduceSub, Int.reduceMul, Int.reduceNeg, Int.reduceLT, Int.reduceLE, Int.reduceEq, Int.reduceNe, Int.reduceBEq, Int.reduceBNe, Int.reduceToNat, Int.reduceGT, Int.reduceGE, ↓reduceIte, decide_true, decide_false, eq_self, Nat.mul_one, Nat.zero_mul, Nat.one_mul, Int.le_refl, Nat.le_refl, Int.cast_ofNat_Int, Try.f116, w1, w2, w3, w4, w5, w6, hlp, w7, w8, w9, hwd, w10, hn0]
noncomputable def ixLine : List TV → Option TV
  | [.int .i64 k, .int .i64 n, .int .i64 a] => if (0 ≤ k ∧ k ≤ 2000) ∧ (1 ≤ n ∧ n ≤ 2000) ∧ 0 ≤ a ∧ a ≤ 80000 then some (.tup [.int .i64 (placeP a n k), .int .i64 (wrongP a n k)]) else none
  | _ => none
theorem ixLine_ok : ∀ xs r, ixLine xs = some r → PCalls Try.prog 116 xs r := by
  intro xs r h
  unfold ixLine at h
  split at h
  · split at h
    · rename_i hc; cases h; exact iLine_c hc.1.1 hc.1.2 hc.2.1.1 hc.2.1.2 hc.2.2.1 hc.2.2.2
    · cases h
  · cases h
attribute [go_sem] ixLine
noncomputable def spZ1 : Pm.Spec := spU3.one 116 ixLine
@[go_sem] theorem spZ1_p (f : FuncId) (xs : List TV) : spZ1.p f xs = Pm.Spec.p (spU3.one 116 ixLine) f xs := rfl
@[go_sem] theorem spZ1_h (f : FuncId) (ps : List PV) (hl : List PO) : spZ1.h f ps hl = Pm.Spec.h (spU3.one 116 ixLine) f ps hl := rfl
@[go_sem] theorem spZ1_y (Y : Pm.YS) (f : FuncId) (ps : List PV) (hl : List PO) : spZ1.y Y f ps hl = Pm.Spec.y (spU3.one 116 ixLine) Y f ps hl := rfl
@[go_sem] theorem spZ1_fz (f : FuncId) : spZ1.fz f = Pm.Spec.fz (spU3.one 116 ixLine) f := rfl
@[go_sem] theorem spZ1_fr (f : FuncId) : spZ1.fr f = Pm.Spec.fr (spU3.one 116 ixLine) f := rfl
@[go_sem] theorem spZ1_yf (f : FuncId) : spZ1.yf f = Pm.Spec.yf (spU3.one 116 ixLine) f := rfl
@[go_sem] theorem spZ1_mu (t : TypeId) : spZ1.mu t = Pm.Spec.mu (spU3.one 116 ixLine) t := rfl
@[go_sem] theorem spZ1_nf (t : TypeId) : spZ1.nf t = Pm.Spec.nf (spU3.one 116 ixLine) t := rfl
theorem spZ1_ok : SpecOk Try.prog spZ1 := Spec.one_ok ixLine_ok spU3_ok
theorem iCutH_c {t : Int} {l : List Int} (f : Bool) (hh : headOk t l = true) {n : Int} (hn : 1 ≤ n) (hn2 : n ≤ 2000) {c : Nat} (hc : c < l.length) :
    PCalls Try.prog 80 [.agg [.int .i64 t, .sl (ints l) l.length f], .int .i64 c, .int .i64 n] (.tup [.sl (ints (placesTo (t * nthI l c) n n.toNat)) n.toNat false, .int .i64 (faultP (t * nthI l c) n)]) := by
  have hx : l[c]? = some l[c] := List.getElem?_eq_getElem hc
  have hd := ints_at hx
  rw [Nat.mul_one] at hd
  have hb := allB0 hh hx
  have hn' := nthI_at hx
  rw [hn']
  generalize l[c] = h at *
  have hlc : (c : Int) < l.length := by omega
  have w1 : IntKind.i64.wrap (t * h) = t * h := wrap_in (by omega) (by omega)
  obtain ⟨A, hA⟩ : ∃ A, t * h = A := ⟨_, rfl⟩
  rw [hA] at w1 hb ⊢
  obtain ⟨N, hN⟩ := Int.eq_ofNat_of_zero_le (show 0 ≤ n by omega)
  subst hN
  have hA2 : (0 ≤ A ∧ A ≤ 80000) := by omega
  have hfp : faultP A N = faultTo A N N := by unfold faultP; rw [Int.toNat_natCast]
  rw [hfp, Int.toNat_natCast]
  have hc2 : (1 ≤ (N : Int) ∧ (N : Int) ≤ 2000) := by omega
  refine pcalls_by Try.mixes spZ1_ok (fn := Try.f80) Try.func80 rfl (by kernel_rfl) (by show 3 ≤ _; decide) ?_
  simp (decide := true) (maxSteps := 4000000) only [go_sem, Nat.reduceAdd, Nat.reduceSub, Nat.reduceMul, Nat.reduceDiv, Nat.reduceMod, Nat.reduceLT, Nat.reduceLeDiff, Nat.reduceEqDiff, Nat.reduceBEq, Nat.reduceBNe, Nat.reduceGT, Int.reduceAdd, Int.reduceSub, Int.reduceMul, Int.reduceNeg, Int.reduceLT, Int.reduceLE, Int.reduceEq, Int.reduceNe, Int.reduceBEq, Int.reduceBNe, Int.reduceToNat, Int.reduceGT, Int.reduceGE, ↓reduceIte, decide_true, decide_false, eq_self, Nat.mul_one, Nat.zero_mul, Nat.one_mul, Int.le_refl, Nat.le_refl, Int.cast_ofNat_Int, Try.f80, hlc, hd, hA, w1]
  refine pwpC_loopU (A := { m : Nat // m ≤ N }) [1, 2, 3, 8, 9, 23] (fun m => [(24, .t (.int .i64 m.1)), (6, .own (ints (placesTo A N m.1)) m.1 2), (7, .t (.int .i64 (faultTo A N m.1)))]) (fun m => [(1, .box [.t (.int .i64 (offTo A N m.1).1), .t (.int .i64 (offTo A N m.1).2)]), (2, .tok m.1 3)]) (fun m => N - m.1) ⟨0, by omega⟩ (by decide) (fun _ => by rfl) ?_ fun Q1 hQ1 ⟨m, hm⟩ I1 hI1 => ?_
  · simp (decide := true) (maxSteps := 4000000) only [go_sem, Nat.reduceAdd, Nat.reduceSub, Nat.reduceMul, Nat.reduceDiv, Nat.reduceMod, Nat.reduceLT, Nat.reduceLeDiff, Nat.reduceEqDiff, Nat.reduceBEq, Nat.reduceBNe, Nat.reduceGT, Int.reduceAdd, Int.reduceSub, Int.reduceMul, Int.reduceNeg, Int.reduceLT, Int.reduceLE, Int.reduceEq, Int.reduceNe, Int.reduceBEq, Int.reduceBNe, Int.reduceToNat, Int.reduceGT, Int.reduceGE, ↓reduceIte, decide_true, decide_false, eq_self, Nat.mul_one, Nat.zero_mul, Nat.one_mul, Int.le_refl, Nat.le_refl, Int.cast_ofNat_Int, placesTo, List.range_zero, List.map_nil, ints, faultTo, offTo, List.foldl_nil]
    first | done | exact ⟨⟨rfl, rfl⟩, rfl⟩ | exact ⟨rfl, rfl⟩ | rfl
  · by_cases hlt : (m : Int) < N
    · have hc1 : IntKind.i64.wrap (m + 1) = ((m + 1 : Nat) : Int) := by rw [wrap_in (by omega) (by omega)]; omega
      have c1 : (0 : Int) ≤ (m : Int) ∧ (m : Int) ≤ 2000 := by omega
      have hos := offTo_spec A N m
      have hou := offTo_succ A N m
      have hfu := faultTo_succ A N m
      have hwb := wrong_bound (all := A) (n := N) (k := m) (by omega)
      have hfb := faultTo_bound (all := A) (n := N) (by omega) m
      obtain ⟨⟨o1, o2⟩, hO⟩ : ∃ o, offTo A N m = o := ⟨_, rfl⟩
      rw [hO] at hos hou
      simp only at hos hou
      obtain ⟨w, hw⟩ : ∃ w, wrongP A N m = w := ⟨_, rfl⟩
      rw [hw] at hou hfu hwb
      have wo1 : IntKind.i64.wrap (o1 + 1) = o1 + 1 := wrap_in (by omega) (by omega)
      have wo2 : IntKind.i64.wrap (o2 + 1) = o2 + 1 := wrap_in (by omega) (by omega)
      have wn : IntKind.i64.wrap (0 - w) = -w := by rw [wrap_in (by omega) (by omega)]; omega
      have hmx : max (max (faultTo A N m) w) (-w) = faultTo A N (m + 1) := by rw [hfu]; unfold absI; omega
      have hil : (ints (placesTo A N m)).length = m := by rw [ints_len, placesTo_len]
      have hroom : (m + 1) * 8 ≤ 140737488355328 := by omega
      have hps : ints (placesTo A N (m + 1)) = ints (placesTo A N m) ++ [.int .i64 (placeP A N m)] := by rw [placesTo_succ, ints_snoc]
      by_cases h1 : w < 0
      · rw [if_pos h1] at hou
        simp (decide := true) (maxSteps := 4000000) only [go_sem, Nat.reduceAdd, Nat.reduceSub, Nat.reduceMul, Nat.reduceDiv, Nat.reduceMod, Nat.reduceLT, Nat.reduceLeDiff, Nat.reduceEqDiff, Nat.reduceBEq, Nat.reduceBNe, Nat.reduceGT, Int.reduceAdd, Int.reduceSub, Int.reduceMul, Int.reduceNeg, Int.reduceLT, Int.reduceLE, Int.reduceEq, Int.reduceNe, Int.reduceBEq, Int.reduceBNe, Int.reduceToNat, Int.reduceGT, Int.reduceGE, ↓reduceIte, decide_true, decide_false, eq_self, Nat.mul_one, Nat.zero_mul, Nat.one_mul, Int.le_refl, Nat.le_refl, Int.cast_ofNat_Int, hlt, c1, hc2, hA2, hw, h1, hO, wo1, wn, hmx, hil, hroom]
        refine hI1 _ ⟨m + 1, by omega⟩ (by simp only; omega) ?_
        simp (decide := true) (maxSteps := 4000000) only [go_sem, Nat.reduceAdd, Nat.reduceSub, Nat.reduceMul, Nat.reduceDiv, Nat.reduceMod, Nat.reduceLT, Nat.reduceLeDiff, Nat.reduceEqDiff, Nat.reduceBEq, Nat.reduceBNe, Nat.reduceGT, Int.reduceAdd, Int.reduceSub, Int.reduceMul, Int.reduceNeg, Int.reduceLT, Int.reduceLE, Int.reduceEq, Int.reduceNe, Int.reduceBEq, Int.reduceBNe, Int.reduceToNat, Int.reduceGT, Int.reduceGE, ↓reduceIte, decide_true, decide_false, eq_self, Nat.mul_one, Nat.zero_mul, Nat.one_mul, Int.le_refl, Nat.le_refl, Int.cast_ofNat_Int, hc1, hps, hou]
      · rw [if_neg h1] at hou
        by_cases h2 : w > 0
        · rw [if_pos h2] at hou
          simp (decide := true) (maxSteps := 4000000) only [go_sem, Nat.reduceAdd, Nat.reduceSub, Nat.reduceMul, Nat.reduceDiv, Nat.reduceMod, Nat.reduceLT, Nat.reduceLeDiff, Nat.reduceEqDiff, Nat.reduceBEq, Nat.reduceBNe, Nat.reduceGT, Int.reduceAdd, Int.reduceSub, Int.reduceMul, Int.reduceNeg, Int.reduceLT, Int.reduceLE, Int.reduceEq, Int.reduceNe, Int.reduceBEq, Int.reduceBNe, Int.reduceToNat, Int.reduceGT, Int.reduceGE, ↓reduceIte, decide_true, decide_false, eq_self, Nat.mul_one, Nat.zero_mul, Nat.one_mul, Int.le_refl, Nat.le_refl, Int.cast_ofNat_Int, hlt, c1, hc2, hA2, hw, h1, h2, hO, wo2, wn, hmx, hil, hroom]
          refine hI1 _ ⟨m + 1, by omega⟩ (by simp only; omega) ?_
          simp (decide := true) (maxSteps := 4000000) only [go_sem, Nat.reduceAdd, Nat.reduceSub, Nat.reduceMul, Nat.reduceDiv, Nat.reduceMod, Nat.reduceLT, Nat.reduceLeDiff, Nat.reduceEqDiff, Nat.reduceBEq, Nat.reduceBNe, Nat.reduceGT, Int.reduceAdd, Int.reduceSub, Int.reduceMul, Int.reduceNeg, Int.reduceLT, Int.reduceLE, Int.reduceEq, Int.reduceNe, Int.reduceBEq, Int.reduceBNe, Int.reduceToNat, Int.reduceGT, Int.reduceGE, ↓reduceIte, decide_true, decide_false, eq_self, Nat.mul_one, Nat.zero_mul, Nat.one_mul, Int.le_refl, Nat.le_refl, Int.cast_ofNat_Int, hc1, hps, hou]
        · rw [if_neg h2] at hou
          simp (decide := true) (maxSteps := 4000000) only [go_sem, Nat.reduceAdd, Nat.reduceSub, Nat.reduceMul, Nat.reduceDiv, Nat.reduceMod, Nat.reduceLT, Nat.reduceLeDiff, Nat.reduceEqDiff, Nat.reduceBEq, Nat.reduceBNe, Nat.reduceGT, Int.reduceAdd, Int.reduceSub, Int.reduceMul, Int.reduceNeg, Int.reduceLT, Int.reduceLE, Int.reduceEq, Int.reduceNe, Int.reduceBEq, Int.reduceBNe, Int.reduceToNat, Int.reduceGT, Int.reduceGE, ↓reduceIte, decide_true, decide_false, eq_self, Nat.mul_one, Nat.zero_mul, Nat.one_mul, Int.le_refl, Nat.le_refl, Int.cast_ofNat_Int, hlt, c1, hc2, hA2, hw, h1, h2, hO, wn, hmx, hil, hroom]
          refine hI1 _ ⟨m + 1, by omega⟩ (by simp only; omega) ?_
          simp (decide := true) (maxSteps := 4000000) only [go_sem, Nat.reduceAdd, Nat.reduceSub, Nat.reduceMul, Nat.reduceDiv, Nat.reduceMod, Nat.reduceLT, Nat.reduceLeDiff, Nat.reduceEqDiff, Nat.reduceBEq, Nat.reduceBNe, Nat.reduceGT, Int.reduceAdd, Int.reduceSub, Int.reduceMul, Int.reduceNeg, Int.reduceLT, Int.reduceLE, Int.reduceEq, Int.reduceNe, Int.reduceBEq, Int.reduceBNe, Int.reduceToNat, Int.reduceGT, Int.reduceGE, ↓reduceIte, decide_true, decide_false, eq_self, Nat.mul_one, Nat.zero_mul, Nat.one_mul, Int.le_refl, Nat.le_refl, Int.cast_ofNat_Int, hc1, hps, hou, hO]
    · have hme : m = N := by omega
      subst hme
      have hos := offTo_spec A m m
      have hm0 : ¬ m = 0 := by omega
      simp (decide := true) (maxSteps := 4000000) only [go_sem, Nat.reduceAdd, Nat.reduceSub, Nat.reduceMul, Nat.reduceDiv, Nat.reduceMod, Nat.reduceLT, Nat.reduceLeDiff, Nat.reduceEqDiff, Nat.reduceBEq, Nat.reduceBNe, Nat.reduceGT, Int.reduceAdd, Int.reduceSub, Int.reduceMul, Int.reduceNeg, Int.reduceLT, Int.reduceLE, Int.reduceEq, Int.reduceNe, Int.reduceBEq, Int.reduceBNe, Int.reduceToNat, Int.reduceGT, Int.reduceGE, ↓reduceIte, decide_true, decide_false, eq_self, Nat.mul_one, Nat.zero_mul, Nat.one_mul, Int.le_refl, Nat.le_refl, Int.cast_ofNat_Int, hlt]
      refine hQ1 _ _ ?_
      obtain ⟨⟨o1, o2⟩, hO⟩ : ∃ o, offTo A m m = o := ⟨_, rfl⟩
      rw [hO] at hos
      simp only at hos
      cases h1 : (o1 == 0 && o2 == 0) with
      | true =>
        simp only [Bool.and_eq_true, beq_iff_eq] at h1
        have hz := hos.2.2.2 h1
        obtain ⟨rfl, rfl⟩ := h1
        simp (decide := true) (maxSteps := 4000000) only [go_sem, Nat.reduceAdd, Nat.reduceSub, Nat.reduceMul, Nat.reduceDiv, Nat.reduceMod, Nat.reduceLT, Nat.reduceLeDiff, Nat.reduceEqDiff, Nat.reduceBEq, Nat.reduceBNe, Nat.reduceGT, Int.reduceAdd, Int.reduceSub, Int.reduceMul, Int.reduceNeg, Int.reduceLT, Int.reduceLE, Int.reduceEq, Int.reduceNe, Int.reduceBEq, Int.reduceBNe, Int.reduceToNat, Int.reduceGT, Int.reduceGE, ↓reduceIte, decide_true, decide_false, eq_self, Nat.mul_one, Nat.zero_mul, Nat.one_mul, Int.le_refl, Nat.le_refl, Int.cast_ofNat_Int, hO, hz, hm0]
      | false =>
        simp (decide := true) (maxSteps := 4000000) only [go_sem, Nat.reduceAdd, Nat.reduceSub, Nat.reduceMul, Nat.reduceDiv, Nat.reduceMod, Nat.reduceLT, Nat.reduceLeDiff, Nat.reduceEqDiff, Nat.reduceBEq, Nat.reduceBNe, Nat.reduceGT, Int.reduceAdd, Int.reduceSub, Int.reduceMul, Int.reduceNeg, Int.reduceLT, Int.reduceLE, Int.reduceEq, Int.reduceNe, Int.reduceBEq, Int.reduceBNe, Int.reduceToNat, Int.reduceGT, Int.reduceGE, ↓reduceIte, decide_true, decide_false, eq_self, Nat.mul_one, Nat.zero_mul, Nat.one_mul, Int.le_refl, Nat.le_refl, Int.cast_ofNat_Int, hO, h1, hm0]
noncomputable def ixCutH : List TV → Option TV
  | [.agg [.int .i64 t, .sl cs m f], .int .i64 c, .int .i64 n] => match unI cs with
    | some l => if m = l.length ∧ headOk t l = true ∧ (1 ≤ n ∧ n ≤ 2000) ∧ 0 ≤ c ∧ c < l.length then some (.tup [.sl (ints (placesTo (t * nthI l c) n n.toNat)) n.toNat false, .int .i64 (faultP (t * nthI l c) n)]) else none
    | none => none
  | _ => none
theorem ixCutH_ok : ∀ xs r, ixCutH xs = some r → PCalls Try.prog 80 xs r := by
  intro xs r h
  unfold ixCutH at h
  split at h
  · rename_i t cs m f c n
    split at h
    · rename_i l hl
      split at h
      · rename_i hc; cases h
        obtain ⟨rfl, h0, h1, h2⟩ := hc
        have e := unI_some hl
        rw [ic_ints] at e
        subst e
        have := iCutH_c f h0 h1.1 h1.2 (c := c.toNat) (by omega)
        rwa [Int.toNat_of_nonneg h2.1] at this
      · cases h
    · cases h
  · cases h
attribute [go_sem] ixCutH
theorem iEngr_c {t : Int} {l : List Int} (f : Bool) (hh : headOk t l = true) {n : Int} (hn : 1 ≤ n) (hn2 : n ≤ 2000) {c : Nat} (hc : c < l.length) {F : Int} (hF : 0 ≤ F) (hF2 : F ≤ 2000) :
    PCalls Try.prog 81 [.agg [.int .i64 t, .sl (ints l) l.length f], .int .i64 c, .int .i64 n, .int .i64 F] (.int .i64 (engrP F (n * (t * nthI l c)))) := by
  have hx : l[c]? = some l[c] := List.getElem?_eq_getElem hc
  have hd := ints_at hx
  rw [Nat.mul_one] at hd
  have hb := allB0 hh hx
  have hn' := nthI_at hx
  rw [hn']
  have hh' := headOk_iff.1 hh
  generalize l[c] = h at *
  have hlc : (c : Int) < l.length := by omega
  have m1 := mulB (a := n) (b := t) (A := 2000) (B := 400) (by omega) (by omega) (by omega) (by omega)
  have w1 : IntKind.i64.wrap (n * t) = n * t := wrap_in (by omega) (by omega)
  have m2 := mulB (a := n) (b := t * h) (A := 2000) (B := 80000) (by omega) (by omega) (by omega) (by omega)
  have w2 : IntKind.i64.wrap (n * t * h) = n * (t * h) := by rw [Int.mul_assoc]; exact wrap_in (by omega) (by omega)
  have hp := Int.mul_pos (show 0 < n by omega) (show 0 < t * h by omega)
  obtain ⟨A, hA⟩ : ∃ A, n * (t * h) = A := ⟨_, rfl⟩
  rw [hA] at w2 m2 hp ⊢
  have w3 : IntKind.i64.wrap (F * 129600000) = F * 129600000 := wrap_in (by omega) (by omega)
  have w4 : IntKind.i64.wrap (F * 129600000 + A) = F * 129600000 + A := wrap_in (by omega) (by omega)
  have w5 : IntKind.i64.wrap (F * 129600000 + A - 1) = F * 129600000 + A - 1 := wrap_in (by omega) (by omega)
  have hA0 : ¬ A = 0 := by omega
  have hq := Int.ediv_le_self A (show 0 ≤ F * 129600000 + A - 1 by omega)
  have hq0 := Int.ediv_nonneg (show 0 ≤ F * 129600000 + A - 1 by omega) (show 0 ≤ A by omega)
  have w6 : IntKind.i64.wrap ((F * 129600000 + A - 1).tdiv A) = engrP F A := by
    rw [Int.tdiv_eq_ediv_of_nonneg (by omega)]; exact wrap_in (by omega) (by omega)
  refine pcalls_by Try.mixes noSpec_ok (fn := Try.f81) Try.func81 rfl (by kernel_rfl) (by show 4 ≤ _; decide) ?_
  simp (decide := true) (maxSteps := 4000000) only [go_sem, Nat.reduceAdd, Nat.reduceSub, Nat.reduceMul, Nat.reduceDiv, Nat.reduceMod, Nat.reduceLT, Nat.reduceLeDiff, Nat.reduceEqDiff, Nat.reduceBEq, Nat.reduceBNe, Nat.reduceGT, Int.reduceAdd, Int.reduceSub, Int.reduceMul, Int.reduceNeg, Int.reduceLT, Int.reduceLE, Int.reduceEq, Int.reduceNe, Int.reduceBEq, Int.reduceBNe, Int.reduceToNat, Int.reduceGT, Int.reduceGE, ↓reduceIte, decide_true, decide_false, eq_self, Nat.mul_one, Nat.zero_mul, Nat.one_mul, Int.le_refl, Nat.le_refl, Int.cast_ofNat_Int, Try.f81, hlc, hd, w1, w2, w3, w4, w5, hA0, w6]
noncomputable def ixEngr : List TV → Option TV
  | [.agg [.int .i64 t, .sl cs m f], .int .i64 c, .int .i64 n, .int .i64 F] => match unI cs with
    | some l => if m = l.length ∧ headOk t l = true ∧ (1 ≤ n ∧ n ≤ 2000) ∧ (0 ≤ c ∧ c < l.length) ∧ 0 ≤ F ∧ F ≤ 2000 then some (.int .i64 (engrP F (n * (t * nthI l c)))) else none
    | none => none
  | _ => none
theorem ixEngr_ok : ∀ xs r, ixEngr xs = some r → PCalls Try.prog 81 xs r := by
  intro xs r h
  unfold ixEngr at h
  split at h
  · rename_i t cs m f c n F
    split at h
    · rename_i l hl
      split at h
      · rename_i hc; cases h
        obtain ⟨rfl, h0, h1, h2, h3⟩ := hc
        have e := unI_some hl
        rw [ic_ints] at e
        subst e
        have := iEngr_c f h0 h1.1 h1.2 (c := c.toNat) (by omega) h3.1 h3.2
        rwa [Int.toNat_of_nonneg h2.1] at this
      · cases h
    · cases h
  · cases h
attribute [go_sem] ixEngr
theorem iLess_c (a b c d : Int) : PCalls Try.prog 79 [.agg [.int .i64 a, .int .i64 b], .agg [.int .i64 c, .int .i64 d]] (.bool (decide (IntKind.i64.wrap (a * d) < IntKind.i64.wrap (c * b)))) := by
  refine pcalls_by Try.mixes noSpec_ok (fn := Try.f79) Try.func79 rfl (by kernel_rfl) (by show 2 ≤ _; decide) ?_
  simp (decide := true) (maxSteps := 4000000) only [go_sem, Nat.reduceAdd, Nat.reduceSub, Nat.reduceMul, Nat.reduceDiv, Nat.reduceMod, Nat.reduceLT, Nat.reduceLeDiff, Nat.reduceEqDiff, Nat.reduceBEq, Nat.reduceBNe, Nat.reduceGT, Int.reduceAdd, Int.reduceSub, Int.reduceMul, Int.reduceNeg, Int.reduceLT, Int.reduceLE, Int.reduceEq, Int.reduceNe, Int.reduceBEq, Int.reduceBNe, Int.reduceToNat, Int.reduceGT, Int.reduceGE, ↓reduceIte, decide_true, decide_false, eq_self, Nat.mul_one, Nat.zero_mul, Nat.one_mul, Int.le_refl, Nat.le_refl, Int.cast_ofNat_Int, Try.f79]
noncomputable def ixLess : List TV → Option TV
  | [.agg [.int .i64 a, .int .i64 b], .agg [.int .i64 c, .int .i64 d]] => some (.bool (decide (IntKind.i64.wrap (a * d) < IntKind.i64.wrap (c * b))))
  | _ => none
theorem ixLess_ok : ∀ xs r, ixLess xs = some r → PCalls Try.prog 79 xs r := by
  intro xs r h
  unfold ixLess at h
  split at h
  · cases h; exact iLess_c _ _ _ _
  · cases h
attribute [go_sem] ixLess
noncomputable def spZ2 : Pm.Spec := ((spU3.one 80 ixCutH).one 81 ixEngr).one 79 ixLess
@[go_sem] theorem spZ2_p (f : FuncId) (xs : List TV) : spZ2.p f xs = Pm.Spec.p (((spU3.one 80 ixCutH).one 81 ixEngr).one 79 ixLess) f xs := rfl
@[go_sem] theorem spZ2_h (f : FuncId) (ps : List PV) (hl : List PO) : spZ2.h f ps hl = Pm.Spec.h (((spU3.one 80 ixCutH).one 81 ixEngr).one 79 ixLess) f ps hl := rfl
@[go_sem] theorem spZ2_y (Y : Pm.YS) (f : FuncId) (ps : List PV) (hl : List PO) : spZ2.y Y f ps hl = Pm.Spec.y (((spU3.one 80 ixCutH).one 81 ixEngr).one 79 ixLess) Y f ps hl := rfl
@[go_sem] theorem spZ2_fz (f : FuncId) : spZ2.fz f = Pm.Spec.fz (((spU3.one 80 ixCutH).one 81 ixEngr).one 79 ixLess) f := rfl
@[go_sem] theorem spZ2_fr (f : FuncId) : spZ2.fr f = Pm.Spec.fr (((spU3.one 80 ixCutH).one 81 ixEngr).one 79 ixLess) f := rfl
@[go_sem] theorem spZ2_yf (f : FuncId) : spZ2.yf f = Pm.Spec.yf (((spU3.one 80 ixCutH).one 81 ixEngr).one 79 ixLess) f := rfl
@[go_sem] theorem spZ2_mu (t : TypeId) : spZ2.mu t = Pm.Spec.mu (((spU3.one 80 ixCutH).one 81 ixEngr).one 79 ixLess) t := rfl
@[go_sem] theorem spZ2_nf (t : TypeId) : spZ2.nf t = Pm.Spec.nf (((spU3.one 80 ixCutH).one 81 ixEngr).one 79 ixLess) t := rfl
theorem spZ2_ok : SpecOk Try.prog spZ2 := Spec.one_ok ixLess_ok (Spec.one_ok ixEngr_ok (Spec.one_ok ixCutH_ok spU3_ok))
end Go.Proofs.Ytadkjjnnnkfalaa.Ix

/- Part Ic. -/
namespace Go.Oc.Ix
end Go.Oc.Ix
namespace Go.Proofs.Ytadkjjnnnkfalaa.Ix
end Go.Proofs.Ytadkjjnnnkfalaa.Ix
namespace Go.Oc.Ix
open Go Go.Pm
set_option maxRecDepth 100000
def badW (x : Int) : Bool := !inB x 10 200
def idxBad (l : List Int) : Int := (fsTo (fun i => if badW (nthI l i) then some (i : Int) else none) l.length).getD (-1)
theorem stockOk1_iff {st : List Int} : stockOk1 st = true ↔ (2 ≤ st.length ∧ st.length ≤ 10) ∧ ∀ x ∈ st, 10 ≤ x ∧ x ≤ 200 := by
  simp only [stockOk1, Bool.and_eq_true, inB_iff, List.all_eq_true]
  constructor
  · rintro ⟨h, h2⟩; exact ⟨by omega, h2⟩
  · rintro ⟨h, h2⟩; exact ⟨by omega, h2⟩
/-- The best circle before the k-th one, its fault and its holes, as the program has them. -/
def bS (t : Int) (l : List Int) (n : Int) : Nat → Int × Int × Int
  | 0 => (0, 0, 0)
  | k + 1 => ((bestK t l n k).1, (bestK t l n k).2, nthI l (bestK t l n k).1)
theorem bS_first (t : Int) (l : List Int) (n : Int) {k : Nat} (h : k = 0) {x : Int} (hx : nthI l k = x) : bS t l n (k + 1) = ((k : Int), faultP (t * x) n, x) := by
  subst h
  have e : nthI l 0 = x := hx
  show ((0 : Int), faultP (t * nthI l 0) n, nthI l 0) = _
  rw [e]; rfl
theorem bS_next (t : Int) (l : List Int) (n : Int) {k : Nat} (h : ¬ k = 0) {x : Int} (hx : nthI l k = x) : bS t l n (k + 1) = if faultP (t * x) n * (bS t l n k).2.2 < (bS t l n k).2.1 * x then ((k : Int), faultP (t * x) n, x) else bS t l n k := by
  cases k with
  | zero => exact absurd rfl h
  | succ k =>
    have e : bestK t l n (k + 1) = if faultP (t * x) n * nthI l (bestK t l n k).1 < (bestK t l n k).2 * x then (((k + 1 : Nat) : Int), faultP (t * x) n) else bestK t l n k := by rw [bestK, hx]
    show ((bestK t l n (k + 1)).1, (bestK t l n (k + 1)).2, nthI l (bestK t l n (k + 1)).1) = if faultP (t * x) n * nthI l (bestK t l n k).1 < (bestK t l n k).2 * x then (((k + 1 : Nat) : Int), faultP (t * x) n, x) else ((bestK t l n k).1, (bestK t l n k).2, nthI l (bestK t l n k).1)
    rw [e]
    by_cases hc : faultP (t * x) n * nthI l (bestK t l n k).1 < (bestK t l n k).2 * x
    · rw [if_pos hc, if_pos hc]; simp only [hx]
    · rw [if_neg hc, if_neg hc]
theorem bS_bound (t : Int) {l : List Int} {n : Int} (hn : 1 ≤ n) (hn2 : n ≤ 2000) (hl : ∀ k : Nat, k < l.length → 0 ≤ nthI l k ∧ nthI l k ≤ 200) (k : Nat) (hk : k ≤ l.length) : (0 ≤ (bS t l n k).2.1 ∧ (bS t l n k).2.1 ≤ 2000) ∧ 0 ≤ (bS t l n k).2.2 ∧ (bS t l n k).2.2 ≤ 200 := by
  cases k with
  | zero => simp [bS]
  | succ k =>
    obtain ⟨b1, b2, b3⟩ := bestK_spec t l n k
    simp only [bS]
    obtain ⟨j, hj⟩ := Int.eq_ofNat_of_zero_le b1
    have h1 := hl j (by omega)
    rw [← hj] at h1
    have hf := faultTo_bound (all := t * nthI l (bestK t l n k).1) (n := n) (by omega) n.toNat
    rw [b3]
    unfold faultP
    omega
theorem idxBad_iff (l : List Int) : decide (idxBad l ≥ 0) = !(l.all fun n => inB n 10 200) := by
  unfold idxBad
  cases h : fsTo (fun i => if badW (nthI l i) then some (i : Int) else none) l.length with
  | some k =>
    obtain ⟨i, hi, _, hk⟩ := fsTo_some h
    split at hk
    · rename_i hb
      cases hk
      have e : (l.all fun n => inB n 10 200) = false := by
        rw [List.all_eq_false]
        have hx : l[i]? = some l[i] := List.getElem?_eq_getElem hi
        refine ⟨l[i], List.getElem_mem _, ?_⟩
        rw [nthI_at hx] at hb
        simpa [badW] using hb
      rw [e]; simp
    · cases hk
  | none =>
    have e : (l.all fun n => inB n 10 200) = true := by
      rw [List.all_eq_true]
      intro x hx
      obtain ⟨i, hi⟩ := List.mem_iff_getElem?.1 hx
      have := fsTo_none.1 h i (List.getElem?_eq_some_iff.1 hi).1
      rw [nthI_at hi] at this
      split at this
      · cases this
      · rename_i hb; simpa [badW] using hb
    rw [e]; rfl
end Go.Oc.Ix
namespace Go.Proofs.Ytadkjjnnnkfalaa.Ix
open Go.RowKit Go.Pm Go.Oc Go.Oc.Ix
set_option maxRecDepth 100000
set_option linter.unusedVariables false
set_option maxHeartbeats 4000000

theorem iCut_c (t : Int) {l : List Int} {s : TV} (hl : IsRow ic s l) (hll : l.length ≤ 17592186044415) (c n : Int) : PCalls Try.prog 41 [.agg [.int .i64 t, s], .int .i64 c, .int .i64 n] (.tup [rowG ic (cutE t l c n).1, .int .i64 (cutE t l c n).2.1, .int .i64 (cutE t l c n).2.2]) := by
  have rI := rowI_is hl
  unfold rowL at rI
  have hop : openE t l n 2000 = if headOk t l = false then 10 else if inB n 1 2000 = false then 11 else 0 := rfl
  have e0 : rowG ic [] = .nilSl := rfl
  refine pcalls_by Try.mixes spZ2_ok (fn := Try.f41) Try.func41 rfl (by kernel_rfl) (by show 3 ≤ _; decide) ?_
  unfold cutE
  cases h1 : headOk t l with
  | false =>
    rw [h1] at hop
    simp only [if_true] at hop
    simp (decide := true) (maxSteps := 4000000) only [go_sem, Nat.reduceAdd, Nat.reduceSub, Nat.reduceMul, Nat.reduceDiv, Nat.reduceMod, Nat.reduceLT, Nat.reduceLeDiff, Nat.reduceEqDiff, Nat.reduceBEq, Nat.reduceBNe, Nat.reduceGT, Int.reduceAdd, Int.reduceSub, Int.reduceMul, Int.reduceNeg, Int.reduceLT, Int.reduceLE, Int.reduceEq, Int.reduceNe, Int.reduceBEq, Int.reduceBNe, Int.reduceToNat, Int.reduceGT, Int.reduceGE, ↓reduceIte, decide_true, decide_false, eq_self, Nat.mul_one, Nat.zero_mul, Nat.one_mul, Int.le_refl, Nat.le_refl, Int.cast_ofNat_Int, Try.f41, rI, hll, hop, e0]
  | true =>
    rw [h1] at hop
    simp only [Bool.true_eq_false, if_false] at hop
    cases h2 : inB n 1 2000 with
    | false =>
      rw [h2] at hop
      simp only [if_true] at hop
      simp (decide := true) (maxSteps := 4000000) only [go_sem, Nat.reduceAdd, Nat.reduceSub, Nat.reduceMul, Nat.reduceDiv, Nat.reduceMod, Nat.reduceLT, Nat.reduceLeDiff, Nat.reduceEqDiff, Nat.reduceBEq, Nat.reduceBNe, Nat.reduceGT, Int.reduceAdd, Int.reduceSub, Int.reduceMul, Int.reduceNeg, Int.reduceLT, Int.reduceLE, Int.reduceEq, Int.reduceNe, Int.reduceBEq, Int.reduceBNe, Int.reduceToNat, Int.reduceGT, Int.reduceGE, ↓reduceIte, decide_true, decide_false, eq_self, Nat.mul_one, Nat.zero_mul, Nat.one_mul, Int.le_refl, Nat.le_refl, Int.cast_ofNat_Int, Try.f41, rI, hll, hop, e0]
    | true =>
      rw [h2] at hop
      simp only [Bool.true_eq_false, if_false] at hop
      have hh := headOk_iff.1 h1
      have hn := inB_iff.1 h2
      obtain ⟨f, rfl⟩ := hl.ne (by omega)
      rw [ic_ints] at rI ⊢
      simp only [unI_eq, if_true] at rI
      have wl : IntKind.i64.wrap ((l.length : Int) - 1) = (l.length : Int) - 1 := wrap_in (by omega) (by omega)
      cases h3 : inB c 0 ((l.length : Int) - 1) with
      | false => simp (decide := true) (maxSteps := 4000000) only [go_sem, Nat.reduceAdd, Nat.reduceSub, Nat.reduceMul, Nat.reduceDiv, Nat.reduceMod, Nat.reduceLT, Nat.reduceLeDiff, Nat.reduceEqDiff, Nat.reduceBEq, Nat.reduceBNe, Nat.reduceGT, Int.reduceAdd, Int.reduceSub, Int.reduceMul, Int.reduceNeg, Int.reduceLT, Int.reduceLE, Int.reduceEq, Int.reduceNe, Int.reduceBEq, Int.reduceBNe, Int.reduceToNat, Int.reduceGT, Int.reduceGE, ↓reduceIte, decide_true, decide_false, eq_self, Nat.mul_one, Nat.zero_mul, Nat.one_mul, Int.le_refl, Nat.le_refl, Int.cast_ofNat_Int, Try.f41, rI, hll, hop, wl, h3, e0]
      | true =>
        have hc := inB_iff.1 h3
        have hc2 : 0 ≤ c ∧ c < (l.length : Int) := by omega
        have hf := faultTo_bound (all := t * nthI l c) (n := n) (by omega) n.toNat
        have hf2 : 0 ≤ faultP (t * nthI l c) n ∧ faultP (t * nthI l c) n ≤ 2000 := by unfold faultP; omega
        have er : rowG ic ((List.range n.toNat).map fun k : Nat => placeP (t * nthI l c) n k) = .sl (ints (placesTo (t * nthI l c) n n.toNat)) n.toNat false := by
          unfold rowG
          rw [ic_ints, if_neg (by simp; omega)]
          simp [placesTo]
        simp (decide := true) (maxSteps := 4000000) only [go_sem, Nat.reduceAdd, Nat.reduceSub, Nat.reduceMul, Nat.reduceDiv, Nat.reduceMod, Nat.reduceLT, Nat.reduceLeDiff, Nat.reduceEqDiff, Nat.reduceBEq, Nat.reduceBNe, Nat.reduceGT, Int.reduceAdd, Int.reduceSub, Int.reduceMul, Int.reduceNeg, Int.reduceLT, Int.reduceLE, Int.reduceEq, Int.reduceNe, Int.reduceBEq, Int.reduceBNe, Int.reduceToNat, Int.reduceGT, Int.reduceGE, ↓reduceIte, decide_true, decide_false, eq_self, Nat.mul_one, Nat.zero_mul, Nat.one_mul, Int.le_refl, Nat.le_refl, Int.cast_ofNat_Int, Try.f41, rI, hll, hop, wl, h3, unI_eq, h1, hn, hc2, hf2, er]
theorem iBestE_c (t : Int) {l : List Int} {s : TV} (hl : IsRow ic s l) (hll : l.length ≤ 17592186044415) (n : Int) : PCalls Try.prog 40 [.agg [.int .i64 t, s], .int .i64 n] (.tup [.int .i64 (bestE t l n).1, .int .i64 (bestE t l n).2.1, .int .i64 (bestE t l n).2.2]) := by
  have rI := rowI_is hl
  unfold rowL at rI
  have hop : openE t l n 2000 = if headOk t l = false then 10 else if inB n 1 2000 = false then 11 else 0 := rfl
  refine pcalls_by Try.mixes spZ2_ok (fn := Try.f40) Try.func40 rfl (by kernel_rfl) (by show 2 ≤ _; decide) ?_
  unfold bestE
  cases h1 : headOk t l with
  | false =>
    rw [h1] at hop
    simp only [if_true] at hop
    simp (decide := true) (maxSteps := 4000000) only [go_sem, Nat.reduceAdd, Nat.reduceSub, Nat.reduceMul, Nat.reduceDiv, Nat.reduceMod, Nat.reduceLT, Nat.reduceLeDiff, Nat.reduceEqDiff, Nat.reduceBEq, Nat.reduceBNe, Nat.reduceGT, Int.reduceAdd, Int.reduceSub, Int.reduceMul, Int.reduceNeg, Int.reduceLT, Int.reduceLE, Int.reduceEq, Int.reduceNe, Int.reduceBEq, Int.reduceBNe, Int.reduceToNat, Int.reduceGT, Int.reduceGE, ↓reduceIte, decide_true, decide_false, eq_self, Nat.mul_one, Nat.zero_mul, Nat.one_mul, Int.le_refl, Nat.le_refl, Int.cast_ofNat_Int, Try.f40, rI, hll, hop]
  | true =>
    rw [h1] at hop
    simp only [Bool.true_eq_false, if_false] at hop
    cases h2 : inB n 1 2000 with
    | false =>
      rw [h2] at hop
      simp only [if_true] at hop
      simp (decide := true) (maxSteps := 4000000) only [go_sem, Nat.reduceAdd, Nat.reduceSub, Nat.reduceMul, Nat.reduceDiv, Nat.reduceMod, Nat.reduceLT, Nat.reduceLeDiff, Nat.reduceEqDiff, Nat.reduceBEq, Nat.reduceBNe, Nat.reduceGT, Int.reduceAdd, Int.reduceSub, Int.reduceMul, Int.reduceNeg, Int.reduceLT, Int.reduceLE, Int.reduceEq, Int.reduceNe, Int.reduceBEq, Int.reduceBNe, Int.reduceToNat, Int.reduceGT, Int.reduceGE, ↓reduceIte, decide_true, decide_false, eq_self, Nat.mul_one, Nat.zero_mul, Nat.one_mul, Int.le_refl, Nat.le_refl, Int.cast_ofNat_Int, Try.f40, rI, hll, hop]
    | true =>
      rw [h2] at hop
      simp only [Bool.true_eq_false, if_false] at hop
      have hh := headOk_iff.1 h1
      have hn := inB_iff.1 h2
      obtain ⟨f, rfl⟩ := hl.ne (by omega)
      rw [ic_ints] at rI ⊢
      simp only [unI_eq, if_true] at rI
      simp (decide := true) (maxSteps := 4000000) only [go_sem, Nat.reduceAdd, Nat.reduceSub, Nat.reduceMul, Nat.reduceDiv, Nat.reduceMod, Nat.reduceLT, Nat.reduceLeDiff, Nat.reduceEqDiff, Nat.reduceBEq, Nat.reduceBNe, Nat.reduceGT, Int.reduceAdd, Int.reduceSub, Int.reduceMul, Int.reduceNeg, Int.reduceLT, Int.reduceLE, Int.reduceEq, Int.reduceNe, Int.reduceBEq, Int.reduceBNe, Int.reduceToNat, Int.reduceGT, Int.reduceGE, ↓reduceIte, decide_true, decide_false, eq_self, Nat.mul_one, Nat.zero_mul, Nat.one_mul, Int.le_refl, Nat.le_refl, Int.cast_ofNat_Int, Try.f40, rI, hll, hop]
      have hnl : ∀ k : Nat, k < l.length → 0 ≤ nthI l k ∧ nthI l k ≤ 200 := fun k hk => by
        have e : l[k]? = some l[k] := List.getElem?_eq_getElem hk
        rw [nthI_at e]; have := head_at h1 e; omega
      refine pwpC_loopU (A := { k : Nat // k ≤ l.length }) [1, 5, 6, 7, 8, 9, 26, 27] (fun k => [(28, .t (.int .i64 k.1)), (4, .t (.int .i64 (bS t l n k.1).1))]) (fun k => [(2, .box [.t (.int .i64 (bS t l n k.1).2.1), .t (.int .i64 (bS t l n k.1).2.2)])]) (fun k => l.length - k.1) ⟨0, by omega⟩ (by decide) (fun _ => by rfl) ?_ fun Q1 hQ1 ⟨k, hk⟩ I1 hI1 => ?_
      · simp (decide := true) (maxSteps := 4000000) only [go_sem, Nat.reduceAdd, Nat.reduceSub, Nat.reduceMul, Nat.reduceDiv, Nat.reduceMod, Nat.reduceLT, Nat.reduceLeDiff, Nat.reduceEqDiff, Nat.reduceBEq, Nat.reduceBNe, Nat.reduceGT, Int.reduceAdd, Int.reduceSub, Int.reduceMul, Int.reduceNeg, Int.reduceLT, Int.reduceLE, Int.reduceEq, Int.reduceNe, Int.reduceBEq, Int.reduceBNe, Int.reduceToNat, Int.reduceGT, Int.reduceGE, ↓reduceIte, decide_true, decide_false, eq_self, Nat.mul_one, Nat.zero_mul, Nat.one_mul, Int.le_refl, Nat.le_refl, Int.cast_ofNat_Int, bS]
        first | done | exact ⟨rfl, rfl⟩ | rfl
      · by_cases hlt : (k : Int) < l.length
        · obtain ⟨h, hx⟩ := get_lt hlt
          have hd := ints_at hx
          rw [Nat.mul_one] at hd
          have hnk := nthI_at hx
          have hbk := head_at h1 hx
          have hc1 : IntKind.i64.wrap (k + 1) = ((k + 1 : Nat) : Int) := by rw [wrap_in (by omega) (by omega)]; omega
          have c1 : (0 : Int) ≤ (k : Int) ∧ (k : Int) < (l.length : Int) := by omega
          have hf := faultTo_bound (all := t * h) (n := n) (by omega) n.toNat
          have hf2 : 0 ≤ faultP (t * h) n ∧ faultP (t * h) n ≤ 2000 := by unfold faultP; omega
          have hbd := bS_bound t hn.1 hn.2 hnl k hk
          by_cases hk0 : k = 0
          · have e1 : ((k : Int) == 0) = true := beq_int_t (by omega)
            have hS := bS_first t l n hk0 hnk
            simp (decide := true) (maxSteps := 4000000) only [go_sem, Nat.reduceAdd, Nat.reduceSub, Nat.reduceMul, Nat.reduceDiv, Nat.reduceMod, Nat.reduceLT, Nat.reduceLeDiff, Nat.reduceEqDiff, Nat.reduceBEq, Nat.reduceBNe, Nat.reduceGT, Int.reduceAdd, Int.reduceSub, Int.reduceMul, Int.reduceNeg, Int.reduceLT, Int.reduceLE, Int.reduceEq, Int.reduceNe, Int.reduceBEq, Int.reduceBNe, Int.reduceToNat, Int.reduceGT, Int.reduceGE, ↓reduceIte, decide_true, decide_false, eq_self, Nat.mul_one, Nat.zero_mul, Nat.one_mul, Int.le_refl, Nat.le_refl, Int.cast_ofNat_Int, hlt, hd, unI_eq, h1, hn, c1, hnk, e1]
            refine hI1 _ ⟨k + 1, by omega⟩ (by simp only; omega) ?_
            simp (decide := true) (maxSteps := 4000000) only [go_sem, Nat.reduceAdd, Nat.reduceSub, Nat.reduceMul, Nat.reduceDiv, Nat.reduceMod, Nat.reduceLT, Nat.reduceLeDiff, Nat.reduceEqDiff, Nat.reduceBEq, Nat.reduceBNe, Nat.reduceGT, Int.reduceAdd, Int.reduceSub, Int.reduceMul, Int.reduceNeg, Int.reduceLT, Int.reduceLE, Int.reduceEq, Int.reduceNe, Int.reduceBEq, Int.reduceBNe, Int.reduceToNat, Int.reduceGT, Int.reduceGE, ↓reduceIte, decide_true, decide_false, eq_self, Nat.mul_one, Nat.zero_mul, Nat.one_mul, Int.le_refl, Nat.le_refl, Int.cast_ofNat_Int, hc1, hS]
          · have e1 : ((k : Int) == 0) = false := beq_int_f (by omega)
            have hS := bS_next t l n hk0 hnk
            obtain ⟨⟨X, Y, Z⟩, hX⟩ : ∃ X, bS t l n k = X := ⟨_, rfl⟩
            rw [hX] at hS hbd
            simp only at hS hbd
            obtain ⟨F, hF⟩ : ∃ F, faultP (t * h) n = F := ⟨_, rfl⟩
            rw [hF] at hf2 hS
            have m1 := mulB (a := F) (b := Z) (A := 2000) (B := 200) (by omega) (by omega) (by omega) (by omega)
            have m2 := mulB (a := Y) (b := h) (A := 2000) (B := 200) (by omega) (by omega) (by omega) (by omega)
            have w1 : IntKind.i64.wrap (F * Z) = F * Z := wrap_in (by omega) (by omega)
            have w2 : IntKind.i64.wrap (Y * h) = Y * h := wrap_in (by omega) (by omega)
            by_cases hc : F * Z < Y * h
            · rw [if_pos hc] at hS
              simp (decide := true) (maxSteps := 4000000) only [go_sem, Nat.reduceAdd, Nat.reduceSub, Nat.reduceMul, Nat.reduceDiv, Nat.reduceMod, Nat.reduceLT, Nat.reduceLeDiff, Nat.reduceEqDiff, Nat.reduceBEq, Nat.reduceBNe, Nat.reduceGT, Int.reduceAdd, Int.reduceSub, Int.reduceMul, Int.reduceNeg, Int.reduceLT, Int.reduceLE, Int.reduceEq, Int.reduceNe, Int.reduceBEq, Int.reduceBNe, Int.reduceToNat, Int.reduceGT, Int.reduceGE, ↓reduceIte, decide_true, decide_false, eq_self, Nat.mul_one, Nat.zero_mul, Nat.one_mul, Int.le_refl, Nat.le_refl, Int.cast_ofNat_Int, hlt, hd, unI_eq, h1, hn, c1, hnk, e1, hX, hF, w1, w2, hc]
              refine hI1 _ ⟨k + 1, by omega⟩ (by simp only; omega) ?_
              simp (decide := true) (maxSteps := 4000000) only [go_sem, Nat.reduceAdd, Nat.reduceSub, Nat.reduceMul, Nat.reduceDiv, Nat.reduceMod, Nat.reduceLT, Nat.reduceLeDiff, Nat.reduceEqDiff, Nat.reduceBEq, Nat.reduceBNe, Nat.reduceGT, Int.reduceAdd, Int.reduceSub, Int.reduceMul, Int.reduceNeg, Int.reduceLT, Int.reduceLE, Int.reduceEq, Int.reduceNe, Int.reduceBEq, Int.reduceBNe, Int.reduceToNat, Int.reduceGT, Int.reduceGE, ↓reduceIte, decide_true, decide_false, eq_self, Nat.mul_one, Nat.zero_mul, Nat.one_mul, Int.le_refl, Nat.le_refl, Int.cast_ofNat_Int, hc1, hS]
            · rw [if_neg hc] at hS
              simp (decide := true) (maxSteps := 4000000) only [go_sem, Nat.reduceAdd, Nat.reduceSub, Nat.reduceMul, Nat.reduceDiv, Nat.reduceMod, Nat.reduceLT, Nat.reduceLeDiff, Nat.reduceEqDiff, Nat.reduceBEq, Nat.reduceBNe, Nat.reduceGT, Int.reduceAdd, Int.reduceSub, Int.reduceMul, Int.reduceNeg, Int.reduceLT, Int.reduceLE, Int.reduceEq, Int.reduceNe, Int.reduceBEq, Int.reduceBNe, Int.reduceToNat, Int.reduceGT, Int.reduceGE, ↓reduceIte, decide_true, decide_false, eq_self, Nat.mul_one, Nat.zero_mul, Nat.one_mul, Int.le_refl, Nat.le_refl, Int.cast_ofNat_Int, hlt, hd, unI_eq, h1, hn, c1, hnk, e1, hX, hF, w1, w2, hc]
              refine hI1 _ ⟨k + 1, by omega⟩ (by simp only; omega) ?_
              simp (decide := true) (maxSteps := 4000000) only [go_sem, Nat.reduceAdd, Nat.reduceSub, Nat.reduceMul, Nat.reduceDiv, Nat.reduceMod, Nat.reduceLT, Nat.reduceLeDiff, Nat.reduceEqDiff, Nat.reduceBEq, Nat.reduceBNe, Nat.reduceGT, Int.reduceAdd, Int.reduceSub, Int.reduceMul, Int.reduceNeg, Int.reduceLT, Int.reduceLE, Int.reduceEq, Int.reduceNe, Int.reduceBEq, Int.reduceBNe, Int.reduceToNat, Int.reduceGT, Int.reduceGE, ↓reduceIte, decide_true, decide_false, eq_self, Nat.mul_one, Nat.zero_mul, Nat.one_mul, Int.le_refl, Nat.le_refl, Int.cast_ofNat_Int, hc1, hS]
        · have hke : k = l.length := by omega
          subst hke
          obtain ⟨j, hj⟩ : ∃ j, l.length = j + 1 := ⟨l.length - 1, by omega⟩
          obtain ⟨b1, b2, b3⟩ := bestK_spec t l n (l.length - 1)
          have hbd := bS_bound t hn.1 hn.2 hnl l.length hk
          have hS : bS t l n l.length = ((bestK t l n (l.length - 1)).1, (bestK t l n (l.length - 1)).2, nthI l (bestK t l n (l.length - 1)).1) := by
            rw [hj]; rfl
          rw [hS] at hbd
          simp only at hbd
          have c1 : 0 ≤ (bestK t l n (l.length - 1)).1 ∧ (bestK t l n (l.length - 1)).1 < (l.length : Int) := by omega
          simp (decide := true) (maxSteps := 4000000) only [go_sem, Nat.reduceAdd, Nat.reduceSub, Nat.reduceMul, Nat.reduceDiv, Nat.reduceMod, Nat.reduceLT, Nat.reduceLeDiff, Nat.reduceEqDiff, Nat.reduceBEq, Nat.reduceBNe, Nat.reduceGT, Int.reduceAdd, Int.reduceSub, Int.reduceMul, Int.reduceNeg, Int.reduceLT, Int.reduceLE, Int.reduceEq, Int.reduceNe, Int.reduceBEq, Int.reduceBNe, Int.reduceToNat, Int.reduceGT, Int.reduceGE, ↓reduceIte, decide_true, decide_false, eq_self, Nat.mul_one, Nat.zero_mul, Nat.one_mul, Int.le_refl, Nat.le_refl, Int.cast_ofNat_Int, hlt]
          refine hQ1 _ _ ?_
          simp (decide := true) (maxSteps := 4000000) only [go_sem, Nat.reduceAdd, Nat.reduceSub, Nat.reduceMul, Nat.reduceDiv, Nat.reduceMod, Nat.reduceLT, Nat.reduceLeDiff, Nat.reduceEqDiff, Nat.reduceBEq, Nat.reduceBNe, Nat.reduceGT, Int.reduceAdd, Int.reduceSub, Int.reduceMul, Int.reduceNeg, Int.reduceLT, Int.reduceLE, Int.reduceEq, Int.reduceNe, Int.reduceBEq, Int.reduceBNe, Int.reduceToNat, Int.reduceGT, Int.reduceGE, ↓reduceIte, decide_true, decide_false, eq_self, Nat.mul_one, Nat.zero_mul, Nat.one_mul, Int.le_refl, Nat.le_refl, Int.cast_ofNat_Int, hS, unI_eq, h1, hn, c1, hbd]
end Go.Proofs.Ytadkjjnnnkfalaa.Ix

/- Part Iq. -/
namespace Go.Oc.Ix
end Go.Oc.Ix
namespace Go.Proofs.Ytadkjjnnnkfalaa.Ix
end Go.Proofs.Ytadkjjnnnkfalaa.Ix
namespace Go.Oc.Ix
open Go Go.Pm
set_option maxRecDepth 100000
set_option linter.unusedVariables false
/-- What a train is. -/
theorem train_some {st : List Int} {p q : Int} {t : Tn} (h : trainP st p q = some t) :
    (∃ a b : Nat, a < st.length ∧ b < st.length ∧ a ≠ b ∧ nthI st a * q = nthI st b * p ∧ t = ⟨a, b, -1, -1⟩) ∨
    ((∀ a b : Nat, a < st.length → b < st.length → a ≠ b → nthI st a * q ≠ nthI st b * p) ∧ ∃ a b c d : Nat, (a < st.length ∧ b < st.length ∧ c < st.length ∧ d < st.length) ∧ (a ≠ b ∧ a ≠ c ∧ a ≠ d ∧ b ≠ c ∧ b ≠ d ∧ c ≠ d) ∧ nthI st a * nthI st c * q = nthI st b * nthI st d * p ∧ t = ⟨a, b, c, d⟩) := by
  rw [← train_ref] at h
  unfold trainR at h
  cases h2 : fsTo (fun a => fsTo (r2 st p q a) st.length) st.length with
  | some t' =>
    rw [h2] at h; cases h
    obtain ⟨a, ha, _, h2⟩ := fsTo_some h2
    obtain ⟨b, hb, _, h2⟩ := fsTo_some h2
    unfold r2 at h2
    split at h2
    · rename_i hc; cases h2; exact .inl ⟨a, b, ha, hb, hc.1, hc.2, rfl⟩
    · cases h2
  | none =>
    rw [h2] at h
    right
    constructor
    · intro a b ha hb hab he
      have := fsTo_none.1 (fsTo_none.1 h2 a ha) b hb
      unfold r2 at this
      rw [if_pos ⟨hab, he⟩] at this; cases this
    · obtain ⟨a, ha, _, h⟩ := fsTo_some h
      obtain ⟨b, hb, _, h⟩ := fsTo_some h
      obtain ⟨c, hc, _, h⟩ := fsTo_some h
      obtain ⟨d, hd, _, h⟩ := fsTo_some h
      unfold r4 at h
      split at h
      · rename_i hx; cases h; exact ⟨a, b, c, d, ⟨ha, hb, hc, hd⟩, hx.1, hx.2, rfl⟩
      · cases h
theorem train_none {st : List Int} {p q : Int} (h : trainP st p q = none) :
    (∀ a b : Nat, a < st.length → b < st.length → a ≠ b → nthI st a * q ≠ nthI st b * p) ∧ ∀ a b c d : Nat, a < st.length → b < st.length → c < st.length → d < st.length → (a ≠ b ∧ a ≠ c ∧ a ≠ d ∧ b ≠ c ∧ b ≠ d ∧ c ≠ d) → nthI st a * nthI st c * q ≠ nthI st b * nthI st d * p := by
  rw [← train_ref] at h
  unfold trainR at h
  cases h2 : fsTo (fun a => fsTo (r2 st p q a) st.length) st.length with
  | some t' => rw [h2] at h; cases h
  | none =>
    rw [h2] at h
    constructor
    · intro a b ha hb hab he
      have := fsTo_none.1 (fsTo_none.1 h2 a ha) b hb
      unfold r2 at this
      rw [if_pos ⟨hab, he⟩] at this; cases this
    · intro a b c d ha hb hc hd hx he
      have := fsTo_none.1 (fsTo_none.1 (fsTo_none.1 (fsTo_none.1 h a ha) b hb) c hc) d hd
      unfold r4 at this
      rw [if_pos ⟨hx, he⟩] at this; cases this
theorem train_times {st : List Int} {p q k : Int} (hk : 0 < k) : trainP st (p * k) (q * k) = trainP st p q := by
  rw [← train_ref, ← train_ref]
  have e : ∀ x y : Int, (x * (q * k) = y * (p * k)) ↔ (x * q = y * p) := fun x y => by
    rw [← Int.mul_assoc, ← Int.mul_assoc]
    exact ⟨fun h => Int.eq_of_mul_eq_mul_right (by omega) h, fun h => by rw [h]⟩
  have e2 : r2 st (p * k) (q * k) = r2 st p q := by
    funext a b; unfold r2; simp only [e]
  have e4 : r4 st (p * k) (q * k) = r4 st p q := by
    funext a b c d; unfold r4; simp only [e]
  unfold trainR
  rw [e2, e4]
/-- What a train multiplies and divides by; false: it is none of a stock. -/
def ratioP (st : List Int) (t : Tn) : Int × Int × Bool :=
  if (!inB t.a 0 ((st.length : Int) - 1) || !inB t.b 0 ((st.length : Int) - 1) || t.a == t.b) = true then (0, 0, false)
  else if (t.c == -1 && t.d == -1) = true then (nthI st t.a, nthI st t.b, true)
  else if (!inB t.c 0 ((st.length : Int) - 1) || !inB t.d 0 ((st.length : Int) - 1) || t.c == t.d || t.a == t.c || t.a == t.d || t.b == t.c || t.b == t.d) = true then (0, 0, false)
  else (nthI st t.a * nthI st t.c, nthI st t.b * nthI st t.d, true)
theorem inB_nat {k n : Nat} (h : k < n) : inB k 0 ((n : Int) - 1) = true := inB_iff.2 ⟨by omega, by omega⟩
theorem ratio_two {st : List Int} {a b : Nat} (ha : a < st.length) (hb : b < st.length) (hab : a ≠ b) : ratioP st ⟨a, b, -1, -1⟩ = (nthI st a, nthI st b, true) := by
  unfold ratioP
  have h : ((a : Int) == b) = false := beq_int_f (by omega)
  simp [inB_nat ha, inB_nat hb, h]
theorem ratio_four {st : List Int} {a b c d : Nat} (ha : a < st.length) (hb : b < st.length) (hc : c < st.length) (hd : d < st.length) (hx : a ≠ b ∧ a ≠ c ∧ a ≠ d ∧ b ≠ c ∧ b ≠ d ∧ c ≠ d) :
    ratioP st ⟨a, b, c, d⟩ = (nthI st a * nthI st c, nthI st b * nthI st d, true) := by
  unfold ratioP
  have h1 : ((a : Int) == b) = false := beq_int_f (by omega)
  have h2 : ((c : Int) == -1) = false := beq_int_f (by omega)
  have h3 : ((c : Int) == d) = false := beq_int_f (by omega)
  have h4 : ((a : Int) == c) = false := beq_int_f (by omega)
  have h5 : ((a : Int) == d) = false := beq_int_f (by omega)
  have h6 : ((b : Int) == c) = false := beq_int_f (by omega)
  have h7 : ((b : Int) == d) = false := beq_int_f (by omega)
  simp [inB_nat ha, inB_nat hb, inB_nat hc, inB_nat hd, h1, h2, h3, h4, h5, h6, h7]
/-- A train gives its ratio. -/
theorem train_ratio {st : List Int} {p q : Int} {t : Tn} (h : trainP st p q = some t) : ∃ P Q, ratioP st t = (P, Q, true) ∧ P * q = Q * p := by
  rcases train_some h with ⟨a, b, ha, hb, hab, he, rfl⟩ | ⟨_, a, b, c, d, ⟨ha, hb, hc, hd⟩, hx, he, rfl⟩
  · exact ⟨_, _, ratio_two ha hb hab, he⟩
  · exact ⟨_, _, ratio_four ha hb hc hd hx, he⟩
theorem train_swap {st : List Int} {p q : Int} {t : Tn} (h : trainP st p q = some t) : ∃ u, trainP st q p = some u ∧ (t.c < 0 ↔ u.c < 0) := by
  rcases train_some h with ⟨a, b, ha, hb, hab, he, rfl⟩ | ⟨hno, a, b, c, d, ⟨ha, hb, hc, hd⟩, hx, he, rfl⟩
  · cases hu : trainP st q p with
    | none => exact absurd he.symm ((train_none hu).1 b a hb ha (Ne.symm hab))
    | some u =>
      refine ⟨u, rfl, ?_⟩
      rcases train_some hu with ⟨_, _, _, _, _, _, rfl⟩ | ⟨hno, _⟩
      · simp
      · exact absurd he.symm (hno b a hb ha (Ne.symm hab))
  · cases hu : trainP st q p with
    | none => exact absurd he.symm ((train_none hu).2 b a d c hb ha hd hc ⟨by omega, by omega, by omega, by omega, by omega, by omega⟩)
    | some u =>
      refine ⟨u, rfl, ?_⟩
      rcases train_some hu with ⟨a', b', h1, h2, h3, h4, rfl⟩ | ⟨_, a', b', c', d', _, _, _, rfl⟩
      · exact absurd h4.symm (hno b' a' h2 h1 (Ne.symm h3))
      · simp only; omega
/-- If wheels have a ratio, there is a train for it. -/
theorem train_own {st : List Int} {t : Tn} {P Q : Int} (h : ratioP st t = (P, Q, true)) : ∃ v r s, trainP st P Q = some v ∧ ratioP st v = (r, s, true) ∧ r * Q = s * P ∧ (t.c = -1 → t.d = -1 → v.c < 0) := by
  have fin : ∀ v, trainP st P Q = some v → (t.c = -1 → t.d = -1 → v.c < 0) → ∃ v r s, trainP st P Q = some v ∧ ratioP st v = (r, s, true) ∧ r * Q = s * P ∧ (t.c = -1 → t.d = -1 → v.c < 0) := fun v hv hc => by
    obtain ⟨r, s, h1, h2⟩ := train_ratio hv
    exact ⟨v, r, s, hv, h1, h2, hc⟩
  have un : ∀ {x : Int}, inB x 0 ((st.length : Int) - 1) = true → ∃ k : Nat, k < st.length ∧ x = k := fun hx => by
    have := inB_iff.1 hx
    exact ⟨_, by omega, (Int.toNat_of_nonneg this.1).symm⟩
  obtain ⟨a, b, c, d⟩ := t
  unfold ratioP at h
  split at h
  · cases h
  · rename_i h1
    simp only [Bool.or_eq_true, Bool.not_eq_true', not_or, Bool.not_eq_false, beq_iff_eq] at h1
    obtain ⟨⟨ha, hb⟩, hab⟩ := h1
    obtain ⟨a, ha', rfl⟩ := un ha
    obtain ⟨b, hb', rfl⟩ := un hb
    split at h
    · simp only [Prod.mk.injEq, and_true] at h
      obtain ⟨rfl, rfl⟩ := h
      have he : nthI st a * nthI st b = nthI st b * nthI st a := Int.mul_comm ..
      cases hv : trainP st (nthI st a) (nthI st b) with
      | none => exact absurd he ((train_none hv).1 a b ha' hb' (by omega))
      | some v =>
        refine hv ▸ fin v hv fun _ _ => ?_
        rcases train_some hv with ⟨_, _, _, _, _, _, rfl⟩ | ⟨hno, _⟩
        · simp
        · exact absurd he (hno a b ha' hb' (by omega))
    · rename_i h2
      split at h
      · cases h
      · rename_i h3
        simp only [Bool.or_eq_true, Bool.not_eq_true', not_or, Bool.not_eq_false, beq_iff_eq] at h3
        obtain ⟨⟨⟨⟨⟨⟨hc, hd⟩, hcd⟩, hac⟩, had⟩, hbc⟩, hbd⟩ := h3
        obtain ⟨c, hc', rfl⟩ := un hc
        obtain ⟨d, hd', rfl⟩ := un hd
        simp only [Prod.mk.injEq, and_true] at h
        obtain ⟨rfl, rfl⟩ := h
        have he : nthI st a * nthI st c * (nthI st b * nthI st d) = nthI st b * nthI st d * (nthI st a * nthI st c) := Int.mul_comm ..
        cases hv : trainP st (nthI st a * nthI st c) (nthI st b * nthI st d) with
        | none => exact absurd he ((train_none hv).2 a b c d ha' hb' hc' hd' ⟨by omega, by omega, by omega, by omega, by omega, by omega⟩)
        | some v => exact hv ▸ fin v hv fun h _ => by simp only at h; omega
/-- No hole is nearer. -/
theorem mul_ge {a b n : Int} (h : a ≤ b) (hn : 0 < n) : a * n ≤ b * n := Int.mul_le_mul_of_nonneg_right h (by omega)
theorem near {all n k : Int} (hn : 0 < n) (o : Int) : absI (wrongP all n k) < absI (o * n - k * all) ∨ absI (wrongP all n k) = absI (o * n - k * all) ∧ placeP all n k ≤ o := by
  have h1 := Int.mul_ediv_add_emod (k * all) n
  have h2 := Int.emod_nonneg (k * all) (show n ≠ 0 by omega)
  have h3 := Int.emod_lt_of_pos (k * all) hn
  have hp := place_spec (all := all) (k := k) hn
  generalize wrongP all n k = w at *
  generalize placeP all n k = p at *
  generalize k * all / n = q at *
  generalize k * all % n = r at *
  generalize k * all = a at *
  have e : o * n - a = (o - q) * n - r := by rw [Int.sub_mul, Int.mul_comm q n]; omega
  rw [e]
  generalize hd : o - q = d
  have m1 : d ≤ -1 → d * n ≤ -1 * n := fun h => mul_ge h hn
  have m2 : 1 ≤ d → 1 * n ≤ d * n := fun h => mul_ge h hn
  have m3 : 2 ≤ d → 2 * n ≤ d * n := fun h => mul_ge h hn
  have m0 : d = 0 → d * n = 0 := fun h => by rw [h, Int.zero_mul]
  have m4 : d = 1 → d * n = n := fun h => by rw [h, Int.one_mul]
  unfold absI
  generalize d * n = dn at *
  omega
theorem place_range {all n k : Int} (hn : 0 < n) (ha : 0 < all) (hk : 0 ≤ k) (hkn : k < n) : 0 ≤ placeP all n k ∧ placeP all n k ≤ all := by
  have h1 := Int.mul_ediv_add_emod (k * all) n
  have h2 := Int.emod_nonneg (k * all) (show n ≠ 0 by omega)
  have h4 : 0 ≤ k * all / n := Int.ediv_nonneg (Int.mul_nonneg hk (by omega)) (by omega)
  have h5 : k * all / n < all := by
    rw [Int.ediv_lt_iff_lt_mul hn, Int.mul_comm all n]
    exact Int.mul_lt_mul_of_pos_right hkn ha
  unfold placeP
  split <;> omega
theorem place_mono {all n k : Int} (hn : 0 < n) (ha : 0 < all) : placeP all n k ≤ placeP all n (k + 1) := by
  have h1 := Int.mul_ediv_add_emod (k * all) n
  have h2 := Int.emod_nonneg (k * all) (show n ≠ 0 by omega)
  have h3 := Int.emod_lt_of_pos (k * all) hn
  have g1 := Int.mul_ediv_add_emod ((k + 1) * all) n
  have g2 := Int.emod_nonneg ((k + 1) * all) (show n ≠ 0 by omega)
  have g3 := Int.emod_lt_of_pos ((k + 1) * all) hn
  have e : (k + 1) * all = k * all + all := by rw [Int.add_mul, Int.one_mul]
  unfold placeP
  generalize (k + 1) * all = b at *
  generalize k * all = a at *
  generalize a / n = q at *
  generalize b / n = q' at *
  generalize a % n = r at *
  generalize b % n = r' at *
  have hq : n * (q' - q) = all + r - r' := by rw [Int.mul_sub]; omega
  have m1 : q' - q ≤ -1 → (q' - q) * n ≤ -1 * n := fun h => mul_ge h hn
  rw [Int.mul_comm] at hq
  have m0 : q' - q = 0 → (q' - q) * n = 0 := fun h => by rw [h, Int.zero_mul]
  generalize (q' - q) * n = z at *
  split <;> split <;> omega
/-- What is engraved, and the fault. -/
theorem engr_spec {f A : Int} (hA : 0 < A) : f * 129600000 ≤ engrP f A * A ∧ (engrP f A - 1) * A < f * 129600000 := by
  unfold engrP
  generalize f * 129600000 = a
  have h1 := Int.mul_ediv_add_emod (a + A - 1) A
  have h2 := Int.emod_nonneg (a + A - 1) (show A ≠ 0 by omega)
  have h3 := Int.emod_lt_of_pos (a + A - 1) hA
  rw [Int.sub_mul, Int.mul_comm _ A]
  omega
theorem engr_le {f A B : Int} (hA : 0 < A) (h : f * 129600000 ≤ B * A) : engrP f A ≤ B := by
  have h1 := (engr_spec (f := f) hA).2
  have h2 : (engrP f A - 1) * A < B * A := by omega
  have := Int.lt_of_mul_lt_mul_right h2 (by omega)
  omega
theorem engr_nonneg {f A : Int} (hA : 0 < A) (hf : 0 ≤ f) : 0 ≤ engrP f A := by
  unfold engrP
  exact Int.ediv_nonneg (by omega) (by omega)
theorem engr_most {f n all : Int} (hn : 0 < n) (ha : 0 < all) (hf : f ≤ n) : engrP f (n * all) ≤ 129600000 := by
  refine engr_le (Int.mul_pos hn ha) ?_
  have h1 : n * 1 ≤ n * all := Int.mul_le_mul_of_nonneg_left (by omega) (by omega)
  have h2 : f ≤ n * all := by omega
  rw [Int.mul_comm]
  exact Int.mul_le_mul_of_nonneg_left h2 (by omega)
theorem fault_zero {all n : Int} (hn : 0 < n) : faultP all n = 0 ↔ all % n = 0 := by
  unfold faultP
  constructor
  · intro h
    by_cases h1 : n = 1
    · subst h1; omega
    · have h2 := faultTo_le (all := all) (n := n) (show 1 < n.toNat by omega)
      have hw : wrongP all n ((1 : Nat) : Int) = 0 := by unfold absI at h2; omega
      have h3 := place_spec (all := all) (k := ((1 : Nat) : Int)) hn
      have h4 := Int.emod_lt_of_pos (((1 : Nat) : Int) * all) hn
      have e : ((1 : Nat) : Int) * all = all := by simp
      rw [e] at h3 h4
      omega
  · intro h
    have hz : ∀ k : Nat, wrongP all n k = 0 := fun k => by
      have h3 := place_spec (all := all) (k := (k : Int)) hn
      have : (k : Int) * all % n = 0 := by
        rw [Int.mul_emod, h, Int.mul_zero, Int.zero_emod]
      rw [this] at h3
      omega
    have : ∀ m : Nat, faultTo all n m = 0 := fun m => by
      induction m with
      | zero => rfl
      | succ m ih => rw [faultTo_succ, ih, hz]; rfl
    exact this _
theorem engr_zero {all n : Int} (hn : 0 < n) (ha : 0 < all) : engrP (faultP all n) (n * all) = 0 ↔ all % n = 0 := by
  rw [← fault_zero hn]
  have hA : 0 < n * all := Int.mul_pos hn ha
  have hb : 0 ≤ faultP all n := (faultTo_bound hn _).1
  constructor
  · intro h
    have := (engr_spec (f := faultP all n) hA).1
    rw [h, Int.zero_mul] at this
    omega
  · intro h
    have := (engr_spec (f := faultP all n) hA).2
    have h2 := engr_nonneg (f := faultP all n) hA hb
    rw [h] at this h2 ⊢
    have h3 : (engrP 0 (n * all) - 1) * (n * all) < 0 * (n * all) := by rw [Int.zero_mul]; omega
    have := Int.lt_of_mul_lt_mul_right h3 (by omega)
    omega
/-- Fractions. -/
theorem frac_trans {a b c d e f : Int} (hb : 0 < b) (hd : 0 < d) (hf : 0 < f) (h1 : a * d ≤ c * b) (h2 : c * f ≤ e * d) : a * f ≤ e * b := by
  have g1 : a * d * f ≤ c * b * f := Int.mul_le_mul_of_nonneg_right h1 (by omega)
  have g2 : c * f * b ≤ e * d * b := Int.mul_le_mul_of_nonneg_right h2 (by omega)
  have e1 : c * b * f = c * f * b := by rw [Int.mul_assoc, Int.mul_comm b f, ← Int.mul_assoc]
  have e2 : a * d * f = (a * f) * d := by rw [Int.mul_assoc, Int.mul_comm d f, ← Int.mul_assoc]
  have e3 : e * d * b = (e * b) * d := by rw [Int.mul_assoc, Int.mul_comm d b, ← Int.mul_assoc]
  have g3 : (a * f) * d ≤ (e * b) * d := by omega
  exact Int.le_of_mul_le_mul_right g3 hd
theorem bestK_least {t : Int} {l : List Int} {n : Int} (hp : ∀ i : Nat, i < l.length → 0 < nthI l i) : ∀ {k : Nat}, k < l.length → ∀ {i : Nat}, i ≤ k → (bestK t l n k).2 * nthI l i ≤ faultP (t * nthI l i) n * nthI l (bestK t l n k).1
  | 0, _, i, hi => by
    have : i = 0 := by omega
    subst this
    exact Int.le_refl _
  | k + 1, hk, i, hi => by
    have ih := fun i (hi : i ≤ k) => bestK_least (t := t) (n := n) hp (show k < l.length by omega) hi
    obtain ⟨b1, b2, b3⟩ := bestK_spec t l n k
    obtain ⟨j, hj⟩ := Int.eq_ofNat_of_zero_le b1
    rw [bestK]
    split
    · rename_i hlt
      simp only
      by_cases hik : i = k + 1
      · subst hik; exact Int.le_refl _
      · have h1 := ih i (by omega)
        rw [hj] at hlt h1
        exact frac_trans (hp (k + 1) hk) (hp j (by omega)) (hp i (by omega)) (Int.le_of_lt hlt) h1
    · rename_i hlt
      by_cases hik : i = k + 1
      · subst hik; omega
      · exact ih i (by omega)
theorem engr_mono {f1 f2 h1 h2 N : Int} (hN : 0 < N) (p1 : 0 < h1) (p2 : 0 < h2) (h : f1 * h2 ≤ f2 * h1) : engrP f1 (N * h1) ≤ engrP f2 (N * h2) := by
  have a1 : 0 < N * h1 := Int.mul_pos hN p1
  have a2 : 0 < N * h2 := Int.mul_pos hN p2
  refine engr_le a1 ?_
  have s := (engr_spec (f := f2) a2).1
  generalize engrP f2 (N * h2) = E at *
  have g1 : f1 * h2 * 129600000 ≤ f2 * h1 * 129600000 := Int.mul_le_mul_of_nonneg_right h (by omega)
  have g2 : f2 * 129600000 * h1 ≤ E * (N * h2) * h1 := Int.mul_le_mul_of_nonneg_right s (by omega)
  have e1 : f1 * h2 * 129600000 = (f1 * 129600000) * h2 := by rw [Int.mul_assoc, Int.mul_comm h2, ← Int.mul_assoc]
  have e2 : f2 * h1 * 129600000 = (f2 * 129600000) * h1 := by rw [Int.mul_assoc, Int.mul_comm h1, ← Int.mul_assoc]
  have e3 : E * (N * h2) * h1 = (E * (N * h1)) * h2 := by
    rw [← Int.mul_assoc, ← Int.mul_assoc, Int.mul_assoc (E * N), Int.mul_comm h2 h1, ← Int.mul_assoc]
  have g3 : (f1 * 129600000) * h2 ≤ (E * (N * h1)) * h2 := by omega
  exact Int.le_of_mul_le_mul_right g3 p2
/-- A circle more. -/
def insC (more : Int) : Int → List Int → List Int
  | a, [] => if a < more then [more] else []
  | a, x :: l => (if x > more ∧ a < more then [more] else []) ++ x :: insC more x l
theorem insC_ok {more : Int} (hm : more ≤ 200) : ∀ {a : Int} {l : List Int}, circOk a l = true → circOk a (insC more a l) = true
  | a, [], _ => by
    unfold insC
    split
    · simp only [circOk, Bool.and_true, inB_iff]; omega
    · rfl
  | a, x :: l, h => by
    simp only [circOk, Bool.and_eq_true, inB_iff] at h
    have ih := insC_ok hm h.2
    unfold insC
    split
    · simp only [List.cons_append, List.nil_append, circOk, Bool.and_eq_true, inB_iff]
      exact ⟨by omega, by omega, ih⟩
    · simp only [List.nil_append, circOk, Bool.and_eq_true, inB_iff]
      exact ⟨h.1, ih⟩
theorem insC_same {more : Int} : ∀ {a : Int} {l : List Int}, more ≤ a → circOk a l = true → insC more a l = l
  | a, [], h, _ => by unfold insC; rw [if_neg (by omega)]
  | a, x :: l, h, hc => by
    simp only [circOk, Bool.and_eq_true, inB_iff] at hc
    unfold insC
    rw [if_neg (by omega), List.nil_append, insC_same (by omega) hc.2]
theorem insC_len {more : Int} : ∀ {a : Int} {l : List Int}, circOk a l = true → (insC more a l).length ≤ l.length + 1
  | a, [], _ => by unfold insC; split <;> simp
  | a, x :: l, h => by
    simp only [circOk, Bool.and_eq_true, inB_iff] at h
    unfold insC
    split
    · rename_i hx
      rw [insC_same (by omega) h.2]; simp
    · have := insC_len (more := more) h.2
      simp; omega
theorem insC_sub {more : Int} : ∀ {a : Int} {l : List Int}, l.Sublist (insC more a l)
  | a, [] => List.nil_sublist _
  | a, x :: l => by
    unfold insC
    exact List.Sublist.trans (List.Sublist.cons_cons x insC_sub) (List.sublist_append_right _ _)
theorem plans_count (t : Int) (l : List Int) (n : Int) (k : Nat) (hk : k ≤ l.length) : (plansTo t l n k).length = (l.take k).countP fun h => decide (t * h % n = 0) := by
  induction k with
  | zero => rfl
  | succ k ih =>
    have hx : l[k]? = some l[k] := List.getElem?_eq_getElem (by omega)
    rw [plansTo_succ, take_snoc hx, List.length_append, List.countP_append, ih (by omega), nthI_at hx]
    unfold planAt
    by_cases h : t * l[k] % n = 0 <;> simp [h]
theorem more_plans {t n : Int} {l x : List Int} (h : l.Sublist x) : (plansP t l n).length ≤ (plansP t x n).length := by
  unfold plansP
  rw [plans_count _ _ _ _ (Nat.le_refl _), plans_count _ _ _ _ (Nat.le_refl _), List.take_length, List.take_length]
  exact h.countP_le
theorem more_comp {t n : Int} {l x : List Int} (h : l.Sublist x) (hl : circOk 1 l = true) (hx : circOk 1 x = true) {c : Pr} (hc : compP t l n = some c) : ∃ d, compP t x n = some d ∧ holP d ≤ holP c := by
  obtain ⟨h1, _⟩ := compP_some hc
  obtain ⟨i, k, j, g1, g2, g3, g4⟩ := cands_mem.1 h1
  have e1 : l[i]? = some l[i] := List.getElem?_eq_getElem (by omega)
  have e2 : l[k]? = some l[k] := List.getElem?_eq_getElem g2
  have hlt := circ_lt hl g1 e1 e2
  obtain ⟨i', hi'⟩ := List.mem_iff_getElem?.1 (h.mem (List.mem_of_getElem? e1))
  obtain ⟨k', hk'⟩ := List.mem_iff_getElem?.1 (h.mem (List.mem_of_getElem? e2))
  have hik : i' < k' := by
    rcases Nat.lt_trichotomy i' k' with h' | h' | h'
    · exact h'
    · subst h'; rw [hi'] at hk'; have := Option.some.inj hk'; omega
    · have := circ_lt hx h' hk' hi'; omega
  rw [nthI_at e1, nthI_at e2] at g4
  have g5 : prAt t (nthI x i') (nthI x k') n i' k' ((j : Int) - 2000) = some ⟨i', k', c.x, c.y⟩ := by
    rw [nthI_at hi', nthI_at hk']
    unfold prAt at g4 ⊢
    split at g4
    · rename_i hh; rw [if_pos hh]; cases g4; rfl
    · cases g4
  have hmem : (⟨i', k', c.x, c.y⟩ : Pr) ∈ cands t x n x.length := cands_mem.2 ⟨i', k', j, hik, (List.getElem?_eq_some_iff.1 hk').1, g3, g5⟩
  cases hd : compP t x n with
  | none => rw [compP_none] at hd; rw [hd] at hmem; cases hmem
  | some d =>
    refine ⟨d, rfl, ?_⟩
    have := (compP_some hd).2 _ hmem
    have e : holP (⟨i', k', c.x, c.y⟩ : Pr) = holP c := rfl
    omega
theorem more_best {t n : Int} {l x : List Int} (h : l.Sublist x) (hl : headOk t l = true) (hx : headOk t x = true) (hn : 0 < n) :
    engrP (bestK t x n (x.length - 1)).2 (n * (t * nthI x (bestK t x n (x.length - 1)).1)) ≤ engrP (bestK t l n (l.length - 1)).2 (n * (t * nthI l (bestK t l n (l.length - 1)).1)) := by
  have hl' := headOk_iff.1 hl
  have hx' := headOk_iff.1 hx
  have pl : ∀ i : Nat, i < l.length → 0 < nthI l i := fun i hi => by
    have e : l[i]? = some l[i] := List.getElem?_eq_getElem hi
    rw [nthI_at e]; have := head_at hl e; omega
  have px : ∀ i : Nat, i < x.length → 0 < nthI x i := fun i hi => by
    have e : x[i]? = some x[i] := List.getElem?_eq_getElem hi
    rw [nthI_at e]; have := head_at hx e; omega
  obtain ⟨b1, b2, b3⟩ := bestK_spec t l n (l.length - 1)
  obtain ⟨c1, c2, c3⟩ := bestK_spec t x n (x.length - 1)
  obtain ⟨i, hi⟩ := Int.eq_ofNat_of_zero_le b1
  obtain ⟨k, hk⟩ := Int.eq_ofNat_of_zero_le c1
  have e1 : l[i]? = some l[i] := List.getElem?_eq_getElem (by omega)
  obtain ⟨j, hj⟩ := List.mem_iff_getElem?.1 (h.mem (List.mem_of_getElem? e1))
  have hjl := (List.getElem?_eq_some_iff.1 hj).1
  have hb := bestK_least (t := t) (n := n) px (show x.length - 1 < x.length by omega) (show j ≤ x.length - 1 by omega)
  have e3 : nthI x j = nthI l i := by rw [nthI_at hj, nthI_at e1]
  rw [e3] at hb
  rw [hi] at b3 ⊢
  rw [hk] at hb ⊢
  rw [← b3] at hb
  rw [← Int.mul_assoc, ← Int.mul_assoc]
  exact engr_mono (Int.mul_pos hn (by omega)) (px k (by omega)) (pl i (by omega)) hb
/-- A pair that is one is among the candidates, and no better than the best. -/
theorem comp_fewest {t n : Int} {l : List Int} {i k : Nat} {x y : Int} (hn : 0 < n) (hik : i < k) (hk : k < l.length) (ha : 0 < nthI l i) (hx1 : -2000 ≤ x) (hx2 : x ≤ 2000)
    (h : (t * nthI l i * nthI l k - n * x * nthI l k) % (n * nthI l i) = 0) (hy : (t * nthI l i * nthI l k - n * x * nthI l k) / (n * nthI l i) = y) (hy1 : -2000 ≤ y) (hy2 : y ≤ 2000) :
    ∃ r, compP t l n = some r ∧ (holP r < absI x + absI y ∨ holP r = absI x + absI y ∧ ((r.a = i ∧ r.b = k ∧ r.x = x) ∨ befP r ⟨i, k, x, y⟩)) := by
  have hall := Int.mul_ediv_add_emod (t * nthI l i * nthI l k - n * x * nthI l k) (n * nthI l i)
  rw [h, hy] at hall
  generalize he : nthI l i = a at *
  generalize hf : nthI l k = b at *
  have e1 : t * a * b = n * (a * y + x * b) := by
    have : n * a * y + n * x * b = n * (a * y + x * b) := by rw [Int.mul_add, Int.mul_assoc, Int.mul_assoc]
    omega
  have q1 : t * a * b % n = 0 := by rw [e1, Int.mul_emod_right]
  have q2 : t * a * b / n = a * y + x * b := by rw [e1, Int.mul_ediv_cancel_left _ (by omega)]
  have q3 : (a * y + x * b - x * b) = a * y := by omega
  have hp : prAt t (nthI l i) (nthI l k) n i k (((x + 2000).toNat : Nat) - 2000 : Int) = some ⟨i, k, x, y⟩ := by
    have ex : (((x + 2000).toNat : Nat) - 2000 : Int) = x := by omega
    rw [ex, he, hf]
    unfold prAt
    rw [q2, q3, Int.mul_emod_right, Int.mul_ediv_cancel_left _ (by omega), if_pos ⟨q1, rfl, inB_iff.2 ⟨hy1, hy2⟩⟩]
  have hm : (⟨i, k, x, y⟩ : Pr) ∈ cands t l n l.length := cands_mem.2 ⟨i, k, (x + 2000).toNat, hik, hk, by omega, hp⟩
  cases hr : compP t l n with
  | none => rw [compP_none] at hr; rw [hr] at hm; cases hm
  | some r =>
    refine ⟨r, rfl, ?_⟩
    rcases (compP_some hr).2 _ hm with h1 | ⟨h1, h2 | h2⟩
    · exact .inl h1
    · exact .inr ⟨h1, .inl (by rw [h2]; exact ⟨rfl, rfl, rfl⟩)⟩
    · exact .inr ⟨h1, .inr h2⟩
/-- What a compound plan does. -/
theorem comp_closes {t n : Int} {l : List Int} {r : Pr} (hn : 0 < n) (hl : headOk t l = true) (h : compP t l n = some r) :
    (0 ≤ r.a ∧ r.a < r.b ∧ r.b < l.length) ∧ (-2000 ≤ r.x ∧ r.x ≤ 2000) ∧ (-2000 ≤ r.y ∧ r.y ≤ 2000) ∧ n * (r.x * nthI l r.b + r.y * nthI l r.a) = t * nthI l r.a * nthI l r.b := by
  obtain ⟨i, k, j, h1, h2, h3, h4⟩ := cands_mem.1 (compP_some h).1
  obtain ⟨e1, e2, e3, e4, e5, e6, e7, e8⟩ := prAt_eq h4
  have hi : l[i]? = some l[i] := List.getElem?_eq_getElem (by omega)
  have ha := head_at hl hi
  rw [← nthI_at hi] at ha
  refine ⟨by omega, by omega, by omega, ?_⟩
  rw [e1, e2]
  generalize nthI l i = a at *
  generalize nthI l k = b at *
  have g1 := Int.mul_ediv_add_emod (t * a * b) n
  have g2 := Int.mul_ediv_add_emod (t * a * b / n - j * b) a
  rw [e3, e6]
  have g3 := Int.mul_ediv_add_emod (t * a * b / n - ((j : Int) - 2000) * b) a
  rw [e5, Int.mul_comm a] at g3
  have g4 : ((j : Int) - 2000) * b + (t * a * b / n - ((j : Int) - 2000) * b) / a * a = t * a * b / n := by omega
  rw [g4]; omega
/-- Plans, one after the other. -/
theorem plansTo_mem {t n : Int} {l : List Int} {k : Nat} {p : Pl} : p ∈ plansTo t l n k ↔ ∃ i : Nat, i < k ∧ planAt t (nthI l i) n i = some p := by
  unfold plansTo
  rw [List.mem_filterMap]
  simp only [List.mem_range]
theorem plansTo_pw (t : Int) (l : List Int) (n : Int) (k : Nat) : (plansTo t l n k).Pairwise fun p q => p.c < q.c := by
  unfold plansTo
  rw [List.pairwise_filterMap]
  refine List.Pairwise.imp ?_ List.pairwise_lt_range
  intro c d hcd p hp q hq
  unfold planAt at hp hq
  split at hp
  · split at hq
    · cases hp; cases hq; simp only; omega
    · cases hq
  · cases hp
/-- What a plan does: how many holes it moves. -/
theorem plan_moves {t n : Int} {l : List Int} {p : Pl} (hn : 0 < n) (hl : headOk t l = true) (h : p ∈ plansP t l n) :
    (0 ≤ p.c ∧ p.c < l.length) ∧ (0 ≤ p.t ∧ p.t ≤ 400) ∧ (0 ≤ p.h ∧ p.h ≤ nthI l p.c - 1) ∧ n * (p.t * nthI l p.c + p.h) = t * nthI l p.c := by
  obtain ⟨i, hi, hp⟩ := plansTo_mem.1 h
  have e : l[i]? = some l[i] := List.getElem?_eq_getElem hi
  have ha := head_at hl e
  have hl' := headOk_iff.1 hl
  rw [← nthI_at e] at ha
  obtain ⟨e1, e2, e3, e4⟩ := plan_spec hn (by omega) hp
  have et : p.t = t * nthI l i / n / nthI l i := by
    unfold planAt at hp; split at hp
    · cases hp; rfl
    · cases hp
  have t0 : 0 ≤ t * nthI l i := Int.mul_nonneg (by omega) (by omega)
  have t1 : 0 ≤ t * nthI l i / n := Int.ediv_nonneg t0 (by omega)
  have t2 : 0 ≤ p.t := by rw [et]; exact Int.ediv_nonneg t1 (by omega)
  have t3 : p.t ≤ t := by
    rw [et]
    have h1 : t * nthI l i / n ≤ t * nthI l i := Int.ediv_le_self _ t0
    have h2 : t * nthI l i / n / nthI l i ≤ t * nthI l i / nthI l i := Int.ediv_le_ediv (by omega) h1
    rw [Int.mul_ediv_cancel _ (by omega)] at h2
    exact h2
  rw [e1]
  exact ⟨by omega, by omega, by omega, e4⟩
theorem fewer_not {n m a less : Int} (hn : 0 < n) (ha : 0 < a) (h : n * m = a) : less % n * m ≠ a := by
  have h2 := Int.emod_lt_of_pos less hn
  have hm : 0 < m := by
    rcases Int.lt_or_le 0 m with h' | h'
    · exact h'
    · have : n * m ≤ 0 := Int.mul_nonpos_of_nonneg_of_nonpos (by omega) h'
      omega
  have := Int.mul_lt_mul_of_pos_right h2 hm
  omega
/-- Differentials. -/
theorem diff1_some {t : Int} {l st : List Int} {n aside m : Int} {x : Df} (h : diff1 t l st n aside m = some x) : inB m 1 20000 = true ∧ x.m = m ∧ x.p ∈ plansP t l m ∧ trainP st (t * aside) m = some x.t ∧ x.on = decide (m > n) := by
  unfold diff1 at h
  split at h
  · cases h
  · rename_i h1
    split at h
    · cases h
    · rename_i p ps hp
      split at h
      · cases h
      · rename_i tr htr
        cases h
        exact ⟨by simpa using h1, rfl, by rw [hp]; simp, htr, rfl⟩
theorem diff_some {t : Int} {l st : List Int} {n : Int} {x : Df} (h : diffP t l st n = some x) : ∃ aside : Int, 1 ≤ aside ∧ aside ≤ 20 ∧ (x.m = n - aside ∨ x.m = n + aside) ∧ inB x.m 1 20000 = true ∧ x.p ∈ plansP t l x.m ∧ trainP st (t * aside) x.m = some x.t ∧ x.on = decide (x.m > n) := by
  change fsTo (fun i : Nat => diff2 t l st n ((i : Int) + 1)) 20 = some x at h
  obtain ⟨i, hi, _, h⟩ := fsTo_some h
  refine ⟨(i : Int) + 1, by omega, by omega, ?_⟩
  unfold diff2 at h
  split at h
  · rename_i y hy
    cases h
    obtain ⟨a, b, c, d, e⟩ := diff1_some hy
    rw [b]; exact ⟨.inl rfl, a, c, d, by rw [e]⟩
  · obtain ⟨a, b, c, d, e⟩ := diff1_some h
    rw [b]; exact ⟨.inr rfl, a, c, d, by rw [e]⟩
theorem together {n m t h q p L aside : Int} (hL : 0 < L) (h1 : L * m = t * h) (h2 : p * L = q * (t * aside)) : (L = n + aside → n * m * q + p * h = t * h * q) ∧ (L = n - aside → n * m * q + -(p * h) = t * h * q) := by
  have key : p * h = aside * m * q := by
    have : (p * h) * L = (aside * m * q) * L := by
      have a1 : (p * h) * L = p * L * h := by rw [Int.mul_assoc, Int.mul_comm h L, ← Int.mul_assoc]
      have a2 : q * (t * aside) * h = aside * q * (t * h) := by grind
      rw [a1, h2, a2, ← h1]; grind
    exact Int.eq_of_mul_eq_mul_right (by omega) this
  rw [key, ← h1]
  constructor
  · intro e; subst e; grind
  · intro e; subst e; grind
end Go.Oc.Ix

/- Part ILimb. -/
namespace Go.Oc.Ix
end Go.Oc.Ix
namespace Go.Proofs.Ytadkjjnnnkfalaa.Ix
end Go.Proofs.Ytadkjjnnnkfalaa.Ix
namespace Go.Oc.Ix
open Go Go.Pm
def arcI (A n : Int) (k : Nat) : Int := placeP A n k * 1296000 / A
/-- It differs from the line's place by at most what is engraved. -/
theorem arc_wide {A n step wide : Int} {k : Nat} (hA : 0 < A) (hn : 0 < n) (hs : n * step = 1296000) (hw : engrP (faultP A n) (n * A) ≤ 100 * wide) (hk : k < n.toNat) : -wide ≤ arcI A n k - (k : Int) * step ∧ arcI A n k - (k : Int) * step ≤ wide := by
  have hf := faultTo_le (all := A) (n := n) hk
  have hf : absI (wrongP A n k) ≤ faultP A n := hf
  have hpos : 0 < n * A := Int.mul_pos hn hA
  have he := (engr_spec (f := faultP A n) hpos).1
  have he2 := Int.mul_le_mul_of_nonneg_right hw (show 0 ≤ n * A by omega)
  have hwr : wrongP A n k = placeP A n k * n - (k : Int) * A := rfl
  obtain ⟨p, hp⟩ : ∃ p, placeP A n k = p := ⟨_, rfl⟩
  obtain ⟨w, hwd⟩ : ∃ w, wrongP A n k = w := ⟨_, rfl⟩
  obtain ⟨f, hff⟩ : ∃ f, faultP A n = f := ⟨_, rfl⟩
  rw [hwd, hff] at hf
  rw [hp, hwd] at hwr
  rw [hff] at he he2
  unfold absI at hf
  unfold arcI
  rw [hp]
  obtain ⟨d, hd⟩ : ∃ d, d = p * 1296000 - (k : Int) * step * A := ⟨_, rfl⟩
  have hnd : n * d = 1296000 * w := by
    have e1 : n * ((k : Int) * step * A) = (k : Int) * A * (n * step) := by
      rw [← Int.mul_assoc, ← Int.mul_assoc, Int.mul_comm n (k : Int), Int.mul_assoc (k : Int) n step, Int.mul_assoc (k : Int) (n * step) A, Int.mul_comm (n * step) A, ← Int.mul_assoc]
    have e2 : n * (p * 1296000) = p * n * 1296000 := by rw [← Int.mul_assoc, Int.mul_comm n p]
    rw [hd, Int.mul_sub, e1, e2, hs]
    have e3 : 1296000 * w = (p * n - (k : Int) * A) * 1296000 := by rw [← hwr, Int.mul_comm]
    rw [e3, Int.sub_mul]
  have e4 : 100 * wide * (n * A) = 100 * (n * (wide * A)) := by
    rw [Int.mul_assoc 100 wide (n * A), ← Int.mul_assoc wide n A, Int.mul_comm wide n, Int.mul_assoc n wide A]
  rw [e4] at he2
  have up : n * d ≤ n * (wide * A) := by omega
  have lo : n * (-(wide * A)) ≤ n * d := by rw [Int.mul_neg]; omega
  have up' := Int.le_of_mul_le_mul_left up hn
  have lo' := Int.le_of_mul_le_mul_left lo hn
  have e5 : p * 1296000 = d + (k : Int) * step * A := by omega
  rw [e5, Int.add_mul_ediv_right _ _ (show A ≠ 0 by omega)]
  have q1 : -wide ≤ d / A := (Int.le_ediv_iff_mul_le hA).2 (by rw [Int.neg_mul]; omega)
  have q2 : d / A ≤ wide := by
    have := Int.ediv_le_ediv hA up'
    rwa [Int.mul_ediv_cancel _ (show A ≠ 0 by omega)] at this
  omega
theorem place_bd {A n : Int} {k : Nat} (hA : 0 < A ∧ A ≤ 80000) (hn : 0 < n) (hk : (k : Int) ≤ n) : 0 ≤ placeP A n k ∧ placeP A n k ≤ 80001 := by
  have h1 : 0 ≤ (k : Int) * A := Int.mul_nonneg (by omega) (by omega)
  have h2 : (k : Int) * A / n ≤ A := by
    have := Int.ediv_le_ediv hn (show (k : Int) * A ≤ A * n by rw [Int.mul_comm A n]; exact Int.mul_le_mul_of_nonneg_right hk (by omega))
    rwa [Int.mul_ediv_cancel _ (show n ≠ 0 by omega)] at this
  have h3 := Int.ediv_nonneg h1 (show 0 ≤ n by omega)
  unfold placeP
  split <;> omega
/-- What Best and Cut hand back together. -/
theorem best_cut {t : Int} {l : List Int} (hh : headOk t l = true) {n : Int} (hn : inB n 1 2000 = true) : ∃ (C : Nat) (h : Int), l[C]? = some h ∧ (1 ≤ t * h ∧ t * h ≤ 80000) ∧ bestE t l n = ((C : Int), engrP (faultP (t * h) n) (n * (t * h)), 0) ∧
    cutE t l C n = ((List.range n.toNat).map (fun k : Nat => placeP (t * h) n k), engrP (faultP (t * h) n) (n * (t * h)), 0) := by
  have hl := (headOk_iff.1 hh).2.1
  obtain ⟨h0, h1, h2⟩ := bestK_spec t l n (l.length - 1)
  obtain ⟨c, hc⟩ : ∃ c, (bestK t l n (l.length - 1)).1 = c := ⟨_, rfl⟩
  obtain ⟨f, hf⟩ : ∃ f, (bestK t l n (l.length - 1)).2 = f := ⟨_, rfl⟩
  rw [hc] at h0 h1 h2
  rw [hf] at h2
  obtain ⟨C, rfl⟩ := Int.eq_ofNat_of_zero_le h0
  obtain ⟨h, hx⟩ : ∃ h, l[C]? = some h := ⟨_, List.getElem?_eq_getElem (by omega)⟩
  have hnx := nthI_at hx
  refine ⟨C, h, hx, allB0 hh hx, ?_, ?_⟩
  · unfold bestE
    rw [hh, hn, hc, hf, h2, hnx]; rfl
  · unfold cutE
    rw [hh, hn, inB_iff.2 (show (0 : Int) ≤ (C : Int) ∧ (C : Int) ≤ (l.length : Int) - 1 by have := (List.getElem?_eq_some_iff.1 hx).1; omega), hnx]; rfl
end Go.Oc.Ix

/- Part ITop. -/
namespace Go.Oc.Ix
end Go.Oc.Ix
namespace Go.Proofs.Ytadkjjnnnkfalaa.Ix
end Go.Proofs.Ytadkjjnnnkfalaa.Ix
namespace Go.Proofs.Ytadkjjnnnkfalaa.Ix
open Go.RowKit Go.Pm Go.Oc Go.Oc.Ix
set_option maxRecDepth 100000
set_option linter.unusedVariables false

noncomputable def xCut : List TV → Option TV
  | [.agg [.int .i64 t, s], .int .i64 c, .int .i64 n] => match rowL unI s with
    | some l => if l.length ≤ 17592186044415 then some (.tup [rowG ic (cutE t l c n).1, .int .i64 (cutE t l c n).2.1, .int .i64 (cutE t l c n).2.2]) else none
    | none => none
  | _ => none
theorem xCut_ok : ∀ xs r, xCut xs = some r → PCalls Try.prog 41 xs r := by
  intro xs r h
  unfold xCut at h
  split at h
  · split at h
    · rename_i l hl
      have hl := rowL_some (un := unI) (by first | rfl | exact unI_nil) (@unI_some) hl
      split at h
      · rename_i hc; cases h; exact iCut_c _ hl hc _ _
      · cases h
    · cases h
  · cases h
attribute [go_sem] xCut
noncomputable def xBest : List TV → Option TV
  | [.agg [.int .i64 t, s], .int .i64 n] => match rowL unI s with
    | some l => if l.length ≤ 17592186044415 then some (.tup [.int .i64 (bestE t l n).1, .int .i64 (bestE t l n).2.1, .int .i64 (bestE t l n).2.2]) else none
    | none => none
  | _ => none
theorem xBest_ok : ∀ xs r, xBest xs = some r → PCalls Try.prog 40 xs r := by
  intro xs r h
  unfold xBest at h
  split at h
  · split at h
    · rename_i l hl
      have hl := rowL_some (un := unI) (by first | rfl | exact unI_nil) (@unI_some) hl
      split at h
      · rename_i hc; cases h; exact iBestE_c _ hl hc _
      · cases h
    · cases h
  · cases h
attribute [go_sem] xBest
end Go.Proofs.Ytadkjjnnnkfalaa.Ix
