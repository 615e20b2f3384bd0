/- What the claim leans on, text 4. -/
import Derived.Test.YtgofljmnlfnlnaaRows
import Derived.Test.YtgofljmnlfnlnaaC3
set_option linter.unusedSimpArgs false
set_option linter.unusedVariables false

/- Part Ty. -/
namespace Go.Proofs.Ytgofljmnlfnlnaa
open Go.Pm
@[go_sem] theorem Try.agg1 : aggO Try.prog 1 = some false := by kernel_rfl
@[go_sem] theorem Try.pln1 : plainO Try.prog 1 = some true := by kernel_rfl
@[go_sem] theorem Try.sz1 : szO Try.prog 1 = some 1 := by kernel_rfl
@[go_sem] theorem Try.zero1 : zeroL Try.prog 1 = some [.nilFn] := by kernel_rfl
@[go_sem] theorem Try.small1 : smallO Try.prog 1 = some (1, 8) := by kernel_rfl
@[go_sem] theorem Try.zt1 : zeroT Try.prog 1 = some (.nilFn) := by kernel_rfl
@[go_sem] theorem Try.agg2 : aggO Try.prog 2 = some false := by kernel_rfl
@[go_sem] theorem Try.pln2 : plainO Try.prog 2 = some true := by kernel_rfl
@[go_sem] theorem Try.sz2 : szO Try.prog 2 = some 1 := by kernel_rfl
@[go_sem] theorem Try.zero2 : zeroL Try.prog 2 = some [.int .i64 0] := by kernel_rfl
@[go_sem] theorem Try.small2 : smallO Try.prog 2 = some (1, 8) := by kernel_rfl
@[go_sem] theorem Try.zt2 : zeroT Try.prog 2 = some (.int .i64 0) := by kernel_rfl
@[go_sem] theorem Try.knd2 : kindO Try.prog 2 = some .i64 := by kernel_rfl
@[go_sem] theorem Try.und2 : Program.underlying Try.prog 2 = some (.int .i64) := by kernel_rfl
@[go_sem] theorem Try.agg3 : aggO Try.prog 3 = some false := by kernel_rfl
@[go_sem] theorem Try.pln3 : plainO Try.prog 3 = some true := by kernel_rfl
@[go_sem] theorem Try.sz3 : szO Try.prog 3 = some 1 := by kernel_rfl
@[go_sem] theorem Try.zero3 : zeroL Try.prog 3 = some [.int .i64 0] := by kernel_rfl
@[go_sem] theorem Try.small3 : smallO Try.prog 3 = some (1, 8) := by kernel_rfl
@[go_sem] theorem Try.zt3 : zeroT Try.prog 3 = some (.int .i64 0) := by kernel_rfl
@[go_sem] theorem Try.knd3 : kindO Try.prog 3 = some .i64 := by kernel_rfl
@[go_sem] theorem Try.und3 : Program.underlying Try.prog 3 = some (.int .i64) := by kernel_rfl
@[go_sem] theorem Try.agg4 : aggO Try.prog 4 = some false := by kernel_rfl
@[go_sem] theorem Try.pln4 : plainO Try.prog 4 = some true := by kernel_rfl
@[go_sem] theorem Try.sz4 : szO Try.prog 4 = some 1 := by kernel_rfl
@[go_sem] theorem Try.zero4 : zeroL Try.prog 4 = some [.bool false] := by kernel_rfl
@[go_sem] theorem Try.small4 : smallO Try.prog 4 = some (1, 1) := by kernel_rfl
@[go_sem] theorem Try.zt4 : zeroT Try.prog 4 = some (.bool false) := by kernel_rfl
@[go_sem] theorem Try.eq4 (a b : Bool) : eqT Try.prog 20 4 (.bool a) (.bool b) = some (a == b) := by kernel_rfl
@[go_sem] theorem Try.und4 : Program.underlying Try.prog 4 = some .bool := by kernel_rfl
@[go_sem] theorem Try.agg5 : aggO Try.prog 5 = some false := by kernel_rfl
@[go_sem] theorem Try.pln5 : plainO Try.prog 5 = some true := by kernel_rfl
@[go_sem] theorem Try.sz5 : szO Try.prog 5 = some 1 := by kernel_rfl
@[go_sem] theorem Try.zero5 : zeroL Try.prog 5 = some [.int .u8 0] := by kernel_rfl
@[go_sem] theorem Try.small5 : smallO Try.prog 5 = some (1, 1) := by kernel_rfl
@[go_sem] theorem Try.zt5 : zeroT Try.prog 5 = some (.int .u8 0) := by kernel_rfl
@[go_sem] theorem Try.knd5 : kindO Try.prog 5 = some .u8 := by kernel_rfl
@[go_sem] theorem Try.und5 : Program.underlying Try.prog 5 = some (.int .u8) := by kernel_rfl
@[go_sem] theorem Try.agg7 : aggO Try.prog 7 = some true := by kernel_rfl
@[go_sem] theorem Try.pln7 : plainO Try.prog 7 = some true := by kernel_rfl
@[go_sem] theorem Try.sz7 : szO Try.prog 7 = some 4 := by kernel_rfl
@[go_sem] theorem Try.zero7 : zeroL Try.prog 7 = some [.int .i64 0, .int .i64 0, .bool false, .int .u8 0] := by kernel_rfl
@[go_sem] theorem Try.small7 : smallO Try.prog 7 = some (4, 24) := by kernel_rfl
@[go_sem] theorem Try.zt7 : zeroT Try.prog 7 = some (.agg [.int .i64 0, .int .i64 0, .bool false, .int .u8 0]) := by kernel_rfl
@[go_sem] theorem Try.fld7_0 : fieldO Try.prog 7 0 = some (0, 2) := by kernel_rfl
@[go_sem] theorem Try.fld7_1 : fieldO Try.prog 7 1 = some (1, 3) := by kernel_rfl
@[go_sem] theorem Try.fld7_2 : fieldO Try.prog 7 2 = some (2, 4) := by kernel_rfl
@[go_sem] theorem Try.fld7_3 : fieldO Try.prog 7 3 = some (3, 6) := by kernel_rfl
@[go_sem] theorem Try.bld7 (parts : List (Nat × TV)) : buildO Try.prog 7 parts = (fillT (fun i => ([(0, 1), (1, 1), (2, 1), (3, 1)] : List (Nat × Nat))[i]?) [.int .i64 0, .int .i64 0, .bool false, .int .u8 0] parts).map .agg := by kernel_rfl
@[go_sem] theorem Try.eqg7 : Program.eqGuardType Try.prog (Program.depth Try.prog) 7 = false := by kernel_rfl
@[go_sem] theorem Try.agg9 : aggO Try.prog 9 = some false := by kernel_rfl
@[go_sem] theorem Try.pln9 : plainO Try.prog 9 = some true := by kernel_rfl
@[go_sem] theorem Try.sz9 : szO Try.prog 9 = some 1 := by kernel_rfl
@[go_sem] theorem Try.zero9 : zeroL Try.prog 9 = some [.str ⟨#[]⟩] := by kernel_rfl
@[go_sem] theorem Try.small9 : smallO Try.prog 9 = some (1, 16) := by kernel_rfl
@[go_sem] theorem Try.zt9 : zeroT Try.prog 9 = some (.str ⟨#[]⟩) := by kernel_rfl
@[go_sem] theorem Try.eq9 (a b : ByteArray) : eqT Try.prog 20 9 (.str a) (.str b) = some (a.toList == b.toList) := by kernel_rfl
@[go_sem] theorem Try.und9 : Program.underlying Try.prog 9 = some .string := by kernel_rfl
@[go_sem] theorem Try.agg12 : aggO Try.prog 12 = some false := by kernel_rfl
@[go_sem] theorem Try.pln12 : plainO Try.prog 12 = some true := by kernel_rfl
@[go_sem] theorem Try.sz12 : szO Try.prog 12 = some 1 := by kernel_rfl
@[go_sem] theorem Try.zero12 : zeroL Try.prog 12 = some [.int .u64 0] := by kernel_rfl
@[go_sem] theorem Try.small12 : smallO Try.prog 12 = some (1, 8) := by kernel_rfl
@[go_sem] theorem Try.zt12 : zeroT Try.prog 12 = some (.int .u64 0) := by kernel_rfl
@[go_sem] theorem Try.knd12 : kindO Try.prog 12 = some .u64 := by kernel_rfl
@[go_sem] theorem Try.und12 : Program.underlying Try.prog 12 = some (.int .u64) := by kernel_rfl
@[go_sem] theorem Try.agg13 : aggO Try.prog 13 = some true := by kernel_rfl
@[go_sem] theorem Try.pln13 : plainO Try.prog 13 = some true := by kernel_rfl
@[go_sem] theorem Try.sz13 : szO Try.prog 13 = some 2 := by kernel_rfl
@[go_sem] theorem Try.zero13 : zeroL Try.prog 13 = some [.str ⟨#[]⟩, .int .u64 0] := by kernel_rfl
@[go_sem] theorem Try.small13 : smallO Try.prog 13 = some (2, 24) := by kernel_rfl
@[go_sem] theorem Try.zt13 : zeroT Try.prog 13 = some (.agg [.str ⟨#[]⟩, .int .u64 0]) := by kernel_rfl
@[go_sem] theorem Try.fld13_0 : fieldO Try.prog 13 0 = some (0, 9) := by kernel_rfl
@[go_sem] theorem Try.fld13_1 : fieldO Try.prog 13 1 = some (1, 12) := by kernel_rfl
@[go_sem] theorem Try.bld13 (parts : List (Nat × TV)) : buildO Try.prog 13 parts = (fillT (fun i => ([(0, 1), (1, 1)] : List (Nat × Nat))[i]?) [.str ⟨#[]⟩, .int .u64 0] parts).map .agg := by kernel_rfl
@[go_sem] theorem Try.eqg13 : Program.eqGuardType Try.prog (Program.depth Try.prog) 13 = false := by kernel_rfl
@[go_sem] theorem Try.agg15 : aggO Try.prog 15 = some false := by kernel_rfl
@[go_sem] theorem Try.pln15 : plainO Try.prog 15 = some true := by kernel_rfl
@[go_sem] theorem Try.sz15 : szO Try.prog 15 = some 1 := by kernel_rfl
@[go_sem] theorem Try.zero15 : zeroL Try.prog 15 = some [.nilPtr] := by kernel_rfl
@[go_sem] theorem Try.small15 : smallO Try.prog 15 = some (1, 8) := by kernel_rfl
@[go_sem] theorem Try.zt15 : zeroT Try.prog 15 = some (.nilPtr) := by kernel_rfl
@[go_sem] theorem Try.agg16 : aggO Try.prog 16 = some false := by kernel_rfl
@[go_sem] theorem Try.pln16 : plainO Try.prog 16 = some true := by kernel_rfl
@[go_sem] theorem Try.sz16 : szO Try.prog 16 = some 1 := by kernel_rfl
@[go_sem] theorem Try.zero16 : zeroL Try.prog 16 = some [.nilPtr] := by kernel_rfl
@[go_sem] theorem Try.small16 : smallO Try.prog 16 = some (1, 8) := by kernel_rfl
@[go_sem] theorem Try.zt16 : zeroT Try.prog 16 = some (.nilPtr) := by kernel_rfl
@[go_sem] theorem Try.agg17 : aggO Try.prog 17 = some false := by kernel_rfl
@[go_sem] theorem Try.pln17 : plainO Try.prog 17 = some true := by kernel_rfl
@[go_sem] theorem Try.sz17 : szO Try.prog 17 = some 1 := by kernel_rfl
@[go_sem] theorem Try.zero17 : zeroL Try.prog 17 = some [.nilPtr] := by kernel_rfl
@[go_sem] theorem Try.small17 : smallO Try.prog 17 = some (1, 8) := by kernel_rfl
@[go_sem] theorem Try.zt17 : zeroT Try.prog 17 = some (.nilPtr) := by kernel_rfl
@[go_sem] theorem Try.agg18 : aggO Try.prog 18 = some true := by kernel_rfl
@[go_sem] theorem Try.pln18 : plainO Try.prog 18 = some true := by kernel_rfl
@[go_sem] theorem Try.sz18 : szO Try.prog 18 = some 1 := by kernel_rfl
@[go_sem] theorem Try.zero18 : zeroL Try.prog 18 = some [.nilPtr] := by kernel_rfl
@[go_sem] theorem Try.small18 : smallO Try.prog 18 = some (1, 8) := by kernel_rfl
@[go_sem] theorem Try.zt18 : zeroT Try.prog 18 = some (.agg [.nilPtr]) := by kernel_rfl
@[go_sem] theorem Try.fld18_0 : fieldO Try.prog 18 0 = some (0, 17) := by kernel_rfl
@[go_sem] theorem Try.bld18 (parts : List (Nat × TV)) : buildO Try.prog 18 parts = (fillT (fun i => ([(0, 1)] : List (Nat × Nat))[i]?) [.nilPtr] parts).map .agg := by kernel_rfl
@[go_sem] theorem Try.bldp18 (parts : List (Nat × PV)) : buildP Try.prog 18 parts = fillP (fun i => ([(0, 1)] : List (Nat × Nat))[i]?) [.t (.nilPtr)] parts := by kernel_rfl
@[go_sem] theorem Try.eqg18 : Program.eqGuardType Try.prog (Program.depth Try.prog) 18 = false := by kernel_rfl
@[go_sem] theorem Try.agg20 : aggO Try.prog 20 = some false := by kernel_rfl
@[go_sem] theorem Try.pln20 : plainO Try.prog 20 = some false := by kernel_rfl
@[go_sem] theorem Try.sz20 : szO Try.prog 20 = some 1 := by kernel_rfl
@[go_sem] theorem Try.zero20 : zeroL Try.prog 20 = some [.nilIf] := by kernel_rfl
@[go_sem] theorem Try.small20 : smallO Try.prog 20 = some (1, 16) := by kernel_rfl
@[go_sem] theorem Try.zt20 : zeroT Try.prog 20 = some (.nilIf) := by kernel_rfl
@[go_sem] theorem Try.agg21 : aggO Try.prog 21 = some false := by kernel_rfl
@[go_sem] theorem Try.pln21 : plainO Try.prog 21 = some true := by kernel_rfl
@[go_sem] theorem Try.sz21 : szO Try.prog 21 = some 1 := by kernel_rfl
@[go_sem] theorem Try.zero21 : zeroL Try.prog 21 = some [.int .i32 0] := by kernel_rfl
@[go_sem] theorem Try.small21 : smallO Try.prog 21 = some (1, 4) := by kernel_rfl
@[go_sem] theorem Try.zt21 : zeroT Try.prog 21 = some (.int .i32 0) := by kernel_rfl
@[go_sem] theorem Try.knd21 : kindO Try.prog 21 = some .i32 := by kernel_rfl
@[go_sem] theorem Try.und21 : Program.underlying Try.prog 21 = some (.int .i32) := by kernel_rfl
@[go_sem] theorem Try.agg22 : aggO Try.prog 22 = some true := by kernel_rfl
@[go_sem] theorem Try.pln22 : plainO Try.prog 22 = some true := by kernel_rfl
@[go_sem] theorem Try.sz22 : szO Try.prog 22 = some 2 := by kernel_rfl
@[go_sem] theorem Try.zero22 : zeroL Try.prog 22 = some [.int .i64 0, .int .i64 0] := by kernel_rfl
@[go_sem] theorem Try.small22 : smallO Try.prog 22 = some (2, 16) := by kernel_rfl
@[go_sem] theorem Try.zt22 : zeroT Try.prog 22 = some (.agg [.int .i64 0, .int .i64 0]) := by kernel_rfl
@[go_sem] theorem Try.fld22_0 : fieldO Try.prog 22 0 = some (0, 3) := by kernel_rfl
@[go_sem] theorem Try.fld22_1 : fieldO Try.prog 22 1 = some (1, 3) := by kernel_rfl
@[go_sem] theorem Try.bld22 (parts : List (Nat × TV)) : buildO Try.prog 22 parts = (fillT (fun i => ([(0, 1), (1, 1)] : List (Nat × Nat))[i]?) [.int .i64 0, .int .i64 0] parts).map .agg := by kernel_rfl
@[go_sem] theorem Try.eqg22 : Program.eqGuardType Try.prog (Program.depth Try.prog) 22 = false := by kernel_rfl
@[go_sem] theorem Try.agg23 : aggO Try.prog 23 = some true := by kernel_rfl
@[go_sem] theorem Try.pln23 : plainO Try.prog 23 = some true := by kernel_rfl
@[go_sem] theorem Try.sz23 : szO Try.prog 23 = some 2 := by kernel_rfl
@[go_sem] theorem Try.zero23 : zeroL Try.prog 23 = some [.int .i64 0, .int .i64 0] := by kernel_rfl
@[go_sem] theorem Try.small23 : smallO Try.prog 23 = some (2, 16) := by kernel_rfl
@[go_sem] theorem Try.zt23 : zeroT Try.prog 23 = some (.agg [.int .i64 0, .int .i64 0]) := by kernel_rfl
@[go_sem] theorem Try.fld23_0 : fieldO Try.prog 23 0 = some (0, 3) := by kernel_rfl
@[go_sem] theorem Try.fld23_1 : fieldO Try.prog 23 1 = some (1, 3) := by kernel_rfl
@[go_sem] theorem Try.bld23 (parts : List (Nat × TV)) : buildO Try.prog 23 parts = (fillT (fun i => ([(0, 1), (1, 1)] : List (Nat × Nat))[i]?) [.int .i64 0, .int .i64 0] parts).map .agg := by kernel_rfl
@[go_sem] theorem Try.eq23 (a0 b0 : Int) (a1 b1 : Int) : eqT Try.prog 20 23 (.agg [.int .i64 a0, .int .i64 a1]) (.agg [.int .i64 b0, .int .i64 b1]) = some ((a0 == b0) && ((a1 == b1) && true)) := by kernel_rfl
@[go_sem] theorem Try.eqg23 : Program.eqGuardType Try.prog (Program.depth Try.prog) 23 = false := by kernel_rfl
@[go_sem] theorem Try.agg24 : aggO Try.prog 24 = some true := by kernel_rfl
@[go_sem] theorem Try.pln24 : plainO Try.prog 24 = some true := by kernel_rfl
@[go_sem] theorem Try.sz24 : szO Try.prog 24 = some 8 := by kernel_rfl
@[go_sem] theorem Try.zero24 : zeroL Try.prog 24 = some [.int .i64 0, .int .i64 0, .int .i64 0, .int .i64 0, .int .i64 0, .int .i64 0, .int .i64 0, .int .i64 0] := by kernel_rfl
@[go_sem] theorem Try.small24 : smallO Try.prog 24 = some (8, 64) := by kernel_rfl
@[go_sem] theorem Try.zt24 : zeroT Try.prog 24 = some (.agg [.int .i64 0, .int .i64 0, .int .i64 0, .int .i64 0, .int .i64 0, .int .i64 0, .int .i64 0, .int .i64 0]) := by kernel_rfl
@[go_sem] theorem Try.fld24_0 : fieldO Try.prog 24 0 = some (0, 3) := by kernel_rfl
@[go_sem] theorem Try.fld24_1 : fieldO Try.prog 24 1 = some (1, 23) := by kernel_rfl
@[go_sem] theorem Try.fld24_2 : fieldO Try.prog 24 2 = some (3, 23) := by kernel_rfl
@[go_sem] theorem Try.fld24_3 : fieldO Try.prog 24 3 = some (5, 23) := by kernel_rfl
@[go_sem] theorem Try.fld24_4 : fieldO Try.prog 24 4 = some (7, 3) := by kernel_rfl
@[go_sem] theorem Try.bld24 (parts : List (Nat × TV)) : buildO Try.prog 24 parts = (fillT (fun i => ([(0, 1), (1, 2), (3, 2), (5, 2), (7, 1)] : List (Nat × Nat))[i]?) [.int .i64 0, .int .i64 0, .int .i64 0, .int .i64 0, .int .i64 0, .int .i64 0, .int .i64 0, .int .i64 0] parts).map .agg := by kernel_rfl
@[go_sem] theorem Try.eqg24 : Program.eqGuardType Try.prog (Program.depth Try.prog) 24 = false := by kernel_rfl
@[go_sem] theorem Try.agg25 : aggO Try.prog 25 = some true := by kernel_rfl
@[go_sem] theorem Try.pln25 : plainO Try.prog 25 = some true := by kernel_rfl
@[go_sem] theorem Try.sz25 : szO Try.prog 25 = some 8 := by kernel_rfl
@[go_sem] theorem Try.zero25 : zeroL Try.prog 25 = some [.int .i64 0, .int .i64 0, .int .i64 0, .int .i64 0, .int .i64 0, .int .i64 0, .int .i64 0, .int .i64 0] := by kernel_rfl
@[go_sem] theorem Try.small25 : smallO Try.prog 25 = some (8, 64) := by kernel_rfl
@[go_sem] theorem Try.zt25 : zeroT Try.prog 25 = some (.agg [.int .i64 0, .int .i64 0, .int .i64 0, .int .i64 0, .int .i64 0, .int .i64 0, .int .i64 0, .int .i64 0]) := by kernel_rfl
@[go_sem] theorem Try.fld25_0 : fieldO Try.prog 25 0 = some (0, 3) := by kernel_rfl
@[go_sem] theorem Try.fld25_1 : fieldO Try.prog 25 1 = some (1, 23) := by kernel_rfl
@[go_sem] theorem Try.fld25_2 : fieldO Try.prog 25 2 = some (3, 23) := by kernel_rfl
@[go_sem] theorem Try.fld25_3 : fieldO Try.prog 25 3 = some (5, 23) := by kernel_rfl
@[go_sem] theorem Try.fld25_4 : fieldO Try.prog 25 4 = some (7, 3) := by kernel_rfl
@[go_sem] theorem Try.bld25 (parts : List (Nat × TV)) : buildO Try.prog 25 parts = (fillT (fun i => ([(0, 1), (1, 2), (3, 2), (5, 2), (7, 1)] : List (Nat × Nat))[i]?) [.int .i64 0, .int .i64 0, .int .i64 0, .int .i64 0, .int .i64 0, .int .i64 0, .int .i64 0, .int .i64 0] parts).map .agg := by kernel_rfl
@[go_sem] theorem Try.eq25 (a0 b0 : Int) (a1 b1 : Int) (a2 b2 : Int) (a3 b3 : Int) (a4 b4 : Int) (a5 b5 : Int) (a6 b6 : Int) (a7 b7 : Int) : eqT Try.prog 20 25 (.agg [.int .i64 a0, .int .i64 a1, .int .i64 a2, .int .i64 a3, .int .i64 a4, .int .i64 a5, .int .i64 a6, .int .i64 a7]) (.agg [.int .i64 b0, .int .i64 b1, .int .i64 b2, .int .i64 b3, .int .i64 b4, .int .i64 b5, .int .i64 b6, .int .i64 b7]) = some ((a0 == b0) && (((a1 == b1) && ((a2 == b2) && true)) && (((a3 == b3) && ((a4 == b4) && true)) && (((a5 == b5) && ((a6 == b6) && true)) && ((a7 == b7) && true))))) := by kernel_rfl
@[go_sem] theorem Try.eqg25 : Program.eqGuardType Try.prog (Program.depth Try.prog) 25 = false := by kernel_rfl
@[go_sem] theorem Try.agg26 : aggO Try.prog 26 = some false := by kernel_rfl
@[go_sem] theorem Try.pln26 : plainO Try.prog 26 = some true := by kernel_rfl
@[go_sem] theorem Try.sz26 : szO Try.prog 26 = some 1 := by kernel_rfl
@[go_sem] theorem Try.zero26 : zeroL Try.prog 26 = some [.nilSl] := by kernel_rfl
@[go_sem] theorem Try.small26 : smallO Try.prog 26 = some (1, 24) := by kernel_rfl
@[go_sem] theorem Try.zt26 : zeroT Try.prog 26 = some (.nilSl) := by kernel_rfl
@[go_sem] theorem Try.eqn26 : eqT Try.prog 20 26 .nilSl .nilSl = some true := by kernel_rfl
@[go_sem] theorem Try.eqs26 (cs : List TV) (n : Nat) (f : Bool) : eqT Try.prog 20 26 (.sl cs n f) .nilSl = some false := by kernel_rfl
@[go_sem] theorem Try.eqt26 (cs : List TV) (n : Nat) (f : Bool) : eqT Try.prog 20 26 .nilSl (.sl cs n f) = some false := by kernel_rfl
@[go_sem] theorem Try.sl26 : sliceO Try.prog 26 = some 57 := by kernel_rfl
@[go_sem] theorem Try.und26 : Program.underlying Try.prog 26 = some (.slice 57) := by kernel_rfl
@[go_sem] theorem Try.agg27 : aggO Try.prog 27 = some true := by kernel_rfl
@[go_sem] theorem Try.pln27 : plainO Try.prog 27 = some true := by kernel_rfl
@[go_sem] theorem Try.sz27 : szO Try.prog 27 = some 3 := by kernel_rfl
@[go_sem] theorem Try.zero27 : zeroL Try.prog 27 = some [.int .i64 0, .int .i64 0, .int .i64 0] := by kernel_rfl
@[go_sem] theorem Try.small27 : smallO Try.prog 27 = some (3, 24) := by kernel_rfl
@[go_sem] theorem Try.zt27 : zeroT Try.prog 27 = some (.agg [.int .i64 0, .int .i64 0, .int .i64 0]) := by kernel_rfl
@[go_sem] theorem Try.fld27_0 : fieldO Try.prog 27 0 = some (0, 3) := by kernel_rfl
@[go_sem] theorem Try.fld27_1 : fieldO Try.prog 27 1 = some (1, 3) := by kernel_rfl
@[go_sem] theorem Try.fld27_2 : fieldO Try.prog 27 2 = some (2, 3) := by kernel_rfl
@[go_sem] theorem Try.bld27 (parts : List (Nat × TV)) : buildO Try.prog 27 parts = (fillT (fun i => ([(0, 1), (1, 1), (2, 1)] : List (Nat × Nat))[i]?) [.int .i64 0, .int .i64 0, .int .i64 0] parts).map .agg := by kernel_rfl
@[go_sem] theorem Try.eqg27 : Program.eqGuardType Try.prog (Program.depth Try.prog) 27 = false := by kernel_rfl
@[go_sem] theorem Try.agg28 : aggO Try.prog 28 = some true := by kernel_rfl
@[go_sem] theorem Try.pln28 : plainO Try.prog 28 = some true := by kernel_rfl
@[go_sem] theorem Try.sz28 : szO Try.prog 28 = some 3 := by kernel_rfl
@[go_sem] theorem Try.zero28 : zeroL Try.prog 28 = some [.int .i64 0, .int .i64 0, .int .i64 0] := by kernel_rfl
@[go_sem] theorem Try.small28 : smallO Try.prog 28 = some (3, 24) := by kernel_rfl
@[go_sem] theorem Try.zt28 : zeroT Try.prog 28 = some (.agg [.int .i64 0, .int .i64 0, .int .i64 0]) := by kernel_rfl
@[go_sem] theorem Try.fld28_0 : fieldO Try.prog 28 0 = some (0, 3) := by kernel_rfl
@[go_sem] theorem Try.fld28_1 : fieldO Try.prog 28 1 = some (1, 3) := by kernel_rfl
@[go_sem] theorem Try.fld28_2 : fieldO Try.prog 28 2 = some (2, 3) := by kernel_rfl
@[go_sem] theorem Try.bld28 (parts : List (Nat × TV)) : buildO Try.prog 28 parts = (fillT (fun i => ([(0, 1), (1, 1), (2, 1)] : List (Nat × Nat))[i]?) [.int .i64 0, .int .i64 0, .int .i64 0] parts).map .agg := by kernel_rfl
@[go_sem] theorem Try.eq28 (a0 b0 : Int) (a1 b1 : Int) (a2 b2 : Int) : eqT Try.prog 20 28 (.agg [.int .i64 a0, .int .i64 a1, .int .i64 a2]) (.agg [.int .i64 b0, .int .i64 b1, .int .i64 b2]) = some ((a0 == b0) && ((a1 == b1) && ((a2 == b2) && true))) := by kernel_rfl
@[go_sem] theorem Try.eqg28 : Program.eqGuardType Try.prog (Program.depth Try.prog) 28 = false := by kernel_rfl
@[go_sem] theorem Try.agg29 : aggO Try.prog 29 = some false := by kernel_rfl
@[go_sem] theorem Try.pln29 : plainO Try.prog 29 = some true := by kernel_rfl
@[go_sem] theorem Try.sz29 : szO Try.prog 29 = some 1 := by kernel_rfl
@[go_sem] theorem Try.zero29 : zeroL Try.prog 29 = some [.int .i64 0] := by kernel_rfl
@[go_sem] theorem Try.small29 : smallO Try.prog 29 = some (1, 8) := by kernel_rfl
@[go_sem] theorem Try.zt29 : zeroT Try.prog 29 = some (.int .i64 0) := by kernel_rfl
@[go_sem] theorem Try.knd29 : kindO Try.prog 29 = some .i64 := by kernel_rfl
@[go_sem] theorem Try.und29 : Program.underlying Try.prog 29 = some (.int .i64) := by kernel_rfl
@[go_sem] theorem Try.agg31 : aggO Try.prog 31 = some false := by kernel_rfl
@[go_sem] theorem Try.pln31 : plainO Try.prog 31 = some true := by kernel_rfl
@[go_sem] theorem Try.sz31 : szO Try.prog 31 = some 1 := by kernel_rfl
@[go_sem] theorem Try.zero31 : zeroL Try.prog 31 = some [.nilFn] := by kernel_rfl
@[go_sem] theorem Try.small31 : smallO Try.prog 31 = some (1, 8) := by kernel_rfl
@[go_sem] theorem Try.zt31 : zeroT Try.prog 31 = some (.nilFn) := by kernel_rfl
@[go_sem] theorem Try.agg32 : aggO Try.prog 32 = some false := by kernel_rfl
@[go_sem] theorem Try.pln32 : plainO Try.prog 32 = some true := by kernel_rfl
@[go_sem] theorem Try.sz32 : szO Try.prog 32 = some 1 := by kernel_rfl
@[go_sem] theorem Try.zero32 : zeroL Try.prog 32 = some [.nilFn] := by kernel_rfl
@[go_sem] theorem Try.small32 : smallO Try.prog 32 = some (1, 8) := by kernel_rfl
@[go_sem] theorem Try.zt32 : zeroT Try.prog 32 = some (.nilFn) := by kernel_rfl
@[go_sem] theorem Try.agg34 : aggO Try.prog 34 = some false := by kernel_rfl
@[go_sem] theorem Try.pln34 : plainO Try.prog 34 = some true := by kernel_rfl
@[go_sem] theorem Try.sz34 : szO Try.prog 34 = some 1 := by kernel_rfl
@[go_sem] theorem Try.zero34 : zeroL Try.prog 34 = some [.nilFn] := by kernel_rfl
@[go_sem] theorem Try.small34 : smallO Try.prog 34 = some (1, 8) := by kernel_rfl
@[go_sem] theorem Try.zt34 : zeroT Try.prog 34 = some (.nilFn) := by kernel_rfl
@[go_sem] theorem Try.agg35 : aggO Try.prog 35 = some false := by kernel_rfl
@[go_sem] theorem Try.pln35 : plainO Try.prog 35 = some true := by kernel_rfl
@[go_sem] theorem Try.sz35 : szO Try.prog 35 = some 1 := by kernel_rfl
@[go_sem] theorem Try.zero35 : zeroL Try.prog 35 = some [.nilFn] := by kernel_rfl
@[go_sem] theorem Try.small35 : smallO Try.prog 35 = some (1, 8) := by kernel_rfl
@[go_sem] theorem Try.zt35 : zeroT Try.prog 35 = some (.nilFn) := by kernel_rfl
@[go_sem] theorem Try.agg36 : aggO Try.prog 36 = some false := by kernel_rfl
@[go_sem] theorem Try.pln36 : plainO Try.prog 36 = some true := by kernel_rfl
@[go_sem] theorem Try.sz36 : szO Try.prog 36 = some 1 := by kernel_rfl
@[go_sem] theorem Try.zero36 : zeroL Try.prog 36 = some [.nilFn] := by kernel_rfl
@[go_sem] theorem Try.small36 : smallO Try.prog 36 = some (1, 8) := by kernel_rfl
@[go_sem] theorem Try.zt36 : zeroT Try.prog 36 = some (.nilFn) := by kernel_rfl
@[go_sem] theorem Try.agg37 : aggO Try.prog 37 = some false := by kernel_rfl
@[go_sem] theorem Try.pln37 : plainO Try.prog 37 = some true := by kernel_rfl
@[go_sem] theorem Try.sz37 : szO Try.prog 37 = some 1 := by kernel_rfl
@[go_sem] theorem Try.zero37 : zeroL Try.prog 37 = some [.nilSl] := by kernel_rfl
@[go_sem] theorem Try.small37 : smallO Try.prog 37 = some (1, 24) := by kernel_rfl
@[go_sem] theorem Try.zt37 : zeroT Try.prog 37 = some (.nilSl) := by kernel_rfl
@[go_sem] theorem Try.eqn37 : eqT Try.prog 20 37 .nilSl .nilSl = some true := by kernel_rfl
@[go_sem] theorem Try.eqs37 (cs : List TV) (n : Nat) (f : Bool) : eqT Try.prog 20 37 (.sl cs n f) .nilSl = some false := by kernel_rfl
@[go_sem] theorem Try.eqt37 (cs : List TV) (n : Nat) (f : Bool) : eqT Try.prog 20 37 .nilSl (.sl cs n f) = some false := by kernel_rfl
@[go_sem] theorem Try.sl37 : sliceO Try.prog 37 = some 3 := by kernel_rfl
@[go_sem] theorem Try.und37 : Program.underlying Try.prog 37 = some (.slice 3) := by kernel_rfl
@[go_sem] theorem Try.agg39 : aggO Try.prog 39 = some false := by kernel_rfl
@[go_sem] theorem Try.pln39 : plainO Try.prog 39 = some true := by kernel_rfl
@[go_sem] theorem Try.sz39 : szO Try.prog 39 = some 1 := by kernel_rfl
@[go_sem] theorem Try.zero39 : zeroL Try.prog 39 = some [.nilFn] := by kernel_rfl
@[go_sem] theorem Try.small39 : smallO Try.prog 39 = some (1, 8) := by kernel_rfl
@[go_sem] theorem Try.zt39 : zeroT Try.prog 39 = some (.nilFn) := by kernel_rfl
@[go_sem] theorem Try.agg40 : aggO Try.prog 40 = some false := by kernel_rfl
@[go_sem] theorem Try.pln40 : plainO Try.prog 40 = some true := by kernel_rfl
@[go_sem] theorem Try.sz40 : szO Try.prog 40 = some 1 := by kernel_rfl
@[go_sem] theorem Try.zero40 : zeroL Try.prog 40 = some [.nilFn] := by kernel_rfl
@[go_sem] theorem Try.small40 : smallO Try.prog 40 = some (1, 8) := by kernel_rfl
@[go_sem] theorem Try.zt40 : zeroT Try.prog 40 = some (.nilFn) := by kernel_rfl
@[go_sem] theorem Try.agg41 : aggO Try.prog 41 = some false := by kernel_rfl
@[go_sem] theorem Try.pln41 : plainO Try.prog 41 = some true := by kernel_rfl
@[go_sem] theorem Try.sz41 : szO Try.prog 41 = some 1 := by kernel_rfl
@[go_sem] theorem Try.zero41 : zeroL Try.prog 41 = some [.nilFn] := by kernel_rfl
@[go_sem] theorem Try.small41 : smallO Try.prog 41 = some (1, 8) := by kernel_rfl
@[go_sem] theorem Try.zt41 : zeroT Try.prog 41 = some (.nilFn) := by kernel_rfl
@[go_sem] theorem Try.agg43 : aggO Try.prog 43 = some false := by kernel_rfl
@[go_sem] theorem Try.pln43 : plainO Try.prog 43 = some true := by kernel_rfl
@[go_sem] theorem Try.sz43 : szO Try.prog 43 = some 1 := by kernel_rfl
@[go_sem] theorem Try.zero43 : zeroL Try.prog 43 = some [.nilFn] := by kernel_rfl
@[go_sem] theorem Try.small43 : smallO Try.prog 43 = some (1, 8) := by kernel_rfl
@[go_sem] theorem Try.zt43 : zeroT Try.prog 43 = some (.nilFn) := by kernel_rfl
@[go_sem] theorem Try.agg45 : aggO Try.prog 45 = some false := by kernel_rfl
@[go_sem] theorem Try.pln45 : plainO Try.prog 45 = some true := by kernel_rfl
@[go_sem] theorem Try.sz45 : szO Try.prog 45 = some 1 := by kernel_rfl
@[go_sem] theorem Try.zero45 : zeroL Try.prog 45 = some [.nilFn] := by kernel_rfl
@[go_sem] theorem Try.small45 : smallO Try.prog 45 = some (1, 8) := by kernel_rfl
@[go_sem] theorem Try.zt45 : zeroT Try.prog 45 = some (.nilFn) := by kernel_rfl
@[go_sem] theorem Try.agg46 : aggO Try.prog 46 = some false := by kernel_rfl
@[go_sem] theorem Try.pln46 : plainO Try.prog 46 = some true := by kernel_rfl
@[go_sem] theorem Try.sz46 : szO Try.prog 46 = some 1 := by kernel_rfl
@[go_sem] theorem Try.zero46 : zeroL Try.prog 46 = some [.nilFn] := by kernel_rfl
@[go_sem] theorem Try.small46 : smallO Try.prog 46 = some (1, 8) := by kernel_rfl
@[go_sem] theorem Try.zt46 : zeroT Try.prog 46 = some (.nilFn) := by kernel_rfl
@[go_sem] theorem Try.agg47 : aggO Try.prog 47 = some false := by kernel_rfl
@[go_sem] theorem Try.pln47 : plainO Try.prog 47 = some true := by kernel_rfl
@[go_sem] theorem Try.sz47 : szO Try.prog 47 = some 1 := by kernel_rfl
@[go_sem] theorem Try.zero47 : zeroL Try.prog 47 = some [.nilSl] := by kernel_rfl
@[go_sem] theorem Try.small47 : smallO Try.prog 47 = some (1, 24) := by kernel_rfl
@[go_sem] theorem Try.zt47 : zeroT Try.prog 47 = some (.nilSl) := by kernel_rfl
@[go_sem] theorem Try.eqn47 : eqT Try.prog 20 47 .nilSl .nilSl = some true := by kernel_rfl
@[go_sem] theorem Try.eqs47 (cs : List TV) (n : Nat) (f : Bool) : eqT Try.prog 20 47 (.sl cs n f) .nilSl = some false := by kernel_rfl
@[go_sem] theorem Try.eqt47 (cs : List TV) (n : Nat) (f : Bool) : eqT Try.prog 20 47 .nilSl (.sl cs n f) = some false := by kernel_rfl
@[go_sem] theorem Try.sl47 : sliceO Try.prog 47 = some 25 := by kernel_rfl
@[go_sem] theorem Try.und47 : Program.underlying Try.prog 47 = some (.slice 25) := by kernel_rfl
@[go_sem] theorem Try.agg48 : aggO Try.prog 48 = some true := by kernel_rfl
@[go_sem] theorem Try.pln48 : plainO Try.prog 48 = some true := by kernel_rfl
@[go_sem] theorem Try.sz48 : szO Try.prog 48 = some 2 := by kernel_rfl
@[go_sem] theorem Try.zero48 : zeroL Try.prog 48 = some [.int .i64 0, .int .i64 0] := by kernel_rfl
@[go_sem] theorem Try.small48 : smallO Try.prog 48 = some (2, 16) := by kernel_rfl
@[go_sem] theorem Try.zt48 : zeroT Try.prog 48 = some (.agg [.int .i64 0, .int .i64 0]) := by kernel_rfl
@[go_sem] theorem Try.fld48_0 : fieldO Try.prog 48 0 = some (0, 3) := by kernel_rfl
@[go_sem] theorem Try.fld48_1 : fieldO Try.prog 48 1 = some (1, 3) := by kernel_rfl
@[go_sem] theorem Try.bld48 (parts : List (Nat × TV)) : buildO Try.prog 48 parts = (fillT (fun i => ([(0, 1), (1, 1)] : List (Nat × Nat))[i]?) [.int .i64 0, .int .i64 0] parts).map .agg := by kernel_rfl
@[go_sem] theorem Try.eqg48 : Program.eqGuardType Try.prog (Program.depth Try.prog) 48 = false := by kernel_rfl
@[go_sem] theorem Try.agg49 : aggO Try.prog 49 = some true := by kernel_rfl
@[go_sem] theorem Try.pln49 : plainO Try.prog 49 = some true := by kernel_rfl
@[go_sem] theorem Try.sz49 : szO Try.prog 49 = some 2 := by kernel_rfl
@[go_sem] theorem Try.zero49 : zeroL Try.prog 49 = some [.int .i64 0, .int .i64 0] := by kernel_rfl
@[go_sem] theorem Try.small49 : smallO Try.prog 49 = some (2, 16) := by kernel_rfl
@[go_sem] theorem Try.zt49 : zeroT Try.prog 49 = some (.agg [.int .i64 0, .int .i64 0]) := by kernel_rfl
@[go_sem] theorem Try.fld49_0 : fieldO Try.prog 49 0 = some (0, 3) := by kernel_rfl
@[go_sem] theorem Try.fld49_1 : fieldO Try.prog 49 1 = some (1, 3) := by kernel_rfl
@[go_sem] theorem Try.bld49 (parts : List (Nat × TV)) : buildO Try.prog 49 parts = (fillT (fun i => ([(0, 1), (1, 1)] : List (Nat × Nat))[i]?) [.int .i64 0, .int .i64 0] parts).map .agg := by kernel_rfl
@[go_sem] theorem Try.eq49 (a0 b0 : Int) (a1 b1 : Int) : eqT Try.prog 20 49 (.agg [.int .i64 a0, .int .i64 a1]) (.agg [.int .i64 b0, .int .i64 b1]) = some ((a0 == b0) && ((a1 == b1) && true)) := by kernel_rfl
@[go_sem] theorem Try.eqg49 : Program.eqGuardType Try.prog (Program.depth Try.prog) 49 = false := by kernel_rfl
@[go_sem] theorem Try.agg50 : aggO Try.prog 50 = some false := by kernel_rfl
@[go_sem] theorem Try.pln50 : plainO Try.prog 50 = some true := by kernel_rfl
@[go_sem] theorem Try.sz50 : szO Try.prog 50 = some 1 := by kernel_rfl
@[go_sem] theorem Try.zero50 : zeroL Try.prog 50 = some [.nilFn] := by kernel_rfl
@[go_sem] theorem Try.small50 : smallO Try.prog 50 = some (1, 8) := by kernel_rfl
@[go_sem] theorem Try.zt50 : zeroT Try.prog 50 = some (.nilFn) := by kernel_rfl
@[go_sem] theorem Try.agg51 : aggO Try.prog 51 = some false := by kernel_rfl
@[go_sem] theorem Try.pln51 : plainO Try.prog 51 = some true := by kernel_rfl
@[go_sem] theorem Try.sz51 : szO Try.prog 51 = some 1 := by kernel_rfl
@[go_sem] theorem Try.zero51 : zeroL Try.prog 51 = some [.nilFn] := by kernel_rfl
@[go_sem] theorem Try.small51 : smallO Try.prog 51 = some (1, 8) := by kernel_rfl
@[go_sem] theorem Try.zt51 : zeroT Try.prog 51 = some (.nilFn) := by kernel_rfl
@[go_sem] theorem Try.agg52 : aggO Try.prog 52 = some false := by kernel_rfl
@[go_sem] theorem Try.pln52 : plainO Try.prog 52 = some true := by kernel_rfl
@[go_sem] theorem Try.sz52 : szO Try.prog 52 = some 1 := by kernel_rfl
@[go_sem] theorem Try.zero52 : zeroL Try.prog 52 = some [.nilFn] := by kernel_rfl
@[go_sem] theorem Try.small52 : smallO Try.prog 52 = some (1, 8) := by kernel_rfl
@[go_sem] theorem Try.zt52 : zeroT Try.prog 52 = some (.nilFn) := by kernel_rfl
@[go_sem] theorem Try.agg53 : aggO Try.prog 53 = some false := by kernel_rfl
@[go_sem] theorem Try.pln53 : plainO Try.prog 53 = some true := by kernel_rfl
@[go_sem] theorem Try.sz53 : szO Try.prog 53 = some 1 := by kernel_rfl
@[go_sem] theorem Try.zero53 : zeroL Try.prog 53 = some [.nilFn] := by kernel_rfl
@[go_sem] theorem Try.small53 : smallO Try.prog 53 = some (1, 8) := by kernel_rfl
@[go_sem] theorem Try.zt53 : zeroT Try.prog 53 = some (.nilFn) := by kernel_rfl
@[go_sem] theorem Try.agg54 : aggO Try.prog 54 = some false := by kernel_rfl
@[go_sem] theorem Try.pln54 : plainO Try.prog 54 = some true := by kernel_rfl
@[go_sem] theorem Try.sz54 : szO Try.prog 54 = some 1 := by kernel_rfl
@[go_sem] theorem Try.zero54 : zeroL Try.prog 54 = some [.nilSl] := by kernel_rfl
@[go_sem] theorem Try.small54 : smallO Try.prog 54 = some (1, 24) := by kernel_rfl
@[go_sem] theorem Try.zt54 : zeroT Try.prog 54 = some (.nilSl) := by kernel_rfl
@[go_sem] theorem Try.eqn54 : eqT Try.prog 20 54 .nilSl .nilSl = some true := by kernel_rfl
@[go_sem] theorem Try.eqs54 (cs : List TV) (n : Nat) (f : Bool) : eqT Try.prog 20 54 (.sl cs n f) .nilSl = some false := by kernel_rfl
@[go_sem] theorem Try.eqt54 (cs : List TV) (n : Nat) (f : Bool) : eqT Try.prog 20 54 .nilSl (.sl cs n f) = some false := by kernel_rfl
@[go_sem] theorem Try.sl54 : sliceO Try.prog 54 = some 4 := by kernel_rfl
@[go_sem] theorem Try.und54 : Program.underlying Try.prog 54 = some (.slice 4) := by kernel_rfl
@[go_sem] theorem Try.agg55 : aggO Try.prog 55 = some true := by kernel_rfl
@[go_sem] theorem Try.pln55 : plainO Try.prog 55 = some true := by kernel_rfl
@[go_sem] theorem Try.sz55 : szO Try.prog 55 = some 2 := by kernel_rfl
@[go_sem] theorem Try.zero55 : zeroL Try.prog 55 = some [.int .i64 0, .int .i64 0] := by kernel_rfl
@[go_sem] theorem Try.small55 : smallO Try.prog 55 = some (2, 16) := by kernel_rfl
@[go_sem] theorem Try.zt55 : zeroT Try.prog 55 = some (.agg [.int .i64 0, .int .i64 0]) := by kernel_rfl
@[go_sem] theorem Try.bld55 (parts : List (Nat × TV)) : buildO Try.prog 55 parts = (fillT (fun i => some (i * 1, 1)) [.int .i64 0, .int .i64 0] parts).map .agg := by kernel_rfl
@[go_sem] theorem Try.eq55 (a0 b0 : Int) (a1 b1 : Int) : eqT Try.prog 20 55 (.agg [.int .i64 a0, .int .i64 a1]) (.agg [.int .i64 b0, .int .i64 b1]) = some ((a0 == b0) && ((a1 == b1) && true)) := by kernel_rfl
@[go_sem] theorem Try.eqg55 : Program.eqGuardType Try.prog (Program.depth Try.prog) 55 = false := by kernel_rfl
@[go_sem] theorem Try.arr55 : arrayO Try.prog 55 = some (2, 3) := by kernel_rfl
@[go_sem] theorem Try.und55 : Program.underlying Try.prog 55 = some (.array 2 3) := by kernel_rfl
@[go_sem] theorem Try.agg56 : aggO Try.prog 56 = some true := by kernel_rfl
@[go_sem] theorem Try.pln56 : plainO Try.prog 56 = some true := by kernel_rfl
@[go_sem] theorem Try.sz56 : szO Try.prog 56 = some 3 := by kernel_rfl
@[go_sem] theorem Try.zero56 : zeroL Try.prog 56 = some [.int .i64 0, .int .i64 0, .bool false] := by kernel_rfl
@[go_sem] theorem Try.small56 : smallO Try.prog 56 = some (3, 24) := by kernel_rfl
@[go_sem] theorem Try.zt56 : zeroT Try.prog 56 = some (.agg [.int .i64 0, .int .i64 0, .bool false]) := by kernel_rfl
@[go_sem] theorem Try.fld56_0 : fieldO Try.prog 56 0 = some (0, 3) := by kernel_rfl
@[go_sem] theorem Try.fld56_1 : fieldO Try.prog 56 1 = some (1, 3) := by kernel_rfl
@[go_sem] theorem Try.fld56_2 : fieldO Try.prog 56 2 = some (2, 4) := by kernel_rfl
@[go_sem] theorem Try.bld56 (parts : List (Nat × TV)) : buildO Try.prog 56 parts = (fillT (fun i => ([(0, 1), (1, 1), (2, 1)] : List (Nat × Nat))[i]?) [.int .i64 0, .int .i64 0, .bool false] parts).map .agg := by kernel_rfl
@[go_sem] theorem Try.eqg56 : Program.eqGuardType Try.prog (Program.depth Try.prog) 56 = false := by kernel_rfl
@[go_sem] theorem Try.agg57 : aggO Try.prog 57 = some true := by kernel_rfl
@[go_sem] theorem Try.pln57 : plainO Try.prog 57 = some true := by kernel_rfl
@[go_sem] theorem Try.sz57 : szO Try.prog 57 = some 3 := by kernel_rfl
@[go_sem] theorem Try.zero57 : zeroL Try.prog 57 = some [.int .i64 0, .int .i64 0, .bool false] := by kernel_rfl
@[go_sem] theorem Try.small57 : smallO Try.prog 57 = some (3, 24) := by kernel_rfl
@[go_sem] theorem Try.zt57 : zeroT Try.prog 57 = some (.agg [.int .i64 0, .int .i64 0, .bool false]) := by kernel_rfl
@[go_sem] theorem Try.fld57_0 : fieldO Try.prog 57 0 = some (0, 3) := by kernel_rfl
@[go_sem] theorem Try.fld57_1 : fieldO Try.prog 57 1 = some (1, 3) := by kernel_rfl
@[go_sem] theorem Try.fld57_2 : fieldO Try.prog 57 2 = some (2, 4) := by kernel_rfl
@[go_sem] theorem Try.bld57 (parts : List (Nat × TV)) : buildO Try.prog 57 parts = (fillT (fun i => ([(0, 1), (1, 1), (2, 1)] : List (Nat × Nat))[i]?) [.int .i64 0, .int .i64 0, .bool false] parts).map .agg := by kernel_rfl
@[go_sem] theorem Try.eq57 (a0 b0 : Int) (a1 b1 : Int) (a2 b2 : Bool) : eqT Try.prog 20 57 (.agg [.int .i64 a0, .int .i64 a1, .bool a2]) (.agg [.int .i64 b0, .int .i64 b1, .bool b2]) = some ((a0 == b0) && ((a1 == b1) && ((a2 == b2) && true))) := by kernel_rfl
@[go_sem] theorem Try.eqg57 : Program.eqGuardType Try.prog (Program.depth Try.prog) 57 = false := by kernel_rfl
@[go_sem] theorem Try.agg58 : aggO Try.prog 58 = some false := by kernel_rfl
@[go_sem] theorem Try.pln58 : plainO Try.prog 58 = some true := by kernel_rfl
@[go_sem] theorem Try.sz58 : szO Try.prog 58 = some 1 := by kernel_rfl
@[go_sem] theorem Try.zero58 : zeroL Try.prog 58 = some [.nilFn] := by kernel_rfl
@[go_sem] theorem Try.small58 : smallO Try.prog 58 = some (1, 8) := by kernel_rfl
@[go_sem] theorem Try.zt58 : zeroT Try.prog 58 = some (.nilFn) := by kernel_rfl
@[go_sem] theorem Try.agg59 : aggO Try.prog 59 = some false := by kernel_rfl
@[go_sem] theorem Try.pln59 : plainO Try.prog 59 = some true := by kernel_rfl
@[go_sem] theorem Try.sz59 : szO Try.prog 59 = some 1 := by kernel_rfl
@[go_sem] theorem Try.zero59 : zeroL Try.prog 59 = some [.nilFn] := by kernel_rfl
@[go_sem] theorem Try.small59 : smallO Try.prog 59 = some (1, 8) := by kernel_rfl
@[go_sem] theorem Try.zt59 : zeroT Try.prog 59 = some (.nilFn) := by kernel_rfl
@[go_sem] theorem Try.agg60 : aggO Try.prog 60 = some false := by kernel_rfl
@[go_sem] theorem Try.pln60 : plainO Try.prog 60 = some true := by kernel_rfl
@[go_sem] theorem Try.sz60 : szO Try.prog 60 = some 1 := by kernel_rfl
@[go_sem] theorem Try.zero60 : zeroL Try.prog 60 = some [.nilFn] := by kernel_rfl
@[go_sem] theorem Try.small60 : smallO Try.prog 60 = some (1, 8) := by kernel_rfl
@[go_sem] theorem Try.zt60 : zeroT Try.prog 60 = some (.nilFn) := by kernel_rfl
@[go_sem] theorem Try.agg62 : aggO Try.prog 62 = some false := by kernel_rfl
@[go_sem] theorem Try.pln62 : plainO Try.prog 62 = some true := by kernel_rfl
@[go_sem] theorem Try.sz62 : szO Try.prog 62 = some 1 := by kernel_rfl
@[go_sem] theorem Try.zero62 : zeroL Try.prog 62 = some [.nilFn] := by kernel_rfl
@[go_sem] theorem Try.small62 : smallO Try.prog 62 = some (1, 8) := by kernel_rfl
@[go_sem] theorem Try.zt62 : zeroT Try.prog 62 = some (.nilFn) := by kernel_rfl
@[go_sem] theorem Try.agg63 : aggO Try.prog 63 = some false := by kernel_rfl
@[go_sem] theorem Try.pln63 : plainO Try.prog 63 = some true := by kernel_rfl
@[go_sem] theorem Try.sz63 : szO Try.prog 63 = some 1 := by kernel_rfl
@[go_sem] theorem Try.zero63 : zeroL Try.prog 63 = some [.nilFn] := by kernel_rfl
@[go_sem] theorem Try.small63 : smallO Try.prog 63 = some (1, 8) := by kernel_rfl
@[go_sem] theorem Try.zt63 : zeroT Try.prog 63 = some (.nilFn) := by kernel_rfl
@[go_sem] theorem Try.agg64 : aggO Try.prog 64 = some false := by kernel_rfl
@[go_sem] theorem Try.pln64 : plainO Try.prog 64 = some true := by kernel_rfl
@[go_sem] theorem Try.sz64 : szO Try.prog 64 = some 1 := by kernel_rfl
@[go_sem] theorem Try.zero64 : zeroL Try.prog 64 = some [.nilFn] := by kernel_rfl
@[go_sem] theorem Try.small64 : smallO Try.prog 64 = some (1, 8) := by kernel_rfl
@[go_sem] theorem Try.zt64 : zeroT Try.prog 64 = some (.nilFn) := by kernel_rfl
@[go_sem] theorem Try.agg65 : aggO Try.prog 65 = some false := by kernel_rfl
@[go_sem] theorem Try.pln65 : plainO Try.prog 65 = some true := by kernel_rfl
@[go_sem] theorem Try.sz65 : szO Try.prog 65 = some 1 := by kernel_rfl
@[go_sem] theorem Try.zero65 : zeroL Try.prog 65 = some [.nilFn] := by kernel_rfl
@[go_sem] theorem Try.small65 : smallO Try.prog 65 = some (1, 8) := by kernel_rfl
@[go_sem] theorem Try.zt65 : zeroT Try.prog 65 = some (.nilFn) := by kernel_rfl
@[go_sem] theorem Try.agg66 : aggO Try.prog 66 = some false := by kernel_rfl
@[go_sem] theorem Try.pln66 : plainO Try.prog 66 = some true := by kernel_rfl
@[go_sem] theorem Try.sz66 : szO Try.prog 66 = some 1 := by kernel_rfl
@[go_sem] theorem Try.zero66 : zeroL Try.prog 66 = some [.nilFn] := by kernel_rfl
@[go_sem] theorem Try.small66 : smallO Try.prog 66 = some (1, 8) := by kernel_rfl
@[go_sem] theorem Try.zt66 : zeroT Try.prog 66 = some (.nilFn) := by kernel_rfl
@[go_sem] theorem Try.agg67 : aggO Try.prog 67 = some false := by kernel_rfl
@[go_sem] theorem Try.pln67 : plainO Try.prog 67 = some true := by kernel_rfl
@[go_sem] theorem Try.sz67 : szO Try.prog 67 = some 1 := by kernel_rfl
@[go_sem] theorem Try.zero67 : zeroL Try.prog 67 = some [.nilFn] := by kernel_rfl
@[go_sem] theorem Try.small67 : smallO Try.prog 67 = some (1, 8) := by kernel_rfl
@[go_sem] theorem Try.zt67 : zeroT Try.prog 67 = some (.nilFn) := by kernel_rfl
@[go_sem] theorem Try.agg68 : aggO Try.prog 68 = some false := by kernel_rfl
@[go_sem] theorem Try.pln68 : plainO Try.prog 68 = some true := by kernel_rfl
@[go_sem] theorem Try.sz68 : szO Try.prog 68 = some 1 := by kernel_rfl
@[go_sem] theorem Try.zero68 : zeroL Try.prog 68 = some [.nilFn] := by kernel_rfl
@[go_sem] theorem Try.small68 : smallO Try.prog 68 = some (1, 8) := by kernel_rfl
@[go_sem] theorem Try.zt68 : zeroT Try.prog 68 = some (.nilFn) := by kernel_rfl
@[go_sem] theorem Try.agg69 : aggO Try.prog 69 = some true := by kernel_rfl
@[go_sem] theorem Try.pln69 : plainO Try.prog 69 = some true := by kernel_rfl
@[go_sem] theorem Try.sz69 : szO Try.prog 69 = some 5 := by kernel_rfl
@[go_sem] theorem Try.zero69 : zeroL Try.prog 69 = some [.int .i64 0, .int .i64 0, .int .i64 0, .int .i64 0, .int .i64 0] := by kernel_rfl
@[go_sem] theorem Try.small69 : smallO Try.prog 69 = some (5, 40) := by kernel_rfl
@[go_sem] theorem Try.zt69 : zeroT Try.prog 69 = some (.agg [.int .i64 0, .int .i64 0, .int .i64 0, .int .i64 0, .int .i64 0]) := by kernel_rfl
@[go_sem] theorem Try.bld69 (parts : List (Nat × TV)) : buildO Try.prog 69 parts = (fillT (fun i => some (i * 1, 1)) [.int .i64 0, .int .i64 0, .int .i64 0, .int .i64 0, .int .i64 0] parts).map .agg := by kernel_rfl
@[go_sem] theorem Try.eq69 (a0 b0 : Int) (a1 b1 : Int) (a2 b2 : Int) (a3 b3 : Int) (a4 b4 : Int) : eqT Try.prog 20 69 (.agg [.int .i64 a0, .int .i64 a1, .int .i64 a2, .int .i64 a3, .int .i64 a4]) (.agg [.int .i64 b0, .int .i64 b1, .int .i64 b2, .int .i64 b3, .int .i64 b4]) = some ((a0 == b0) && ((a1 == b1) && ((a2 == b2) && ((a3 == b3) && ((a4 == b4) && true))))) := by kernel_rfl
@[go_sem] theorem Try.eqg69 : Program.eqGuardType Try.prog (Program.depth Try.prog) 69 = false := by kernel_rfl
@[go_sem] theorem Try.arr69 : arrayO Try.prog 69 = some (5, 3) := by kernel_rfl
@[go_sem] theorem Try.und69 : Program.underlying Try.prog 69 = some (.array 5 3) := by kernel_rfl
@[go_sem] theorem Try.agg70 : aggO Try.prog 70 = some false := by kernel_rfl
@[go_sem] theorem Try.pln70 : plainO Try.prog 70 = some true := by kernel_rfl
@[go_sem] theorem Try.sz70 : szO Try.prog 70 = some 1 := by kernel_rfl
@[go_sem] theorem Try.zero70 : zeroL Try.prog 70 = some [.nilFn] := by kernel_rfl
@[go_sem] theorem Try.small70 : smallO Try.prog 70 = some (1, 8) := by kernel_rfl
@[go_sem] theorem Try.zt70 : zeroT Try.prog 70 = some (.nilFn) := by kernel_rfl
@[go_sem] theorem Try.agg71 : aggO Try.prog 71 = some false := by kernel_rfl
@[go_sem] theorem Try.pln71 : plainO Try.prog 71 = some true := by kernel_rfl
@[go_sem] theorem Try.sz71 : szO Try.prog 71 = some 1 := by kernel_rfl
@[go_sem] theorem Try.zero71 : zeroL Try.prog 71 = some [.nilFn] := by kernel_rfl
@[go_sem] theorem Try.small71 : smallO Try.prog 71 = some (1, 8) := by kernel_rfl
@[go_sem] theorem Try.zt71 : zeroT Try.prog 71 = some (.nilFn) := by kernel_rfl
@[go_sem] theorem Try.agg72 : aggO Try.prog 72 = some false := by kernel_rfl
@[go_sem] theorem Try.pln72 : plainO Try.prog 72 = some true := by kernel_rfl
@[go_sem] theorem Try.sz72 : szO Try.prog 72 = some 1 := by kernel_rfl
@[go_sem] theorem Try.zero72 : zeroL Try.prog 72 = some [.nilFn] := by kernel_rfl
@[go_sem] theorem Try.small72 : smallO Try.prog 72 = some (1, 8) := by kernel_rfl
@[go_sem] theorem Try.zt72 : zeroT Try.prog 72 = some (.nilFn) := by kernel_rfl
@[go_sem] theorem Try.agg73 : aggO Try.prog 73 = some false := by kernel_rfl
@[go_sem] theorem Try.pln73 : plainO Try.prog 73 = some true := by kernel_rfl
@[go_sem] theorem Try.sz73 : szO Try.prog 73 = some 1 := by kernel_rfl
@[go_sem] theorem Try.zero73 : zeroL Try.prog 73 = some [.nilFn] := by kernel_rfl
@[go_sem] theorem Try.small73 : smallO Try.prog 73 = some (1, 8) := by kernel_rfl
@[go_sem] theorem Try.zt73 : zeroT Try.prog 73 = some (.nilFn) := by kernel_rfl
@[go_sem] theorem Try.agg74 : aggO Try.prog 74 = some false := by kernel_rfl
@[go_sem] theorem Try.pln74 : plainO Try.prog 74 = some true := by kernel_rfl
@[go_sem] theorem Try.sz74 : szO Try.prog 74 = some 1 := by kernel_rfl
@[go_sem] theorem Try.zero74 : zeroL Try.prog 74 = some [.nilSl] := by kernel_rfl
@[go_sem] theorem Try.small74 : smallO Try.prog 74 = some (1, 24) := by kernel_rfl
@[go_sem] theorem Try.zt74 : zeroT Try.prog 74 = some (.nilSl) := by kernel_rfl
@[go_sem] theorem Try.eqn74 : eqT Try.prog 20 74 .nilSl .nilSl = some true := by kernel_rfl
@[go_sem] theorem Try.eqs74 (cs : List TV) (n : Nat) (f : Bool) : eqT Try.prog 20 74 (.sl cs n f) .nilSl = some false := by kernel_rfl
@[go_sem] theorem Try.eqt74 (cs : List TV) (n : Nat) (f : Bool) : eqT Try.prog 20 74 .nilSl (.sl cs n f) = some false := by kernel_rfl
@[go_sem] theorem Try.sl74 : sliceO Try.prog 74 = some 26 := by kernel_rfl
@[go_sem] theorem Try.und74 : Program.underlying Try.prog 74 = some (.slice 26) := by kernel_rfl
@[go_sem] theorem Try.agg75 : aggO Try.prog 75 = some false := by kernel_rfl
@[go_sem] theorem Try.pln75 : plainO Try.prog 75 = some true := by kernel_rfl
@[go_sem] theorem Try.sz75 : szO Try.prog 75 = some 1 := by kernel_rfl
@[go_sem] theorem Try.zero75 : zeroL Try.prog 75 = some [.nilFn] := by kernel_rfl
@[go_sem] theorem Try.small75 : smallO Try.prog 75 = some (1, 8) := by kernel_rfl
@[go_sem] theorem Try.zt75 : zeroT Try.prog 75 = some (.nilFn) := by kernel_rfl
@[go_sem] theorem Try.agg76 : aggO Try.prog 76 = some true := by kernel_rfl
@[go_sem] theorem Try.pln76 : plainO Try.prog 76 = some true := by kernel_rfl
@[go_sem] theorem Try.sz76 : szO Try.prog 76 = some 8 := by kernel_rfl
@[go_sem] theorem Try.zero76 : zeroL Try.prog 76 = some [.int .i64 0, .int .i64 0, .int .i64 0, .int .i64 0, .int .i64 0, .int .i64 0, .int .i64 0, .int .i64 0] := by kernel_rfl
@[go_sem] theorem Try.small76 : smallO Try.prog 76 = some (8, 64) := by kernel_rfl
@[go_sem] theorem Try.zt76 : zeroT Try.prog 76 = some (.agg [.int .i64 0, .int .i64 0, .int .i64 0, .int .i64 0, .int .i64 0, .int .i64 0, .int .i64 0, .int .i64 0]) := by kernel_rfl
@[go_sem] theorem Try.fld76_0 : fieldO Try.prog 76 0 = some (0, 25) := by kernel_rfl
@[go_sem] theorem Try.bld76 (parts : List (Nat × TV)) : buildO Try.prog 76 parts = (fillT (fun i => ([(0, 8)] : List (Nat × Nat))[i]?) [.int .i64 0, .int .i64 0, .int .i64 0, .int .i64 0, .int .i64 0, .int .i64 0, .int .i64 0, .int .i64 0] parts).map .agg := by kernel_rfl
@[go_sem] theorem Try.eqg76 : Program.eqGuardType Try.prog (Program.depth Try.prog) 76 = false := by kernel_rfl
@[go_sem] theorem Try.agg77 : aggO Try.prog 77 = some true := by kernel_rfl
@[go_sem] theorem Try.pln77 : plainO Try.prog 77 = some true := by kernel_rfl
@[go_sem] theorem Try.sz77 : szO Try.prog 77 = some 8 := by kernel_rfl
@[go_sem] theorem Try.zero77 : zeroL Try.prog 77 = some [.int .i64 0, .int .i64 0, .int .i64 0, .int .i64 0, .int .i64 0, .int .i64 0, .int .i64 0, .int .i64 0] := by kernel_rfl
@[go_sem] theorem Try.small77 : smallO Try.prog 77 = some (8, 64) := by kernel_rfl
@[go_sem] theorem Try.zt77 : zeroT Try.prog 77 = some (.agg [.int .i64 0, .int .i64 0, .int .i64 0, .int .i64 0, .int .i64 0, .int .i64 0, .int .i64 0, .int .i64 0]) := by kernel_rfl
@[go_sem] theorem Try.fld77_0 : fieldO Try.prog 77 0 = some (0, 25) := by kernel_rfl
@[go_sem] theorem Try.bld77 (parts : List (Nat × TV)) : buildO Try.prog 77 parts = (fillT (fun i => ([(0, 8)] : List (Nat × Nat))[i]?) [.int .i64 0, .int .i64 0, .int .i64 0, .int .i64 0, .int .i64 0, .int .i64 0, .int .i64 0, .int .i64 0] parts).map .agg := by kernel_rfl
@[go_sem] theorem Try.eq77 (a0 b0 : Int) (a1 b1 : Int) (a2 b2 : Int) (a3 b3 : Int) (a4 b4 : Int) (a5 b5 : Int) (a6 b6 : Int) (a7 b7 : Int) : eqT Try.prog 20 77 (.agg [.int .i64 a0, .int .i64 a1, .int .i64 a2, .int .i64 a3, .int .i64 a4, .int .i64 a5, .int .i64 a6, .int .i64 a7]) (.agg [.int .i64 b0, .int .i64 b1, .int .i64 b2, .int .i64 b3, .int .i64 b4, .int .i64 b5, .int .i64 b6, .int .i64 b7]) = some (((a0 == b0) && (((a1 == b1) && ((a2 == b2) && true)) && (((a3 == b3) && ((a4 == b4) && true)) && (((a5 == b5) && ((a6 == b6) && true)) && ((a7 == b7) && true))))) && true) := by kernel_rfl
@[go_sem] theorem Try.eqg77 : Program.eqGuardType Try.prog (Program.depth Try.prog) 77 = false := by kernel_rfl
@[go_sem] theorem Try.agg78 : aggO Try.prog 78 = some false := by kernel_rfl
@[go_sem] theorem Try.pln78 : plainO Try.prog 78 = some true := by kernel_rfl
@[go_sem] theorem Try.sz78 : szO Try.prog 78 = some 1 := by kernel_rfl
@[go_sem] theorem Try.zero78 : zeroL Try.prog 78 = some [.nilSl] := by kernel_rfl
@[go_sem] theorem Try.small78 : smallO Try.prog 78 = some (1, 24) := by kernel_rfl
@[go_sem] theorem Try.zt78 : zeroT Try.prog 78 = some (.nilSl) := by kernel_rfl
@[go_sem] theorem Try.eqn78 : eqT Try.prog 20 78 .nilSl .nilSl = some true := by kernel_rfl
@[go_sem] theorem Try.eqs78 (cs : List TV) (n : Nat) (f : Bool) : eqT Try.prog 20 78 (.sl cs n f) .nilSl = some false := by kernel_rfl
@[go_sem] theorem Try.eqt78 (cs : List TV) (n : Nat) (f : Bool) : eqT Try.prog 20 78 .nilSl (.sl cs n f) = some false := by kernel_rfl
@[go_sem] theorem Try.sl78 : sliceO Try.prog 78 = some 82 := by kernel_rfl
@[go_sem] theorem Try.und78 : Program.underlying Try.prog 78 = some (.slice 82) := by kernel_rfl
@[go_sem] theorem Try.agg80 : aggO Try.prog 80 = some false := by kernel_rfl
@[go_sem] theorem Try.pln80 : plainO Try.prog 80 = some true := by kernel_rfl
@[go_sem] theorem Try.sz80 : szO Try.prog 80 = some 1 := by kernel_rfl
@[go_sem] theorem Try.zero80 : zeroL Try.prog 80 = some [.nilFn] := by kernel_rfl
@[go_sem] theorem Try.small80 : smallO Try.prog 80 = some (1, 8) := by kernel_rfl
@[go_sem] theorem Try.zt80 : zeroT Try.prog 80 = some (.nilFn) := by kernel_rfl
@[go_sem] theorem Try.agg81 : aggO Try.prog 81 = some false := by kernel_rfl
@[go_sem] theorem Try.pln81 : plainO Try.prog 81 = some false := by kernel_rfl
@[go_sem] theorem Try.sz81 : szO Try.prog 81 = some 1 := by kernel_rfl
@[go_sem] theorem Try.zero81 : zeroL Try.prog 81 = some [.nilIf] := by kernel_rfl
@[go_sem] theorem Try.small81 : smallO Try.prog 81 = some (1, 16) := by kernel_rfl
@[go_sem] theorem Try.zt81 : zeroT Try.prog 81 = some (.nilIf) := by kernel_rfl
@[go_sem] theorem Try.agg82 : aggO Try.prog 82 = some false := by kernel_rfl
@[go_sem] theorem Try.pln82 : plainO Try.prog 82 = some false := by kernel_rfl
@[go_sem] theorem Try.sz82 : szO Try.prog 82 = some 1 := by kernel_rfl
@[go_sem] theorem Try.zero82 : zeroL Try.prog 82 = some [.nilIf] := by kernel_rfl
@[go_sem] theorem Try.small82 : smallO Try.prog 82 = some (1, 16) := by kernel_rfl
@[go_sem] theorem Try.zt82 : zeroT Try.prog 82 = some (.nilIf) := by kernel_rfl
@[go_sem] theorem Try.agg83 : aggO Try.prog 83 = some false := by kernel_rfl
@[go_sem] theorem Try.pln83 : plainO Try.prog 83 = some true := by kernel_rfl
@[go_sem] theorem Try.sz83 : szO Try.prog 83 = some 1 := by kernel_rfl
@[go_sem] theorem Try.zero83 : zeroL Try.prog 83 = some [.nilFn] := by kernel_rfl
@[go_sem] theorem Try.small83 : smallO Try.prog 83 = some (1, 8) := by kernel_rfl
@[go_sem] theorem Try.zt83 : zeroT Try.prog 83 = some (.nilFn) := by kernel_rfl
@[go_sem] theorem Try.agg85 : aggO Try.prog 85 = some false := by kernel_rfl
@[go_sem] theorem Try.pln85 : plainO Try.prog 85 = some true := by kernel_rfl
@[go_sem] theorem Try.sz85 : szO Try.prog 85 = some 1 := by kernel_rfl
@[go_sem] theorem Try.zero85 : zeroL Try.prog 85 = some [.nilFn] := by kernel_rfl
@[go_sem] theorem Try.small85 : smallO Try.prog 85 = some (1, 8) := by kernel_rfl
@[go_sem] theorem Try.zt85 : zeroT Try.prog 85 = some (.nilFn) := by kernel_rfl
@[go_sem] theorem Try.agg86 : aggO Try.prog 86 = some false := by kernel_rfl
@[go_sem] theorem Try.pln86 : plainO Try.prog 86 = some true := by kernel_rfl
@[go_sem] theorem Try.sz86 : szO Try.prog 86 = some 1 := by kernel_rfl
@[go_sem] theorem Try.zero86 : zeroL Try.prog 86 = some [.nilSl] := by kernel_rfl
@[go_sem] theorem Try.small86 : smallO Try.prog 86 = some (1, 24) := by kernel_rfl
@[go_sem] theorem Try.zt86 : zeroT Try.prog 86 = some (.nilSl) := by kernel_rfl
@[go_sem] theorem Try.eqn86 : eqT Try.prog 20 86 .nilSl .nilSl = some true := by kernel_rfl
@[go_sem] theorem Try.eqs86 (cs : List TV) (n : Nat) (f : Bool) : eqT Try.prog 20 86 (.sl cs n f) .nilSl = some false := by kernel_rfl
@[go_sem] theorem Try.eqt86 (cs : List TV) (n : Nat) (f : Bool) : eqT Try.prog 20 86 .nilSl (.sl cs n f) = some false := by kernel_rfl
@[go_sem] theorem Try.sl86 : sliceO Try.prog 86 = some 114 := by kernel_rfl
@[go_sem] theorem Try.und86 : Program.underlying Try.prog 86 = some (.slice 114) := by kernel_rfl
@[go_sem] theorem Try.agg87 : aggO Try.prog 87 = some false := by kernel_rfl
@[go_sem] theorem Try.pln87 : plainO Try.prog 87 = some true := by kernel_rfl
@[go_sem] theorem Try.sz87 : szO Try.prog 87 = some 1 := by kernel_rfl
@[go_sem] theorem Try.zero87 : zeroL Try.prog 87 = some [.nilFn] := by kernel_rfl
@[go_sem] theorem Try.small87 : smallO Try.prog 87 = some (1, 8) := by kernel_rfl
@[go_sem] theorem Try.zt87 : zeroT Try.prog 87 = some (.nilFn) := by kernel_rfl
@[go_sem] theorem Try.agg89 : aggO Try.prog 89 = some false := by kernel_rfl
@[go_sem] theorem Try.pln89 : plainO Try.prog 89 = some true := by kernel_rfl
@[go_sem] theorem Try.sz89 : szO Try.prog 89 = some 1 := by kernel_rfl
@[go_sem] theorem Try.zero89 : zeroL Try.prog 89 = some [.nilFn] := by kernel_rfl
@[go_sem] theorem Try.small89 : smallO Try.prog 89 = some (1, 8) := by kernel_rfl
@[go_sem] theorem Try.zt89 : zeroT Try.prog 89 = some (.nilFn) := by kernel_rfl
@[go_sem] theorem Try.agg90 : aggO Try.prog 90 = some false := by kernel_rfl
@[go_sem] theorem Try.pln90 : plainO Try.prog 90 = some true := by kernel_rfl
@[go_sem] theorem Try.sz90 : szO Try.prog 90 = some 1 := by kernel_rfl
@[go_sem] theorem Try.zero90 : zeroL Try.prog 90 = some [.nilFn] := by kernel_rfl
@[go_sem] theorem Try.small90 : smallO Try.prog 90 = some (1, 8) := by kernel_rfl
@[go_sem] theorem Try.zt90 : zeroT Try.prog 90 = some (.nilFn) := by kernel_rfl
@[go_sem] theorem Try.agg91 : aggO Try.prog 91 = some false := by kernel_rfl
@[go_sem] theorem Try.pln91 : plainO Try.prog 91 = some true := by kernel_rfl
@[go_sem] theorem Try.sz91 : szO Try.prog 91 = some 1 := by kernel_rfl
@[go_sem] theorem Try.zero91 : zeroL Try.prog 91 = some [.nilFn] := by kernel_rfl
@[go_sem] theorem Try.small91 : smallO Try.prog 91 = some (1, 8) := by kernel_rfl
@[go_sem] theorem Try.zt91 : zeroT Try.prog 91 = some (.nilFn) := by kernel_rfl
@[go_sem] theorem Try.agg92 : aggO Try.prog 92 = some true := by kernel_rfl
@[go_sem] theorem Try.pln92 : plainO Try.prog 92 = some true := by kernel_rfl
@[go_sem] theorem Try.sz92 : szO Try.prog 92 = some 8 := by kernel_rfl
@[go_sem] theorem Try.zero92 : zeroL Try.prog 92 = some [.bool false, .bool false, .bool false, .bool false, .bool false, .bool false, .bool false, .bool false] := by kernel_rfl
@[go_sem] theorem Try.small92 : smallO Try.prog 92 = some (8, 8) := by kernel_rfl
@[go_sem] theorem Try.zt92 : zeroT Try.prog 92 = some (.agg [.bool false, .bool false, .bool false, .bool false, .bool false, .bool false, .bool false, .bool false]) := by kernel_rfl
@[go_sem] theorem Try.bld92 (parts : List (Nat × TV)) : buildO Try.prog 92 parts = (fillT (fun i => some (i * 1, 1)) [.bool false, .bool false, .bool false, .bool false, .bool false, .bool false, .bool false, .bool false] parts).map .agg := by kernel_rfl
@[go_sem] theorem Try.eq92 (a0 b0 : Bool) (a1 b1 : Bool) (a2 b2 : Bool) (a3 b3 : Bool) (a4 b4 : Bool) (a5 b5 : Bool) (a6 b6 : Bool) (a7 b7 : Bool) : eqT Try.prog 20 92 (.agg [.bool a0, .bool a1, .bool a2, .bool a3, .bool a4, .bool a5, .bool a6, .bool a7]) (.agg [.bool b0, .bool b1, .bool b2, .bool b3, .bool b4, .bool b5, .bool b6, .bool b7]) = some ((a0 == b0) && ((a1 == b1) && ((a2 == b2) && ((a3 == b3) && ((a4 == b4) && ((a5 == b5) && ((a6 == b6) && ((a7 == b7) && true)))))))) := by kernel_rfl
@[go_sem] theorem Try.eqg92 : Program.eqGuardType Try.prog (Program.depth Try.prog) 92 = false := by kernel_rfl
@[go_sem] theorem Try.arr92 : arrayO Try.prog 92 = some (8, 4) := by kernel_rfl
@[go_sem] theorem Try.und92 : Program.underlying Try.prog 92 = some (.array 8 4) := by kernel_rfl
@[go_sem] theorem Try.agg93 : aggO Try.prog 93 = some true := by kernel_rfl
@[go_sem] theorem Try.pln93 : plainO Try.prog 93 = some true := by kernel_rfl
@[go_sem] theorem Try.sz93 : szO Try.prog 93 = some 8 := by kernel_rfl
@[go_sem] theorem Try.zero93 : zeroL Try.prog 93 = some [.bool false, .bool false, .bool false, .bool false, .bool false, .bool false, .bool false, .bool false] := by kernel_rfl
@[go_sem] theorem Try.small93 : smallO Try.prog 93 = some (8, 8) := by kernel_rfl
@[go_sem] theorem Try.zt93 : zeroT Try.prog 93 = some (.agg [.bool false, .bool false, .bool false, .bool false, .bool false, .bool false, .bool false, .bool false]) := by kernel_rfl
@[go_sem] theorem Try.bld93 (parts : List (Nat × TV)) : buildO Try.prog 93 parts = (fillT (fun i => some (i * 1, 1)) [.bool false, .bool false, .bool false, .bool false, .bool false, .bool false, .bool false, .bool false] parts).map .agg := by kernel_rfl
@[go_sem] theorem Try.eq93 (a0 b0 : Bool) (a1 b1 : Bool) (a2 b2 : Bool) (a3 b3 : Bool) (a4 b4 : Bool) (a5 b5 : Bool) (a6 b6 : Bool) (a7 b7 : Bool) : eqT Try.prog 20 93 (.agg [.bool a0, .bool a1, .bool a2, .bool a3, .bool a4, .bool a5, .bool a6, .bool a7]) (.agg [.bool b0, .bool b1, .bool b2, .bool b3, .bool b4, .bool b5, .bool b6, .bool b7]) = some ((a0 == b0) && ((a1 == b1) && ((a2 == b2) && ((a3 == b3) && ((a4 == b4) && ((a5 == b5) && ((a6 == b6) && ((a7 == b7) && true)))))))) := by kernel_rfl
@[go_sem] theorem Try.eqg93 : Program.eqGuardType Try.prog (Program.depth Try.prog) 93 = false := by kernel_rfl
@[go_sem] theorem Try.arr93 : arrayO Try.prog 93 = some (8, 4) := by kernel_rfl
@[go_sem] theorem Try.und93 : Program.underlying Try.prog 93 = some (.array 8 4) := by kernel_rfl
@[go_sem] theorem Try.agg94 : aggO Try.prog 94 = some false := by kernel_rfl
@[go_sem] theorem Try.pln94 : plainO Try.prog 94 = some true := by kernel_rfl
@[go_sem] theorem Try.sz94 : szO Try.prog 94 = some 1 := by kernel_rfl
@[go_sem] theorem Try.zero94 : zeroL Try.prog 94 = some [.nilFn] := by kernel_rfl
@[go_sem] theorem Try.small94 : smallO Try.prog 94 = some (1, 8) := by kernel_rfl
@[go_sem] theorem Try.zt94 : zeroT Try.prog 94 = some (.nilFn) := by kernel_rfl
@[go_sem] theorem Try.agg95 : aggO Try.prog 95 = some false := by kernel_rfl
@[go_sem] theorem Try.pln95 : plainO Try.prog 95 = some true := by kernel_rfl
@[go_sem] theorem Try.sz95 : szO Try.prog 95 = some 1 := by kernel_rfl
@[go_sem] theorem Try.zero95 : zeroL Try.prog 95 = some [.nilMap] := by kernel_rfl
@[go_sem] theorem Try.small95 : smallO Try.prog 95 = some (1, 8) := by kernel_rfl
@[go_sem] theorem Try.map95 : mapO Try.prog 95 = some (4, 3) := by kernel_rfl
@[go_sem] theorem Try.und95 : Program.underlying Try.prog 95 = some (.map 4 3) := by kernel_rfl
@[go_sem] theorem Try.zt95 : zeroT Try.prog 95 = some (.nilMap) := by kernel_rfl
@[go_sem] theorem Try.agg96 : aggO Try.prog 96 = some true := by kernel_rfl
@[go_sem] theorem Try.pln96 : plainO Try.prog 96 = some true := by kernel_rfl
@[go_sem] theorem Try.sz96 : szO Try.prog 96 = some 2 := by kernel_rfl
@[go_sem] theorem Try.zero96 : zeroL Try.prog 96 = some [.bool false, .bool false] := by kernel_rfl
@[go_sem] theorem Try.small96 : smallO Try.prog 96 = some (2, 2) := by kernel_rfl
@[go_sem] theorem Try.zt96 : zeroT Try.prog 96 = some (.agg [.bool false, .bool false]) := by kernel_rfl
@[go_sem] theorem Try.bld96 (parts : List (Nat × TV)) : buildO Try.prog 96 parts = (fillT (fun i => some (i * 1, 1)) [.bool false, .bool false] parts).map .agg := by kernel_rfl
@[go_sem] theorem Try.eq96 (a0 b0 : Bool) (a1 b1 : Bool) : eqT Try.prog 20 96 (.agg [.bool a0, .bool a1]) (.agg [.bool b0, .bool b1]) = some ((a0 == b0) && ((a1 == b1) && true)) := by kernel_rfl
@[go_sem] theorem Try.eqg96 : Program.eqGuardType Try.prog (Program.depth Try.prog) 96 = false := by kernel_rfl
@[go_sem] theorem Try.arr96 : arrayO Try.prog 96 = some (2, 4) := by kernel_rfl
@[go_sem] theorem Try.und96 : Program.underlying Try.prog 96 = some (.array 2 4) := by kernel_rfl
@[go_sem] theorem Try.agg97 : aggO Try.prog 97 = some true := by kernel_rfl
@[go_sem] theorem Try.pln97 : plainO Try.prog 97 = some true := by kernel_rfl
@[go_sem] theorem Try.sz97 : szO Try.prog 97 = some 2 := by kernel_rfl
@[go_sem] theorem Try.zero97 : zeroL Try.prog 97 = some [.int .i64 0, .nilFn] := by kernel_rfl
@[go_sem] theorem Try.small97 : smallO Try.prog 97 = some (2, 16) := by kernel_rfl
@[go_sem] theorem Try.zt97 : zeroT Try.prog 97 = some (.agg [.int .i64 0, .nilFn]) := by kernel_rfl
@[go_sem] theorem Try.fld97_0 : fieldO Try.prog 97 0 = some (0, 3) := by kernel_rfl
@[go_sem] theorem Try.fld97_1 : fieldO Try.prog 97 1 = some (1, 58) := by kernel_rfl
@[go_sem] theorem Try.bld97 (parts : List (Nat × TV)) : buildO Try.prog 97 parts = (fillT (fun i => ([(0, 1), (1, 1)] : List (Nat × Nat))[i]?) [.int .i64 0, .nilFn] parts).map .agg := by kernel_rfl
@[go_sem] theorem Try.bldp97 (parts : List (Nat × PV)) : buildP Try.prog 97 parts = fillP (fun i => ([(0, 1), (1, 1)] : List (Nat × Nat))[i]?) [.t (.int .i64 0), .t (.nilFn)] parts := by kernel_rfl
@[go_sem] theorem Try.eqg97 : Program.eqGuardType Try.prog (Program.depth Try.prog) 97 = false := by kernel_rfl
@[go_sem] theorem Try.agg98 : aggO Try.prog 98 = some true := by kernel_rfl
@[go_sem] theorem Try.pln98 : plainO Try.prog 98 = some true := by kernel_rfl
@[go_sem] theorem Try.sz98 : szO Try.prog 98 = some 2 := by kernel_rfl
@[go_sem] theorem Try.zero98 : zeroL Try.prog 98 = some [.int .i64 0, .nilFn] := by kernel_rfl
@[go_sem] theorem Try.small98 : smallO Try.prog 98 = some (2, 16) := by kernel_rfl
@[go_sem] theorem Try.zt98 : zeroT Try.prog 98 = some (.agg [.int .i64 0, .nilFn]) := by kernel_rfl
@[go_sem] theorem Try.fld98_0 : fieldO Try.prog 98 0 = some (0, 3) := by kernel_rfl
@[go_sem] theorem Try.fld98_1 : fieldO Try.prog 98 1 = some (1, 58) := by kernel_rfl
@[go_sem] theorem Try.bld98 (parts : List (Nat × TV)) : buildO Try.prog 98 parts = (fillT (fun i => ([(0, 1), (1, 1)] : List (Nat × Nat))[i]?) [.int .i64 0, .nilFn] parts).map .agg := by kernel_rfl
@[go_sem] theorem Try.bldp98 (parts : List (Nat × PV)) : buildP Try.prog 98 parts = fillP (fun i => ([(0, 1), (1, 1)] : List (Nat × Nat))[i]?) [.t (.int .i64 0), .t (.nilFn)] parts := by kernel_rfl
@[go_sem] theorem Try.eqg98 : Program.eqGuardType Try.prog (Program.depth Try.prog) 98 = false := by kernel_rfl
@[go_sem] theorem Try.agg99 : aggO Try.prog 99 = some false := by kernel_rfl
@[go_sem] theorem Try.pln99 : plainO Try.prog 99 = some true := by kernel_rfl
@[go_sem] theorem Try.sz99 : szO Try.prog 99 = some 1 := by kernel_rfl
@[go_sem] theorem Try.zero99 : zeroL Try.prog 99 = some [.nilFn] := by kernel_rfl
@[go_sem] theorem Try.small99 : smallO Try.prog 99 = some (1, 8) := by kernel_rfl
@[go_sem] theorem Try.zt99 : zeroT Try.prog 99 = some (.nilFn) := by kernel_rfl
@[go_sem] theorem Try.agg101 : aggO Try.prog 101 = some false := by kernel_rfl
@[go_sem] theorem Try.pln101 : plainO Try.prog 101 = some true := by kernel_rfl
@[go_sem] theorem Try.sz101 : szO Try.prog 101 = some 1 := by kernel_rfl
@[go_sem] theorem Try.zero101 : zeroL Try.prog 101 = some [.nilFn] := by kernel_rfl
@[go_sem] theorem Try.small101 : smallO Try.prog 101 = some (1, 8) := by kernel_rfl
@[go_sem] theorem Try.zt101 : zeroT Try.prog 101 = some (.nilFn) := by kernel_rfl
@[go_sem] theorem Try.agg102 : aggO Try.prog 102 = some false := by kernel_rfl
@[go_sem] theorem Try.pln102 : plainO Try.prog 102 = some true := by kernel_rfl
@[go_sem] theorem Try.sz102 : szO Try.prog 102 = some 1 := by kernel_rfl
@[go_sem] theorem Try.zero102 : zeroL Try.prog 102 = some [.nilFn] := by kernel_rfl
@[go_sem] theorem Try.small102 : smallO Try.prog 102 = some (1, 8) := by kernel_rfl
@[go_sem] theorem Try.zt102 : zeroT Try.prog 102 = some (.nilFn) := by kernel_rfl
@[go_sem] theorem Try.agg103 : aggO Try.prog 103 = some false := by kernel_rfl
@[go_sem] theorem Try.pln103 : plainO Try.prog 103 = some true := by kernel_rfl
@[go_sem] theorem Try.sz103 : szO Try.prog 103 = some 1 := by kernel_rfl
@[go_sem] theorem Try.zero103 : zeroL Try.prog 103 = some [.nilFn] := by kernel_rfl
@[go_sem] theorem Try.small103 : smallO Try.prog 103 = some (1, 8) := by kernel_rfl
@[go_sem] theorem Try.zt103 : zeroT Try.prog 103 = some (.nilFn) := by kernel_rfl
@[go_sem] theorem Try.agg104 : aggO Try.prog 104 = some false := by kernel_rfl
@[go_sem] theorem Try.pln104 : plainO Try.prog 104 = some true := by kernel_rfl
@[go_sem] theorem Try.sz104 : szO Try.prog 104 = some 1 := by kernel_rfl
@[go_sem] theorem Try.zero104 : zeroL Try.prog 104 = some [.nilFn] := by kernel_rfl
@[go_sem] theorem Try.small104 : smallO Try.prog 104 = some (1, 8) := by kernel_rfl
@[go_sem] theorem Try.zt104 : zeroT Try.prog 104 = some (.nilFn) := by kernel_rfl
@[go_sem] theorem Try.agg105 : aggO Try.prog 105 = some false := by kernel_rfl
@[go_sem] theorem Try.pln105 : plainO Try.prog 105 = some true := by kernel_rfl
@[go_sem] theorem Try.sz105 : szO Try.prog 105 = some 1 := by kernel_rfl
@[go_sem] theorem Try.zero105 : zeroL Try.prog 105 = some [.nilSl] := by kernel_rfl
@[go_sem] theorem Try.small105 : smallO Try.prog 105 = some (1, 24) := by kernel_rfl
@[go_sem] theorem Try.zt105 : zeroT Try.prog 105 = some (.nilSl) := by kernel_rfl
@[go_sem] theorem Try.eqn105 : eqT Try.prog 20 105 .nilSl .nilSl = some true := by kernel_rfl
@[go_sem] theorem Try.eqs105 (cs : List TV) (n : Nat) (f : Bool) : eqT Try.prog 20 105 (.sl cs n f) .nilSl = some false := by kernel_rfl
@[go_sem] theorem Try.eqt105 (cs : List TV) (n : Nat) (f : Bool) : eqT Try.prog 20 105 .nilSl (.sl cs n f) = some false := by kernel_rfl
@[go_sem] theorem Try.sl105 : sliceO Try.prog 105 = some 107 := by kernel_rfl
@[go_sem] theorem Try.und105 : Program.underlying Try.prog 105 = some (.slice 107) := by kernel_rfl
@[go_sem] theorem Try.agg106 : aggO Try.prog 106 = some true := by kernel_rfl
@[go_sem] theorem Try.pln106 : plainO Try.prog 106 = some true := by kernel_rfl
@[go_sem] theorem Try.sz106 : szO Try.prog 106 = some 10 := by kernel_rfl
@[go_sem] theorem Try.zero106 : zeroL Try.prog 106 = some [.int .i64 0, .int .i64 0, .int .i64 0, .int .i64 0, .int .i64 0, .int .i64 0, .int .i64 0, .int .i64 0, .int .i64 0, .int .i64 0] := by kernel_rfl
@[go_sem] theorem Try.small106 : smallO Try.prog 106 = some (10, 80) := by kernel_rfl
@[go_sem] theorem Try.zt106 : zeroT Try.prog 106 = some (.agg [.int .i64 0, .int .i64 0, .int .i64 0, .int .i64 0, .int .i64 0, .int .i64 0, .int .i64 0, .int .i64 0, .int .i64 0, .int .i64 0]) := by kernel_rfl
@[go_sem] theorem Try.fld106_0 : fieldO Try.prog 106 0 = some (0, 77) := by kernel_rfl
@[go_sem] theorem Try.fld106_1 : fieldO Try.prog 106 1 = some (8, 3) := by kernel_rfl
@[go_sem] theorem Try.fld106_2 : fieldO Try.prog 106 2 = some (9, 3) := by kernel_rfl
@[go_sem] theorem Try.bld106 (parts : List (Nat × TV)) : buildO Try.prog 106 parts = (fillT (fun i => ([(0, 8), (8, 1), (9, 1)] : List (Nat × Nat))[i]?) [.int .i64 0, .int .i64 0, .int .i64 0, .int .i64 0, .int .i64 0, .int .i64 0, .int .i64 0, .int .i64 0, .int .i64 0, .int .i64 0] parts).map .agg := by kernel_rfl
@[go_sem] theorem Try.eqg106 : Program.eqGuardType Try.prog (Program.depth Try.prog) 106 = false := by kernel_rfl
@[go_sem] theorem Try.agg107 : aggO Try.prog 107 = some true := by kernel_rfl
@[go_sem] theorem Try.pln107 : plainO Try.prog 107 = some true := by kernel_rfl
@[go_sem] theorem Try.sz107 : szO Try.prog 107 = some 10 := by kernel_rfl
@[go_sem] theorem Try.zero107 : zeroL Try.prog 107 = some [.int .i64 0, .int .i64 0, .int .i64 0, .int .i64 0, .int .i64 0, .int .i64 0, .int .i64 0, .int .i64 0, .int .i64 0, .int .i64 0] := by kernel_rfl
@[go_sem] theorem Try.small107 : smallO Try.prog 107 = some (10, 80) := by kernel_rfl
@[go_sem] theorem Try.zt107 : zeroT Try.prog 107 = some (.agg [.int .i64 0, .int .i64 0, .int .i64 0, .int .i64 0, .int .i64 0, .int .i64 0, .int .i64 0, .int .i64 0, .int .i64 0, .int .i64 0]) := by kernel_rfl
@[go_sem] theorem Try.fld107_0 : fieldO Try.prog 107 0 = some (0, 77) := by kernel_rfl
@[go_sem] theorem Try.fld107_1 : fieldO Try.prog 107 1 = some (8, 3) := by kernel_rfl
@[go_sem] theorem Try.fld107_2 : fieldO Try.prog 107 2 = some (9, 3) := by kernel_rfl
@[go_sem] theorem Try.bld107 (parts : List (Nat × TV)) : buildO Try.prog 107 parts = (fillT (fun i => ([(0, 8), (8, 1), (9, 1)] : List (Nat × Nat))[i]?) [.int .i64 0, .int .i64 0, .int .i64 0, .int .i64 0, .int .i64 0, .int .i64 0, .int .i64 0, .int .i64 0, .int .i64 0, .int .i64 0] parts).map .agg := by kernel_rfl
@[go_sem] theorem Try.eq107 (a0 b0 : Int) (a1 b1 : Int) (a2 b2 : Int) (a3 b3 : Int) (a4 b4 : Int) (a5 b5 : Int) (a6 b6 : Int) (a7 b7 : Int) (a8 b8 : Int) (a9 b9 : Int) : eqT Try.prog 20 107 (.agg [.int .i64 a0, .int .i64 a1, .int .i64 a2, .int .i64 a3, .int .i64 a4, .int .i64 a5, .int .i64 a6, .int .i64 a7, .int .i64 a8, .int .i64 a9]) (.agg [.int .i64 b0, .int .i64 b1, .int .i64 b2, .int .i64 b3, .int .i64 b4, .int .i64 b5, .int .i64 b6, .int .i64 b7, .int .i64 b8, .int .i64 b9]) = some ((((a0 == b0) && (((a1 == b1) && ((a2 == b2) && true)) && (((a3 == b3) && ((a4 == b4) && true)) && (((a5 == b5) && ((a6 == b6) && true)) && ((a7 == b7) && true))))) && true) && ((a8 == b8) && ((a9 == b9) && true))) := by kernel_rfl
@[go_sem] theorem Try.eqg107 : Program.eqGuardType Try.prog (Program.depth Try.prog) 107 = false := by kernel_rfl
@[go_sem] theorem Try.agg109 : aggO Try.prog 109 = some false := by kernel_rfl
@[go_sem] theorem Try.pln109 : plainO Try.prog 109 = some true := by kernel_rfl
@[go_sem] theorem Try.sz109 : szO Try.prog 109 = some 1 := by kernel_rfl
@[go_sem] theorem Try.zero109 : zeroL Try.prog 109 = some [.nilFn] := by kernel_rfl
@[go_sem] theorem Try.small109 : smallO Try.prog 109 = some (1, 8) := by kernel_rfl
@[go_sem] theorem Try.zt109 : zeroT Try.prog 109 = some (.nilFn) := by kernel_rfl
@[go_sem] theorem Try.agg110 : aggO Try.prog 110 = some false := by kernel_rfl
@[go_sem] theorem Try.pln110 : plainO Try.prog 110 = some true := by kernel_rfl
@[go_sem] theorem Try.sz110 : szO Try.prog 110 = some 1 := by kernel_rfl
@[go_sem] theorem Try.zero110 : zeroL Try.prog 110 = some [.nilFn] := by kernel_rfl
@[go_sem] theorem Try.small110 : smallO Try.prog 110 = some (1, 8) := by kernel_rfl
@[go_sem] theorem Try.zt110 : zeroT Try.prog 110 = some (.nilFn) := by kernel_rfl
@[go_sem] theorem Try.agg111 : aggO Try.prog 111 = some false := by kernel_rfl
@[go_sem] theorem Try.pln111 : plainO Try.prog 111 = some true := by kernel_rfl
@[go_sem] theorem Try.sz111 : szO Try.prog 111 = some 1 := by kernel_rfl
@[go_sem] theorem Try.zero111 : zeroL Try.prog 111 = some [.nilFn] := by kernel_rfl
@[go_sem] theorem Try.small111 : smallO Try.prog 111 = some (1, 8) := by kernel_rfl
@[go_sem] theorem Try.zt111 : zeroT Try.prog 111 = some (.nilFn) := by kernel_rfl
@[go_sem] theorem Try.agg112 : aggO Try.prog 112 = some false := by kernel_rfl
@[go_sem] theorem Try.pln112 : plainO Try.prog 112 = some true := by kernel_rfl
@[go_sem] theorem Try.sz112 : szO Try.prog 112 = some 1 := by kernel_rfl
@[go_sem] theorem Try.zero112 : zeroL Try.prog 112 = some [.nilFn] := by kernel_rfl
@[go_sem] theorem Try.small112 : smallO Try.prog 112 = some (1, 8) := by kernel_rfl
@[go_sem] theorem Try.zt112 : zeroT Try.prog 112 = some (.nilFn) := by kernel_rfl
@[go_sem] theorem Try.agg113 : aggO Try.prog 113 = some true := by kernel_rfl
@[go_sem] theorem Try.pln113 : plainO Try.prog 113 = some true := by kernel_rfl
@[go_sem] theorem Try.sz113 : szO Try.prog 113 = some 2 := by kernel_rfl
@[go_sem] theorem Try.zero113 : zeroL Try.prog 113 = some [.int .i64 0, .bool false] := by kernel_rfl
@[go_sem] theorem Try.small113 : smallO Try.prog 113 = some (2, 16) := by kernel_rfl
@[go_sem] theorem Try.zt113 : zeroT Try.prog 113 = some (.agg [.int .i64 0, .bool false]) := by kernel_rfl
@[go_sem] theorem Try.fld113_0 : fieldO Try.prog 113 0 = some (0, 3) := by kernel_rfl
@[go_sem] theorem Try.fld113_1 : fieldO Try.prog 113 1 = some (1, 4) := by kernel_rfl
@[go_sem] theorem Try.bld113 (parts : List (Nat × TV)) : buildO Try.prog 113 parts = (fillT (fun i => ([(0, 1), (1, 1)] : List (Nat × Nat))[i]?) [.int .i64 0, .bool false] parts).map .agg := by kernel_rfl
@[go_sem] theorem Try.eqg113 : Program.eqGuardType Try.prog (Program.depth Try.prog) 113 = false := by kernel_rfl
@[go_sem] theorem Try.agg114 : aggO Try.prog 114 = some true := by kernel_rfl
@[go_sem] theorem Try.pln114 : plainO Try.prog 114 = some true := by kernel_rfl
@[go_sem] theorem Try.sz114 : szO Try.prog 114 = some 2 := by kernel_rfl
@[go_sem] theorem Try.zero114 : zeroL Try.prog 114 = some [.int .i64 0, .bool false] := by kernel_rfl
@[go_sem] theorem Try.small114 : smallO Try.prog 114 = some (2, 16) := by kernel_rfl
@[go_sem] theorem Try.zt114 : zeroT Try.prog 114 = some (.agg [.int .i64 0, .bool false]) := by kernel_rfl
@[go_sem] theorem Try.fld114_0 : fieldO Try.prog 114 0 = some (0, 3) := by kernel_rfl
@[go_sem] theorem Try.fld114_1 : fieldO Try.prog 114 1 = some (1, 4) := by kernel_rfl
@[go_sem] theorem Try.bld114 (parts : List (Nat × TV)) : buildO Try.prog 114 parts = (fillT (fun i => ([(0, 1), (1, 1)] : List (Nat × Nat))[i]?) [.int .i64 0, .bool false] parts).map .agg := by kernel_rfl
@[go_sem] theorem Try.eq114 (a0 b0 : Int) (a1 b1 : Bool) : eqT Try.prog 20 114 (.agg [.int .i64 a0, .bool a1]) (.agg [.int .i64 b0, .bool b1]) = some ((a0 == b0) && ((a1 == b1) && true)) := by kernel_rfl
@[go_sem] theorem Try.eqg114 : Program.eqGuardType Try.prog (Program.depth Try.prog) 114 = false := by kernel_rfl
@[go_sem] theorem Try.agg115 : aggO Try.prog 115 = some false := by kernel_rfl
@[go_sem] theorem Try.pln115 : plainO Try.prog 115 = some true := by kernel_rfl
@[go_sem] theorem Try.sz115 : szO Try.prog 115 = some 1 := by kernel_rfl
@[go_sem] theorem Try.zero115 : zeroL Try.prog 115 = some [.nilFn] := by kernel_rfl
@[go_sem] theorem Try.small115 : smallO Try.prog 115 = some (1, 8) := by kernel_rfl
@[go_sem] theorem Try.zt115 : zeroT Try.prog 115 = some (.nilFn) := by kernel_rfl
@[go_sem] theorem Try.agg116 : aggO Try.prog 116 = some false := by kernel_rfl
@[go_sem] theorem Try.pln116 : plainO Try.prog 116 = some true := by kernel_rfl
@[go_sem] theorem Try.sz116 : szO Try.prog 116 = some 1 := by kernel_rfl
@[go_sem] theorem Try.zero116 : zeroL Try.prog 116 = some [.nilFn] := by kernel_rfl
@[go_sem] theorem Try.small116 : smallO Try.prog 116 = some (1, 8) := by kernel_rfl
@[go_sem] theorem Try.zt116 : zeroT Try.prog 116 = some (.nilFn) := by kernel_rfl
@[go_sem] theorem Try.agg117 : aggO Try.prog 117 = some false := by kernel_rfl
@[go_sem] theorem Try.pln117 : plainO Try.prog 117 = some true := by kernel_rfl
@[go_sem] theorem Try.sz117 : szO Try.prog 117 = some 1 := by kernel_rfl
@[go_sem] theorem Try.zero117 : zeroL Try.prog 117 = some [.nilFn] := by kernel_rfl
@[go_sem] theorem Try.small117 : smallO Try.prog 117 = some (1, 8) := by kernel_rfl
@[go_sem] theorem Try.zt117 : zeroT Try.prog 117 = some (.nilFn) := by kernel_rfl
@[go_sem] theorem Try.agg118 : aggO Try.prog 118 = some false := by kernel_rfl
@[go_sem] theorem Try.pln118 : plainO Try.prog 118 = some true := by kernel_rfl
@[go_sem] theorem Try.sz118 : szO Try.prog 118 = some 1 := by kernel_rfl
@[go_sem] theorem Try.zero118 : zeroL Try.prog 118 = some [.nilFn] := by kernel_rfl
@[go_sem] theorem Try.small118 : smallO Try.prog 118 = some (1, 8) := by kernel_rfl
@[go_sem] theorem Try.zt118 : zeroT Try.prog 118 = some (.nilFn) := by kernel_rfl
@[go_sem] theorem Try.agg119 : aggO Try.prog 119 = some false := by kernel_rfl
@[go_sem] theorem Try.pln119 : plainO Try.prog 119 = some true := by kernel_rfl
@[go_sem] theorem Try.sz119 : szO Try.prog 119 = some 1 := by kernel_rfl
@[go_sem] theorem Try.zero119 : zeroL Try.prog 119 = some [.nilFn] := by kernel_rfl
@[go_sem] theorem Try.small119 : smallO Try.prog 119 = some (1, 8) := by kernel_rfl
@[go_sem] theorem Try.zt119 : zeroT Try.prog 119 = some (.nilFn) := by kernel_rfl
@[go_sem] theorem Try.agg120 : aggO Try.prog 120 = some false := by kernel_rfl
@[go_sem] theorem Try.pln120 : plainO Try.prog 120 = some true := by kernel_rfl
@[go_sem] theorem Try.sz120 : szO Try.prog 120 = some 1 := by kernel_rfl
@[go_sem] theorem Try.zero120 : zeroL Try.prog 120 = some [.nilFn] := by kernel_rfl
@[go_sem] theorem Try.small120 : smallO Try.prog 120 = some (1, 8) := by kernel_rfl
@[go_sem] theorem Try.zt120 : zeroT Try.prog 120 = some (.nilFn) := by kernel_rfl
@[go_sem] theorem Try.agg121 : aggO Try.prog 121 = some false := by kernel_rfl
@[go_sem] theorem Try.pln121 : plainO Try.prog 121 = some true := by kernel_rfl
@[go_sem] theorem Try.sz121 : szO Try.prog 121 = some 1 := by kernel_rfl
@[go_sem] theorem Try.zero121 : zeroL Try.prog 121 = some [.nilFn] := by kernel_rfl
@[go_sem] theorem Try.small121 : smallO Try.prog 121 = some (1, 8) := by kernel_rfl
@[go_sem] theorem Try.zt121 : zeroT Try.prog 121 = some (.nilFn) := by kernel_rfl
@[go_sem] theorem Try.agg122 : aggO Try.prog 122 = some false := by kernel_rfl
@[go_sem] theorem Try.pln122 : plainO Try.prog 122 = some true := by kernel_rfl
@[go_sem] theorem Try.sz122 : szO Try.prog 122 = some 1 := by kernel_rfl
@[go_sem] theorem Try.zero122 : zeroL Try.prog 122 = some [.nilFn] := by kernel_rfl
@[go_sem] theorem Try.small122 : smallO Try.prog 122 = some (1, 8) := by kernel_rfl
@[go_sem] theorem Try.zt122 : zeroT Try.prog 122 = some (.nilFn) := by kernel_rfl
@[go_sem] theorem Try.agg123 : aggO Try.prog 123 = some true := by kernel_rfl
@[go_sem] theorem Try.pln123 : plainO Try.prog 123 = some true := by kernel_rfl
@[go_sem] theorem Try.sz123 : szO Try.prog 123 = some 4 := by kernel_rfl
@[go_sem] theorem Try.zero123 : zeroL Try.prog 123 = some [.nilPtr, .nilPtr, .nilPtr, .str ⟨#[]⟩] := by kernel_rfl
@[go_sem] theorem Try.small123 : smallO Try.prog 123 = some (4, 40) := by kernel_rfl
@[go_sem] theorem Try.zt123 : zeroT Try.prog 123 = some (.agg [.nilPtr, .nilPtr, .nilPtr, .str ⟨#[]⟩]) := by kernel_rfl
@[go_sem] theorem Try.fld123_0 : fieldO Try.prog 123 0 = some (0, 17) := by kernel_rfl
@[go_sem] theorem Try.fld123_1 : fieldO Try.prog 123 1 = some (1, 17) := by kernel_rfl
@[go_sem] theorem Try.fld123_2 : fieldO Try.prog 123 2 = some (2, 17) := by kernel_rfl
@[go_sem] theorem Try.fld123_3 : fieldO Try.prog 123 3 = some (3, 9) := by kernel_rfl
@[go_sem] theorem Try.bld123 (parts : List (Nat × TV)) : buildO Try.prog 123 parts = (fillT (fun i => ([(0, 1), (1, 1), (2, 1), (3, 1)] : List (Nat × Nat))[i]?) [.nilPtr, .nilPtr, .nilPtr, .str ⟨#[]⟩] parts).map .agg := by kernel_rfl
@[go_sem] theorem Try.bldp123 (parts : List (Nat × PV)) : buildP Try.prog 123 parts = fillP (fun i => ([(0, 1), (1, 1), (2, 1), (3, 1)] : List (Nat × Nat))[i]?) [.t (.nilPtr), .t (.nilPtr), .t (.nilPtr), .t (.str ⟨#[]⟩)] parts := by kernel_rfl
@[go_sem] theorem Try.eqg123 : Program.eqGuardType Try.prog (Program.depth Try.prog) 123 = false := by kernel_rfl
@[go_sem] theorem Try.agg125 : aggO Try.prog 125 = some true := by kernel_rfl
@[go_sem] theorem Try.pln125 : plainO Try.prog 125 = some true := by kernel_rfl
@[go_sem] theorem Try.sz125 : szO Try.prog 125 = some 0 := by kernel_rfl
@[go_sem] theorem Try.zero125 : zeroL Try.prog 125 = some [] := by kernel_rfl
@[go_sem] theorem Try.zt125 : zeroT Try.prog 125 = some (.agg []) := by kernel_rfl
@[go_sem] theorem Try.arr125 : arrayO Try.prog 125 = some (0, 16) := by kernel_rfl
@[go_sem] theorem Try.und125 : Program.underlying Try.prog 125 = some (.array 0 16) := by kernel_rfl
@[go_sem] theorem Try.agg126 : aggO Try.prog 126 = some true := by kernel_rfl
@[go_sem] theorem Try.pln126 : plainO Try.prog 126 = some true := by kernel_rfl
@[go_sem] theorem Try.sz126 : szO Try.prog 126 = some 0 := by kernel_rfl
@[go_sem] theorem Try.zero126 : zeroL Try.prog 126 = some [] := by kernel_rfl
@[go_sem] theorem Try.zt126 : zeroT Try.prog 126 = some (.agg []) := by kernel_rfl
@[go_sem] theorem Try.fld126_0 : fieldO Try.prog 126 0 = some (0, 125) := by kernel_rfl
@[go_sem] theorem Try.agg128 : aggO Try.prog 128 = some false := by kernel_rfl
@[go_sem] theorem Try.pln128 : plainO Try.prog 128 = some true := by kernel_rfl
@[go_sem] theorem Try.sz128 : szO Try.prog 128 = some 1 := by kernel_rfl
@[go_sem] theorem Try.zero128 : zeroL Try.prog 128 = some [.int .u32 0] := by kernel_rfl
@[go_sem] theorem Try.small128 : smallO Try.prog 128 = some (1, 4) := by kernel_rfl
@[go_sem] theorem Try.zt128 : zeroT Try.prog 128 = some (.int .u32 0) := by kernel_rfl
@[go_sem] theorem Try.knd128 : kindO Try.prog 128 = some .u32 := by kernel_rfl
@[go_sem] theorem Try.und128 : Program.underlying Try.prog 128 = some (.int .u32) := by kernel_rfl
@[go_sem] theorem Try.agg131 : aggO Try.prog 131 = some false := by kernel_rfl
@[go_sem] theorem Try.pln131 : plainO Try.prog 131 = some true := by kernel_rfl
@[go_sem] theorem Try.sz131 : szO Try.prog 131 = some 1 := by kernel_rfl
@[go_sem] theorem Try.zero131 : zeroL Try.prog 131 = some [.nilFn] := by kernel_rfl
@[go_sem] theorem Try.small131 : smallO Try.prog 131 = some (1, 8) := by kernel_rfl
@[go_sem] theorem Try.zt131 : zeroT Try.prog 131 = some (.nilFn) := by kernel_rfl
@[go_sem] theorem Try.agg132 : aggO Try.prog 132 = some false := by kernel_rfl
@[go_sem] theorem Try.pln132 : plainO Try.prog 132 = some true := by kernel_rfl
@[go_sem] theorem Try.sz132 : szO Try.prog 132 = some 1 := by kernel_rfl
@[go_sem] theorem Try.zero132 : zeroL Try.prog 132 = some [.nilPtr] := by kernel_rfl
@[go_sem] theorem Try.small132 : smallO Try.prog 132 = some (1, 8) := by kernel_rfl
@[go_sem] theorem Try.zt132 : zeroT Try.prog 132 = some (.nilPtr) := by kernel_rfl
@[go_sem] theorem Try.agg135 : aggO Try.prog 135 = some true := by kernel_rfl
@[go_sem] theorem Try.pln135 : plainO Try.prog 135 = some true := by kernel_rfl
@[go_sem] theorem Try.sz135 : szO Try.prog 135 = some 11 := by kernel_rfl
@[go_sem] theorem Try.zero135 : zeroL Try.prog 135 = some [.int .u64 0, .int .u64 0, .int .u32 0, .int .u8 0, .int .u8 0, .int .u8 0, .int .u8 0, .nilFn, .nilPtr, .int .i32 0, .int .i32 0] := by kernel_rfl
@[go_sem] theorem Try.small135 : smallO Try.prog 135 = some (11, 48) := by kernel_rfl
@[go_sem] theorem Try.zt135 : zeroT Try.prog 135 = some (.agg [.int .u64 0, .int .u64 0, .int .u32 0, .int .u8 0, .int .u8 0, .int .u8 0, .int .u8 0, .nilFn, .nilPtr, .int .i32 0, .int .i32 0]) := by kernel_rfl
@[go_sem] theorem Try.fld135_0 : fieldO Try.prog 135 0 = some (0, 12) := by kernel_rfl
@[go_sem] theorem Try.fld135_1 : fieldO Try.prog 135 1 = some (1, 12) := by kernel_rfl
@[go_sem] theorem Try.fld135_2 : fieldO Try.prog 135 2 = some (2, 128) := by kernel_rfl
@[go_sem] theorem Try.fld135_3 : fieldO Try.prog 135 3 = some (3, 129) := by kernel_rfl
@[go_sem] theorem Try.fld135_4 : fieldO Try.prog 135 4 = some (4, 5) := by kernel_rfl
@[go_sem] theorem Try.fld135_5 : fieldO Try.prog 135 5 = some (5, 5) := by kernel_rfl
@[go_sem] theorem Try.fld135_6 : fieldO Try.prog 135 6 = some (6, 130) := by kernel_rfl
@[go_sem] theorem Try.fld135_7 : fieldO Try.prog 135 7 = some (7, 131) := by kernel_rfl
@[go_sem] theorem Try.fld135_8 : fieldO Try.prog 135 8 = some (8, 132) := by kernel_rfl
@[go_sem] theorem Try.fld135_9 : fieldO Try.prog 135 9 = some (9, 133) := by kernel_rfl
@[go_sem] theorem Try.fld135_10 : fieldO Try.prog 135 10 = some (10, 134) := by kernel_rfl
@[go_sem] theorem Try.bld135 (parts : List (Nat × TV)) : buildO Try.prog 135 parts = (fillT (fun i => ([(0, 1), (1, 1), (2, 1), (3, 1), (4, 1), (5, 1), (6, 1), (7, 1), (8, 1), (9, 1), (10, 1)] : List (Nat × Nat))[i]?) [.int .u64 0, .int .u64 0, .int .u32 0, .int .u8 0, .int .u8 0, .int .u8 0, .int .u8 0, .nilFn, .nilPtr, .int .i32 0, .int .i32 0] parts).map .agg := by kernel_rfl
@[go_sem] theorem Try.bldp135 (parts : List (Nat × PV)) : buildP Try.prog 135 parts = fillP (fun i => ([(0, 1), (1, 1), (2, 1), (3, 1), (4, 1), (5, 1), (6, 1), (7, 1), (8, 1), (9, 1), (10, 1)] : List (Nat × Nat))[i]?) [.t (.int .u64 0), .t (.int .u64 0), .t (.int .u32 0), .t (.int .u8 0), .t (.int .u8 0), .t (.int .u8 0), .t (.int .u8 0), .t (.nilFn), .t (.nilPtr), .t (.int .i32 0), .t (.int .i32 0)] parts := by kernel_rfl
@[go_sem] theorem Try.eqg135 : Program.eqGuardType Try.prog (Program.depth Try.prog) 135 = false := by kernel_rfl
theorem Try.mixes : Try.prog.follows .mixedOrders = true := by kernel_rfl
end Go.Proofs.Ytgofljmnlfnlnaa

/- Part Pb. -/
namespace Go.Oc
open Go Go.Pm

/-- A number that an int can hold. -/
def In64 (n : Int) : Prop := -9223372036854775808 ≤ n ∧ n ≤ 9223372036854775807
theorem wrap_id {n : Int} (h : In64 n) : IntKind.i64.wrap n = n := wrap_in h.1 h.2

def inB (n lo hi : Int) : Bool := decide (lo ≤ n) && decide (n ≤ hi)
theorem inB_iff {n lo hi : Int} : inB n lo hi = true ↔ lo ≤ n ∧ n ≤ hi := by simp [inB]

structure Span where
  lo : Int
  hi : Int
  deriving DecidableEq
def Span.cs (s : Span) : List TV := [.int .i64 s.lo, .int .i64 s.hi]
def Span.t (s : Span) : TV := .agg s.cs
def spannedB (s : Span) (lo hi : Int) : Bool := decide (lo ≤ s.lo) && decide (s.lo ≤ s.hi) && decide (s.hi ≤ hi)
def widerS (s : Span) (n : Int) (first : Bool) : Span := if first then ⟨n, n⟩ else ⟨min s.lo n, max s.hi n⟩
def chosen (lo hi n : Int) : Int := if lo ≥ hi then lo else if 9223372036854775807 < hi - lo + 1 then min (max n lo) hi else lo + n % (hi - lo + 1)
theorem chosen_mem {lo hi : Int} (n : Int) (h : lo ≤ hi) : lo ≤ chosen lo hi n ∧ chosen lo hi n ≤ hi := by
  unfold chosen
  split
  · omega
  · split
    · omega
    · have h1 := Int.emod_nonneg n (show hi - lo + 1 ≠ 0 by omega)
      have h2 := Int.emod_lt_of_pos n (show 0 < hi - lo + 1 by omega)
      omega
theorem chosen_low {lo hi : Int} (n : Int) (h : ¬ lo ≤ hi) : chosen lo hi n = lo := by
  unfold chosen; rw [if_pos (by omega)]

/-- A list of ints, as cells. -/
def ints (l : List Int) : List TV := l.map (TV.int .i64)
theorem ints_at {l : List Int} {k : Nat} {x : Int} (h : l[k]? = some x) : (ints l).drop (k * 1) = .int .i64 x :: ints (l.drop (k + 1)) := by
  unfold ints
  rw [Nat.mul_one, ← List.map_drop]
  have hk := (List.getElem?_eq_some_iff.1 h).1
  rw [List.drop_eq_getElem_cons hk, List.map_cons]
  congr 2
  exact (List.getElem?_eq_some_iff.1 h).2
theorem ints_inj : ∀ {a b : List Int}, ints a = ints b → a = b
  | [], [], _ => rfl
  | x :: a, y :: b, h => by
    simp only [ints, List.map_cons, List.cons.injEq, TV.int.injEq, true_and] at h
    rw [h.1, ints_inj (a := a) (b := b) h.2]
  | [], _ :: _, h => by simp [ints] at h
  | _ :: _, [], h => by simp [ints] at h
theorem ints_len (l : List Int) : (ints l).length = l.length := by simp [ints]
noncomputable def unints (cs : List TV) : Option (List Int) := open Classical in if h : ∃ l, cs = ints l then some h.choose else none
theorem unints_eq (l : List Int) : unints (ints l) = some l := by
  have h : ∃ l', ints l = ints l' := ⟨l, rfl⟩
  unfold unints
  rw [dif_pos h]
  congr 1
  exact (ints_inj h.choose_spec).symm

/-- Lists of structs. -/
theorem flat_at {α : Type} (c : α → List TV) {n : Nat} (hc : ∀ x, (c x).length = n) : ∀ {l : List α} {k : Nat} {x : α}, l[k]? = some x → (l.flatMap c).drop (k * n) = c x ++ (l.drop (k + 1)).flatMap c
  | [], k, x, h => by simp at h
  | y :: l, 0, x, h => by simp at h; subst h; simp
  | y :: l, k + 1, x, h => by
    simp at h
    have := flat_at c hc h
    simp only [List.flatMap_cons, List.drop_succ_cons, Nat.add_mul, Nat.one_mul]
    rw [Nat.add_comm, List.drop_append, hc y]
    simp [List.drop_eq_nil_of_le, hc y, this]
theorem flat_len {α : Type} (c : α → List TV) {n : Nat} (hc : ∀ x, (c x).length = n) (l : List α) : (l.flatMap c).length = l.length * n := by
  induction l with
  | nil => simp
  | cons x l ih => simp only [List.flatMap_cons, List.length_append, hc, ih, List.length_cons, Nat.add_mul]; omega
theorem flat_inj {α : Type} {c : α → List TV} {n : Nat} (hc : ∀ x, (c x).length = n) (hn : 0 < n) (hi : ∀ x y, c x = c y → x = y) : ∀ {a b : List α}, a.flatMap c = b.flatMap c → a = b
  | [], [], _ => rfl
  | x :: a, y :: b, h => by
    simp only [List.flatMap_cons] at h
    have h1 := List.append_inj h (by rw [hc, hc])
    rw [hi x y h1.1, flat_inj hc hn hi h1.2]
  | [], y :: b, h => by have := congrArg List.length h; simp [hc] at this; omega
  | x :: a, [], h => by have := congrArg List.length h; simp [hc] at this; omega
noncomputable def unflat {α : Type} (c : α → List TV) (cs : List TV) : Option (List α) := open Classical in if h : ∃ l, cs = l.flatMap c then some h.choose else none
theorem unflat_eq {α : Type} {c : α → List TV} {n : Nat} (hc : ∀ x, (c x).length = n) (hn : 0 < n) (hi : ∀ x y, c x = c y → x = y) (l : List α) : unflat c (l.flatMap c) = some l := by
  have h : ∃ l' : List α, l.flatMap c = l'.flatMap c := ⟨l, rfl⟩
  unfold unflat
  rw [dif_pos h]
  congr 1
  exact (flat_inj hc hn hi h.choose_spec).symm
theorem unflat_some {α : Type} {c : α → List TV} {cs : List TV} {l : List α} (h : unflat c cs = some l) : cs = l.flatMap c := by
  unfold unflat at h
  split at h
  · rename_i hc; cases h; exact hc.choose_spec
  · cases h
theorem unints_some {cs : List TV} {l : List Int} (h : unints cs = some l) : cs = ints l := by
  unfold unints at h
  split at h
  · rename_i hc; cases h; exact hc.choose_spec
  · cases h

/-- A row of structs. -/
def IsRow {α : Type} (c : α → List TV) (s : TV) (l : List α) : Prop := (s = .nilSl ∧ l = []) ∨ ∃ full, s = .sl (l.flatMap c) l.length full
noncomputable def rowL {α : Type} (un : List TV → Option (List α)) : TV → Option (List α)
  | .nilSl => un []
  | .sl cs n _ => match un cs with
    | some l => if n = l.length then some l else none
    | none => none
  | _ => none
attribute [go_sem] rowL
theorem rowL_some {α : Type} {c : α → List TV} {un : List TV → Option (List α)} (h0 : un [] = some []) (hu : ∀ {cs l}, un cs = some l → cs = l.flatMap c) {s : TV} {l : List α} (h : rowL un s = some l) : IsRow c s l := by
  unfold rowL at h
  split at h
  · rw [h0] at h; cases h; exact .inl ⟨rfl, rfl⟩
  · split at h
    · rename_i l' hl
      split at h
      · rename_i hn
        cases h
        have := hu hl
        subst this; subst hn
        exact .inr ⟨_, rfl⟩
      · cases h
    · cases h
  · cases h
theorem IsRow.ne {α : Type} {c : α → List TV} {s : TV} {l : List α} (h : IsRow c s l) (hl : 1 ≤ l.length) : ∃ full, s = .sl (l.flatMap c) l.length full := by
  rcases h with ⟨_, rfl⟩ | h
  · simp at hl
  · exact h

theorem get_lt {α : Type} {l : List α} {k : Nat} (h : (k : Int) < (l.length : Int)) : ∃ x, l[k]? = some x := ⟨l[k]'(by omega), List.getElem?_eq_getElem (by omega)⟩
theorem take_all {α : Type} (p : α → Bool) {l : List α} {k : Nat} {x : α} (h : l[k]? = some x) : (l.take (k + 1)).all p = ((l.take k).all p && p x) := by
  rw [List.take_add_one, h]; simp
theorem take_snoc {α : Type} {l : List α} {k : Nat} {x : α} (h : l[k]? = some x) : l.take (k + 1) = l.take k ++ [x] := by
  rw [List.take_add_one, h]; rfl
theorem all_of_take {α : Type} {p : α → Bool} {l : List α} {k : Nat} (h : (l.take k).all p = false) : l.all p = false := by
  rw [← List.take_append_drop k l, List.all_append, h]; rfl

/-- May the first list stand before the second one? -/
def before : List Int → List Int → Bool
  | [], [] => false
  | [], _ :: _ => true
  | _ :: _, [] => false
  | x :: a, y :: b => if x < y then true else if y < x then false else before a b
def risingB : Int → List Int → Int → Bool
  | _, [], _ => true
  | lo, x :: l, hi => decide (lo ≤ x) && decide (x < hi) && risingB (x + 1) l hi
/-- The numbers of a set, below another one. -/
def members (set below : Nat) : List Int := ((List.range below).filter set.testBit).map Int.ofNat
end Go.Oc

/- Part Bs. -/
namespace Go.Proofs.Ytgofljmnlfnlnaa
open Go.RowKit Go.Pm Go.Oc
set_option maxRecDepth 100000
set_option maxHeartbeats 1000000

theorem In_c (n lo hi : Int) : PCalls Try.prog 42 [.int .i64 n, .int .i64 lo, .int .i64 hi] (.bool (inB n lo hi)) := by
  refine pcalls_by Try.mixes noSpec_ok (fn := Try.f42) Try.func42 rfl (by kernel_rfl) (by show 3 ≤ _; decide) ?_
  simp (decide := true) (maxSteps := 4000000) only [go_sem, Nat.reduceAdd, Nat.reduceSub, Nat.reduceMul, Nat.reduceDiv, Nat.reduceMod, Nat.reduceLT, Nat.reduceLeDiff, Nat.reduceEqDiff, Nat.reduceBEq, Nat.reduceBNe, Nat.reduceGT, Int.reduceAdd, Int.reduceSub, Int.reduceMul, Int.reduceNeg, Int.reduceLT, Int.reduceLE, Int.reduceEq, Int.reduceNe, Int.reduceBEq, Int.reduceBNe, Int.reduceToNat, Int.reduceGT, Int.reduceGE, ↓reduceIte, decide_true, decide_false, Try.f42, inB, ge_iff_le]
def gIn : List TV → Option TV
  | [.int .i64 n, .int .i64 a, .int .i64 b] => some (.bool (inB n a b))
  | _ => none
theorem gIn_ok : ∀ xs r, gIn xs = some r → PCalls Try.prog 42 xs r := by
  intro xs r h
  unfold gIn at h
  split at h
  · cases h; exact In_c _ _ _
  · cases h
def spIn : Pm.Spec := noSpec.one 42 gIn
attribute [go_sem] gIn
@[go_sem] theorem spIn_p (f : FuncId) (xs : List TV) : spIn.p f xs = Pm.Spec.p (noSpec.one 42 gIn) f xs := rfl
@[go_sem] theorem spIn_h (f : FuncId) (ps : List PV) (hl : List PO) : spIn.h f ps hl = Pm.Spec.h (noSpec.one 42 gIn) f ps hl := rfl
@[go_sem] theorem spIn_fz (f : FuncId) : spIn.fz f = Pm.Spec.fz (noSpec.one 42 gIn) f := rfl
@[go_sem] theorem spIn_fr (f : FuncId) : spIn.fr f = Pm.Spec.fr (noSpec.one 42 gIn) f := rfl
@[go_sem] theorem spIn_mu (t : TypeId) : spIn.mu t = Pm.Spec.mu (noSpec.one 42 gIn) t := rfl
theorem spIn_ok : SpecOk Try.prog spIn := Spec.one_ok gIn_ok noSpec_ok

theorem Spanned_c (s : Span) (lo hi : Int) : PCalls Try.prog 53 [s.t, .int .i64 lo, .int .i64 hi] (.bool (spannedB s lo hi)) := by
  refine pcalls_by Try.mixes noSpec_ok (fn := Try.f53) Try.func53 rfl (by kernel_rfl) (by show 3 ≤ _; decide) ?_
  simp (decide := true) (maxSteps := 4000000) only [go_sem, Nat.reduceAdd, Nat.reduceSub, Nat.reduceMul, Nat.reduceDiv, Nat.reduceMod, Nat.reduceLT, Nat.reduceLeDiff, Nat.reduceEqDiff, Nat.reduceBEq, Nat.reduceBNe, Nat.reduceGT, Int.reduceAdd, Int.reduceSub, Int.reduceMul, Int.reduceNeg, Int.reduceLT, Int.reduceLE, Int.reduceEq, Int.reduceNe, Int.reduceBEq, Int.reduceBNe, Int.reduceToNat, Int.reduceGT, Int.reduceGE, ↓reduceIte, decide_true, decide_false, Try.f53, Span.t, Span.cs, spannedB]
theorem Holds_c (s : Span) (n : Int) : PCalls Try.prog 32 [s.t, .int .i64 n] (.bool (inB n s.lo s.hi)) := by
  refine pcalls_by Try.mixes spIn_ok (fn := Try.f32) Try.func32 rfl (by kernel_rfl) (by show 2 ≤ _; decide) ?_
  simp (decide := true) (maxSteps := 4000000) only [go_sem, Nat.reduceAdd, Nat.reduceSub, Nat.reduceMul, Nat.reduceDiv, Nat.reduceMod, Nat.reduceLT, Nat.reduceLeDiff, Nat.reduceEqDiff, Nat.reduceBEq, Nat.reduceBNe, Nat.reduceGT, Int.reduceAdd, Int.reduceSub, Int.reduceMul, Int.reduceNeg, Int.reduceLT, Int.reduceLE, Int.reduceEq, Int.reduceNe, Int.reduceBEq, Int.reduceBNe, Int.reduceToNat, Int.reduceGT, Int.reduceGE, ↓reduceIte, decide_true, decide_false, Try.f32, Span.t, Span.cs, spIn, gIn]
theorem Wider_c (s : Span) (n : Int) (b : Bool) : PCalls Try.prog 72 [s.t, .int .i64 n, .bool b] (widerS s n b).t := by
  refine pcalls_by Try.mixes noSpec_ok (fn := Try.f72) Try.func72 rfl (by kernel_rfl) (by show 3 ≤ _; decide) ?_
  cases b <;> simp (decide := true) (maxSteps := 4000000) only [go_sem, Nat.reduceAdd, Nat.reduceSub, Nat.reduceMul, Nat.reduceDiv, Nat.reduceMod, Nat.reduceLT, Nat.reduceLeDiff, Nat.reduceEqDiff, Nat.reduceBEq, Nat.reduceBNe, Nat.reduceGT, Int.reduceAdd, Int.reduceSub, Int.reduceMul, Int.reduceNeg, Int.reduceLT, Int.reduceLE, Int.reduceEq, Int.reduceNe, Int.reduceBEq, Int.reduceBNe, Int.reduceToNat, Int.reduceGT, Int.reduceGE, ↓reduceIte, decide_true, decide_false, Try.f72, Span.t, Span.cs, widerS]
theorem Mod_c (n by_ : Int) (h : 0 < by_) (h2 : by_ ≤ 9223372036854775807) : PCalls Try.prog 34 [.int .i64 n, .int .i64 by_] (.int .i64 (n % by_)) := by
  refine pcalls_by Try.mixes noSpec_ok (fn := Try.f34) Try.func34 rfl (by kernel_rfl) (by show 2 ≤ _; decide) ?_
  have hne : ¬ by_ = 0 := by omega
  simp (decide := true) (maxSteps := 4000000) only [go_sem, Nat.reduceAdd, Nat.reduceSub, Nat.reduceMul, Nat.reduceDiv, Nat.reduceMod, Nat.reduceLT, Nat.reduceLeDiff, Nat.reduceEqDiff, Nat.reduceBEq, Nat.reduceBNe, Nat.reduceGT, Int.reduceAdd, Int.reduceSub, Int.reduceMul, Int.reduceNeg, Int.reduceLT, Int.reduceLE, Int.reduceEq, Int.reduceNe, Int.reduceBEq, Int.reduceBNe, Int.reduceToNat, Int.reduceGT, Int.reduceGE, ↓reduceIte, decide_true, decide_false, Try.f34, hne]
  have e := Int.tmod_eq_emod (a := n) (b := by_)
  have e1 := Int.emod_nonneg n hne
  have e2 := Int.emod_lt_of_pos n h
  by_cases hn : n.tmod by_ < 0
  · simp (decide := true) (maxSteps := 4000000) only [go_sem, Nat.reduceAdd, Nat.reduceSub, Nat.reduceMul, Nat.reduceDiv, Nat.reduceMod, Nat.reduceLT, Nat.reduceLeDiff, Nat.reduceEqDiff, Nat.reduceBEq, Nat.reduceBNe, Nat.reduceGT, Int.reduceAdd, Int.reduceSub, Int.reduceMul, Int.reduceNeg, Int.reduceLT, Int.reduceLE, Int.reduceEq, Int.reduceNe, Int.reduceBEq, Int.reduceBNe, Int.reduceToNat, Int.reduceGT, Int.reduceGE, ↓reduceIte, decide_true, decide_false, hn]
    have e3 : n.tmod by_ + by_ = n % by_ := by
      rw [e] at hn ⊢
      split at hn
      · omega
      · rename_i hc
        rw [if_neg hc]
        have : (by_.natAbs : Int) = by_ := by omega
        omega
    rw [e3, wrap_in (by omega) (by omega)]
  · simp (decide := true) (maxSteps := 4000000) only [go_sem, Nat.reduceAdd, Nat.reduceSub, Nat.reduceMul, Nat.reduceDiv, Nat.reduceMod, Nat.reduceLT, Nat.reduceLeDiff, Nat.reduceEqDiff, Nat.reduceBEq, Nat.reduceBNe, Nat.reduceGT, Int.reduceAdd, Int.reduceSub, Int.reduceMul, Int.reduceNeg, Int.reduceLT, Int.reduceLE, Int.reduceEq, Int.reduceNe, Int.reduceBEq, Int.reduceBNe, Int.reduceToNat, Int.reduceGT, Int.reduceGE, ↓reduceIte, decide_true, decide_false, hn]
    rw [e] at hn ⊢
    split at hn
    · rename_i hc; rw [if_pos hc]; simp
    · rename_i hc
      have : (by_.natAbs : Int) = by_ := by omega
      omega
theorem Abs_c (n : Int) : PCalls Try.prog 39 [.int .i64 n] (.int .i64 (max n (IntKind.i64.wrap (0 - n)))) := by
  refine pcalls_by Try.mixes noSpec_ok (fn := Try.f39) Try.func39 rfl (by kernel_rfl) (by show 1 ≤ _; decide) ?_
  simp (decide := true) (maxSteps := 4000000) only [go_sem, Nat.reduceAdd, Nat.reduceSub, Nat.reduceMul, Nat.reduceDiv, Nat.reduceMod, Nat.reduceLT, Nat.reduceLeDiff, Nat.reduceEqDiff, Nat.reduceBEq, Nat.reduceBNe, Nat.reduceGT, Int.reduceAdd, Int.reduceSub, Int.reduceMul, Int.reduceNeg, Int.reduceLT, Int.reduceLE, Int.reduceEq, Int.reduceNe, Int.reduceBEq, Int.reduceBNe, Int.reduceToNat, Int.reduceGT, Int.reduceGE, ↓reduceIte, decide_true, decide_false, Try.f39]
def gSpanned : List TV → Option TV
  | [.agg [.int .i64 x, .int .i64 y], .int .i64 a, .int .i64 b] => some (.bool (spannedB ⟨x, y⟩ a b))
  | _ => none
theorem gSpanned_ok : ∀ xs r, gSpanned xs = some r → PCalls Try.prog 53 xs r := by
  intro xs r h
  unfold gSpanned at h
  split at h
  · cases h; exact Spanned_c ⟨_, _⟩ _ _
  · cases h
def gHolds : List TV → Option TV
  | [.agg [.int .i64 x, .int .i64 y], .int .i64 n] => some (.bool (inB n x y))
  | _ => none
theorem gHolds_ok : ∀ xs r, gHolds xs = some r → PCalls Try.prog 32 xs r := by
  intro xs r h
  unfold gHolds at h
  split at h
  · cases h; exact Holds_c ⟨_, _⟩ _
  · cases h
def gWider : List TV → Option TV
  | [.agg [.int .i64 x, .int .i64 y], .int .i64 n, .bool b] => some (widerS ⟨x, y⟩ n b).t
  | _ => none
theorem gWider_ok : ∀ xs r, gWider xs = some r → PCalls Try.prog 72 xs r := by
  intro xs r h
  unfold gWider at h
  split at h
  · cases h; exact Wider_c ⟨_, _⟩ _ _
  · cases h
def gMod : List TV → Option TV
  | [.int .i64 n, .int .i64 b] => if 0 < b ∧ b ≤ 9223372036854775807 then some (.int .i64 (n % b)) else none
  | _ => none
theorem gMod_ok : ∀ xs r, gMod xs = some r → PCalls Try.prog 34 xs r := by
  intro xs r h
  unfold gMod at h
  split at h
  · split at h
    · rename_i hc; cases h; exact Mod_c _ _ hc.1 hc.2
    · cases h
  · cases h
def gAbs : List TV → Option TV
  | [.int .i64 n] => some (.int .i64 (max n (IntKind.i64.wrap (0 - n))))
  | _ => none
theorem gAbs_ok : ∀ xs r, gAbs xs = some r → PCalls Try.prog 39 xs r := by
  intro xs r h
  unfold gAbs at h
  split at h
  · cases h; exact Abs_c _
  · cases h
def spB1 : Pm.Spec := ((((spIn.one 53 gSpanned).one 32 gHolds).one 72 gWider).one 34 gMod).one 39 gAbs
attribute [go_sem] gSpanned gHolds gWider gMod gAbs
@[go_sem] theorem spB1_p (f : FuncId) (xs : List TV) : spB1.p f xs = Pm.Spec.p (((((spIn.one 53 gSpanned).one 32 gHolds).one 72 gWider).one 34 gMod).one 39 gAbs) f xs := rfl
@[go_sem] theorem spB1_h (f : FuncId) (ps : List PV) (hl : List PO) : spB1.h f ps hl = Pm.Spec.h (((((spIn.one 53 gSpanned).one 32 gHolds).one 72 gWider).one 34 gMod).one 39 gAbs) f ps hl := rfl
@[go_sem] theorem spB1_fz (f : FuncId) : spB1.fz f = Pm.Spec.fz (((((spIn.one 53 gSpanned).one 32 gHolds).one 72 gWider).one 34 gMod).one 39 gAbs) f := rfl
@[go_sem] theorem spB1_fr (f : FuncId) : spB1.fr f = Pm.Spec.fr (((((spIn.one 53 gSpanned).one 32 gHolds).one 72 gWider).one 34 gMod).one 39 gAbs) f := rfl
@[go_sem] theorem spB1_mu (t : TypeId) : spB1.mu t = Pm.Spec.mu (((((spIn.one 53 gSpanned).one 32 gHolds).one 72 gWider).one 34 gMod).one 39 gAbs) t := rfl
theorem spB1_ok : SpecOk Try.prog spB1 := Spec.one_ok gAbs_ok (Spec.one_ok gMod_ok (Spec.one_ok gWider_ok (Spec.one_ok gHolds_ok (Spec.one_ok gSpanned_ok spIn_ok))))

/-- Numbers whose sums and differences fit. -/
def Mid (n : Int) : Prop := -4000000000000000000 ≤ n ∧ n ≤ 4000000000000000000
theorem tdiv_floor {a b : Int} (h : 0 < b) : (a - a % b).tdiv b = a / b := by
  have h1 : a - a % b = b * (a / b) := by have := Int.mul_ediv_add_emod a b; omega
  rw [h1, Int.mul_tdiv_cancel_left _ (by omega)]
theorem div_mid {a b : Int} (ha : Mid a) (h : 0 < b) : Mid (a / b) ∨ False := by
  refine .inl ⟨?_, ?_⟩
  · have := Int.ediv_le_ediv h ha.1
    rcases Int.lt_or_le a 0 with h0 | h0
    · have h2 : a ≤ a / b := by
        rw [Int.le_ediv_iff_mul_le h]
        have : a * b ≤ a * 1 := Int.mul_le_mul_of_nonpos_left (by omega) (by omega)
        omega
      have := ha.1; omega
    · have := Int.ediv_nonneg h0 (by omega : 0 ≤ b); omega
  · rcases Int.lt_or_le a 0 with h0 | h0
    · have : a / b < 0 := Int.ediv_neg_of_neg_of_pos h0 h
      omega
    · have := Int.ediv_le_self b h0; have := ha.2; omega
theorem Down_c (a b : Int) (ha : Mid a) (hb : 0 < b) (hb2 : Mid b) : PCalls Try.prog 63 [.int .i64 a, .int .i64 b] (.int .i64 (a / b)) := by
  refine pcalls_by Try.mixes spB1_ok (fn := Try.f63) Try.func63 rfl (by kernel_rfl) (by show 2 ≤ _; decide) ?_
  have hne : ¬ b = 0 := by omega
  have e1 := Int.emod_nonneg a hne
  have e2 := Int.emod_lt_of_pos a hb
  have hbd : b ≤ 9223372036854775807 := by have := hb2.2; omega
  have hd := (div_mid ha hb).resolve_right id
  simp (decide := true) (maxSteps := 4000000) only [go_sem, Nat.reduceAdd, Nat.reduceSub, Nat.reduceMul, Nat.reduceDiv, Nat.reduceMod, Nat.reduceLT, Nat.reduceLeDiff, Nat.reduceEqDiff, Nat.reduceBEq, Nat.reduceBNe, Nat.reduceGT, Int.reduceAdd, Int.reduceSub, Int.reduceMul, Int.reduceNeg, Int.reduceLT, Int.reduceLE, Int.reduceEq, Int.reduceNe, Int.reduceBEq, Int.reduceBNe, Int.reduceToNat, Int.reduceGT, Int.reduceGE, ↓reduceIte, decide_true, decide_false, Try.f63, spB1, spIn, gMod, hb, hbd, hne]
  rw [wrap_in (n := a - a % b) (by have := ha.1; have := hb2.2; omega) (by have := ha.2; omega), tdiv_floor hb, wrap_in (by have := hd.1; omega) (by have := hd.2; omega)]
def gDown : List TV → Option TV
  | [.int .i64 a, .int .i64 b] => if (-4000000000000000000 ≤ a ∧ a ≤ 4000000000000000000) ∧ 0 < b ∧ b ≤ 4000000000000000000 then some (.int .i64 (a / b)) else none
  | _ => none
theorem gDown_ok : ∀ xs r, gDown xs = some r → PCalls Try.prog 63 xs r := by
  intro xs r h
  unfold gDown at h
  split at h
  · split at h
    · rename_i hc; cases h; exact Down_c _ _ hc.1 hc.2.1 ⟨by omega, hc.2.2⟩
    · cases h
  · cases h
def spB2 : Pm.Spec := spB1.one 63 gDown
attribute [go_sem] gDown
@[go_sem] theorem spB2_p (f : FuncId) (xs : List TV) : spB2.p f xs = Pm.Spec.p (spB1.one 63 gDown) f xs := rfl
@[go_sem] theorem spB2_h (f : FuncId) (ps : List PV) (hl : List PO) : spB2.h f ps hl = Pm.Spec.h (spB1.one 63 gDown) f ps hl := rfl
@[go_sem] theorem spB2_fz (f : FuncId) : spB2.fz f = Pm.Spec.fz (spB1.one 63 gDown) f := rfl
@[go_sem] theorem spB2_fr (f : FuncId) : spB2.fr f = Pm.Spec.fr (spB1.one 63 gDown) f := rfl
@[go_sem] theorem spB2_mu (t : TypeId) : spB2.mu t = Pm.Spec.mu (spB1.one 63 gDown) t := rfl
theorem spB2_ok : SpecOk Try.prog spB2 := Spec.one_ok gDown_ok spB1_ok
theorem Up_c (a b : Int) (ha : Mid a) (hb : 0 < b) (hb2 : Mid b) : PCalls Try.prog 41 [.int .i64 a, .int .i64 b] (.int .i64 (-((-a) / b))) := by
  refine pcalls_by Try.mixes spB2_ok (fn := Try.f41) Try.func41 rfl (by kernel_rfl) (by show 2 ≤ _; decide) ?_
  have hna : IntKind.i64.wrap (0 - a) = -a := by rw [wrap_in (by have := ha.2; omega) (by have := ha.1; omega)]; omega
  have hm : Mid (-a) := ⟨by have := ha.2; omega, by have := ha.1; omega⟩
  have hd := (div_mid hm hb).resolve_right id
  have hc : ((-4000000000000000000 ≤ -a ∧ -a ≤ 4000000000000000000) ∧ 0 < b ∧ b ≤ 4000000000000000000) := ⟨hm, hb, hb2.2⟩
  simp (decide := true) (maxSteps := 4000000) only [go_sem, Nat.reduceAdd, Nat.reduceSub, Nat.reduceMul, Nat.reduceDiv, Nat.reduceMod, Nat.reduceLT, Nat.reduceLeDiff, Nat.reduceEqDiff, Nat.reduceBEq, Nat.reduceBNe, Nat.reduceGT, Int.reduceAdd, Int.reduceSub, Int.reduceMul, Int.reduceNeg, Int.reduceLT, Int.reduceLE, Int.reduceEq, Int.reduceNe, Int.reduceBEq, Int.reduceBNe, Int.reduceToNat, Int.reduceGT, Int.reduceGE, ↓reduceIte, decide_true, decide_false, Try.f41, spB2, gDown, hna, if_pos hc]
  rw [wrap_in (by have := hd.2; omega) (by have := hd.1; omega)]; omega
def gUp : List TV → Option TV
  | [.int .i64 a, .int .i64 b] => if (-4000000000000000000 ≤ a ∧ a ≤ 4000000000000000000) ∧ 0 < b ∧ b ≤ 4000000000000000000 then some (.int .i64 (-((-a) / b))) else none
  | _ => none
theorem gUp_ok : ∀ xs r, gUp xs = some r → PCalls Try.prog 41 xs r := by
  intro xs r h
  unfold gUp at h
  split at h
  · split at h
    · rename_i hc; cases h; exact Up_c _ _ hc.1 hc.2.1 ⟨by omega, hc.2.2⟩
    · cases h
  · cases h
theorem Chosen_c (lo hi n : Int) (h1 : In64 lo) (h2 : In64 hi) : PCalls Try.prog 40 [.int .i64 lo, .int .i64 hi, .int .i64 n] (.int .i64 (chosen lo hi n)) := by
  refine pcalls_by Try.mixes spB1_ok (fn := Try.f40) Try.func40 rfl (by kernel_rfl) (by show 3 ≤ _; decide) ?_
  obtain ⟨a1, a2⟩ := h1
  obtain ⟨b1, b2⟩ := h2
  unfold chosen
  by_cases hge : lo ≥ hi
  · simp (decide := true) (maxSteps := 4000000) only [go_sem, Nat.reduceAdd, Nat.reduceSub, Nat.reduceMul, Nat.reduceDiv, Nat.reduceMod, Nat.reduceLT, Nat.reduceLeDiff, Nat.reduceEqDiff, Nat.reduceBEq, Nat.reduceBNe, Nat.reduceGT, Int.reduceAdd, Int.reduceSub, Int.reduceMul, Int.reduceNeg, Int.reduceLT, Int.reduceLE, Int.reduceEq, Int.reduceNe, Int.reduceBEq, Int.reduceBNe, Int.reduceToNat, Int.reduceGT, Int.reduceGE, ↓reduceIte, decide_true, decide_false, Try.f40, hge]
  · by_cases hbig : 9223372036854775807 < hi - lo + 1
    · have e : IntKind.i64.wrap (IntKind.i64.wrap (hi - lo) + 1) < 1 := by simp only [IntKind.wrap_i64]; omega
      simp (decide := true) (maxSteps := 4000000) only [go_sem, Nat.reduceAdd, Nat.reduceSub, Nat.reduceMul, Nat.reduceDiv, Nat.reduceMod, Nat.reduceLT, Nat.reduceLeDiff, Nat.reduceEqDiff, Nat.reduceBEq, Nat.reduceBNe, Nat.reduceGT, Int.reduceAdd, Int.reduceSub, Int.reduceMul, Int.reduceNeg, Int.reduceLT, Int.reduceLE, Int.reduceEq, Int.reduceNe, Int.reduceBEq, Int.reduceBNe, Int.reduceToNat, Int.reduceGT, Int.reduceGE, ↓reduceIte, decide_true, decide_false, Try.f40, hge, e, hbig]
    · have e : IntKind.i64.wrap (IntKind.i64.wrap (hi - lo) + 1) = hi - lo + 1 := by rw [wrap_in (n := hi - lo) (by omega) (by omega), wrap_in (by omega) (by omega)]
      have e2 : ¬ hi - lo + 1 < 1 := by omega
      have e3 : 0 < hi - lo + 1 ∧ hi - lo + 1 ≤ 9223372036854775807 := by omega
      have m1 := Int.emod_nonneg n (show hi - lo + 1 ≠ 0 by omega)
      have m2 := Int.emod_lt_of_pos n (show 0 < hi - lo + 1 by omega)
      simp (decide := true) (maxSteps := 4000000) only [go_sem, Nat.reduceAdd, Nat.reduceSub, Nat.reduceMul, Nat.reduceDiv, Nat.reduceMod, Nat.reduceLT, Nat.reduceLeDiff, Nat.reduceEqDiff, Nat.reduceBEq, Nat.reduceBNe, Nat.reduceGT, Int.reduceAdd, Int.reduceSub, Int.reduceMul, Int.reduceNeg, Int.reduceLT, Int.reduceLE, Int.reduceEq, Int.reduceNe, Int.reduceBEq, Int.reduceBNe, Int.reduceToNat, Int.reduceGT, Int.reduceGE, ↓reduceIte, decide_true, decide_false, Try.f40, hge, hbig, e, e2, spB1, spIn, gMod, if_pos e3]
      rw [wrap_in (by omega) (by omega)]
def gChosen : List TV → Option TV
  | [.int .i64 a, .int .i64 b, .int .i64 n] => if (-9223372036854775808 ≤ a ∧ a ≤ 9223372036854775807) ∧ -9223372036854775808 ≤ b ∧ b ≤ 9223372036854775807 then some (.int .i64 (chosen a b n)) else none
  | _ => none
theorem gChosen_ok : ∀ xs r, gChosen xs = some r → PCalls Try.prog 40 xs r := by
  intro xs r h
  unfold gChosen at h
  split at h
  · split at h
    · rename_i hc; cases h; exact Chosen_c _ _ _ hc.1 hc.2
    · cases h
  · cases h
theorem Bit_c (s k : Nat) (hk : k < 64) : PCalls Try.prog 68 [.int .i64 s, .int .i64 k] (.bool (s.testBit k)) := by
  refine pcalls_by Try.mixes noSpec_ok (fn := Try.f68) Try.func68 rfl (by kernel_rfl) (by show 2 ≤ _; decide) ?_
  have hk0 : ¬ (k : Int) < 0 := by omega
  have e : (Int.fdiv (s : Int) (2 ^ (min k 64))) = ((s / 2 ^ k : Nat) : Int) := by
    rw [Nat.min_eq_left (by omega), Int.fdiv_eq_ediv_of_nonneg _ (Int.pow_nonneg (by omega))]
    simp
  have e2 : Int.tmod ((s / 2 ^ k : Nat) : Int) 2 = ((s / 2 ^ k % 2 : Nat) : Int) := by
    rw [Int.tmod_eq_emod_of_nonneg (Int.natCast_nonneg _)]; simp
  simp (decide := true) (maxSteps := 4000000) only [go_sem, Nat.reduceAdd, Nat.reduceSub, Nat.reduceMul, Nat.reduceDiv, Nat.reduceMod, Nat.reduceLT, Nat.reduceLeDiff, Nat.reduceEqDiff, Nat.reduceBEq, Nat.reduceBNe, Nat.reduceGT, Int.reduceAdd, Int.reduceSub, Int.reduceMul, Int.reduceNeg, Int.reduceLT, Int.reduceLE, Int.reduceEq, Int.reduceNe, Int.reduceBEq, Int.reduceBNe, Int.reduceToNat, Int.reduceGT, Int.reduceGE, ↓reduceIte, decide_true, decide_false, Try.f68, hk0, e, IntKind.bits]
  rw [e2, Nat.testBit_eq_decide_div_mod_eq]
  congr 1
  rw [Bool.eq_iff_iff, beq_iff_eq, decide_eq_true_eq]
  omega
def gBit : List TV → Option TV
  | [.int .i64 s, .int .i64 k] => if 0 ≤ s ∧ 0 ≤ k ∧ k < 64 then some (.bool (s.toNat.testBit k.toNat)) else none
  | _ => none
theorem gBit_ok : ∀ xs r, gBit xs = some r → PCalls Try.prog 68 xs r := by
  intro xs r h
  unfold gBit at h
  split at h
  · rename_i s k
    split at h
    · rename_i hc; cases h
      have := Bit_c s.toNat k.toNat (by omega)
      rwa [Int.toNat_of_nonneg hc.1, Int.toNat_of_nonneg hc.2.1] at this
    · cases h
  · cases h
def spB3 : Pm.Spec := ((spB2.one 41 gUp).one 40 gChosen).one 68 gBit
attribute [go_sem] gUp gChosen gBit
@[go_sem] theorem spB3_p (f : FuncId) (xs : List TV) : spB3.p f xs = Pm.Spec.p (((spB2.one 41 gUp).one 40 gChosen).one 68 gBit) f xs := rfl
@[go_sem] theorem spB3_h (f : FuncId) (ps : List PV) (hl : List PO) : spB3.h f ps hl = Pm.Spec.h (((spB2.one 41 gUp).one 40 gChosen).one 68 gBit) f ps hl := rfl
@[go_sem] theorem spB3_fz (f : FuncId) : spB3.fz f = Pm.Spec.fz (((spB2.one 41 gUp).one 40 gChosen).one 68 gBit) f := rfl
@[go_sem] theorem spB3_fr (f : FuncId) : spB3.fr f = Pm.Spec.fr (((spB2.one 41 gUp).one 40 gChosen).one 68 gBit) f := rfl
@[go_sem] theorem spB3_mu (t : TypeId) : spB3.mu t = Pm.Spec.mu (((spB2.one 41 gUp).one 40 gChosen).one 68 gBit) t := rfl
theorem spB3_ok : SpecOk Try.prog spB3 := Spec.one_ok gBit_ok (Spec.one_ok gChosen_ok (Spec.one_ok gUp_ok spB2_ok))

theorem Same_c (a b : List Int) (fa fb : Bool) (ha : a.length ≤ 9223372036854775806) : PCalls Try.prog 25 [.sl (ints a) a.length fa, .sl (ints b) b.length fb] (.bool (decide (a = b))) := by
  refine pcalls_by Try.mixes noSpec_ok (fn := Try.f25) Try.func25 rfl (by kernel_rfl) (by show 2 ≤ _; decide) ?_
  by_cases hl : a.length = b.length
  · have hl' : (a.length : Int) = b.length := by omega
    simp (decide := true) (maxSteps := 4000000) only [go_sem, Nat.reduceAdd, Nat.reduceSub, Nat.reduceMul, Nat.reduceDiv, Nat.reduceMod, Nat.reduceLT, Nat.reduceLeDiff, Nat.reduceEqDiff, Nat.reduceBEq, Nat.reduceBNe, Nat.reduceGT, Int.reduceAdd, Int.reduceSub, Int.reduceMul, Int.reduceNeg, Int.reduceLT, Int.reduceLE, Int.reduceEq, Int.reduceNe, Int.reduceBEq, Int.reduceBNe, Int.reduceToNat, Int.reduceGT, Int.reduceGE, ↓reduceIte, decide_true, decide_false, Try.f25, hl', bne_self_eq_false]
    refine pwpC_loop (A := { k : Nat // a.take k = b.take k ∧ k ≤ a.length }) (fun k => { env := [(5, .t (.int .i64 k.1)), (0, .t (.sl (ints a) a.length fa)), (1, .t (.sl (ints b) b.length fb))], heap := [] }) (fun k => a.length - k.1) ⟨0, by simp⟩ ?_ (fun _ => by rfl) fun ⟨k, hk, hka⟩ => ?_
    · simp (decide := true) (maxSteps := 4000000) only [go_sem, Nat.reduceAdd, Nat.reduceSub, Nat.reduceMul, Nat.reduceDiv, Nat.reduceMod, Nat.reduceLT, Nat.reduceLeDiff, Nat.reduceEqDiff, Nat.reduceBEq, Nat.reduceBNe, Nat.reduceGT, Int.reduceAdd, Int.reduceSub, Int.reduceMul, Int.reduceNeg, Int.reduceLT, Int.reduceLE, Int.reduceEq, Int.reduceNe, Int.reduceBEq, Int.reduceBNe, Int.reduceToNat, Int.reduceGT, Int.reduceGE, ↓reduceIte, decide_true, decide_false]
    · by_cases hlt : (k : Int) < a.length
      · have hltb : (k : Int) < b.length := by omega
        obtain ⟨x, hx⟩ := get_lt hlt
        obtain ⟨y, hy⟩ := get_lt hltb
        by_cases hxy : x = y
        · subst hxy
          simp (decide := true) (maxSteps := 4000000) only [go_sem, Nat.reduceAdd, Nat.reduceSub, Nat.reduceMul, Nat.reduceDiv, Nat.reduceMod, Nat.reduceLT, Nat.reduceLeDiff, Nat.reduceEqDiff, Nat.reduceBEq, Nat.reduceBNe, Nat.reduceGT, Int.reduceAdd, Int.reduceSub, Int.reduceMul, Int.reduceNeg, Int.reduceLT, Int.reduceLE, Int.reduceEq, Int.reduceNe, Int.reduceBEq, Int.reduceBNe, Int.reduceToNat, Int.reduceGT, Int.reduceGE, ↓reduceIte, decide_true, decide_false, hlt, hltb, ints_at hx, ints_at hy, hl', bne_self_eq_false]
          refine ⟨⟨k + 1, by rw [take_snoc hx, take_snoc hy, hk], by omega⟩, by rw [wrap_in (by omega) (by omega)]; simp, by simp only; omega⟩
        · have hxy' : (x != y) = true := by simpa using hxy
          simp (decide := true) (maxSteps := 4000000) only [go_sem, Nat.reduceAdd, Nat.reduceSub, Nat.reduceMul, Nat.reduceDiv, Nat.reduceMod, Nat.reduceLT, Nat.reduceLeDiff, Nat.reduceEqDiff, Nat.reduceBEq, Nat.reduceBNe, Nat.reduceGT, Int.reduceAdd, Int.reduceSub, Int.reduceMul, Int.reduceNeg, Int.reduceLT, Int.reduceLE, Int.reduceEq, Int.reduceNe, Int.reduceBEq, Int.reduceBNe, Int.reduceToNat, Int.reduceGT, Int.reduceGE, ↓reduceIte, decide_true, decide_false, hlt, hltb, ints_at hx, ints_at hy, hl', hxy']
          symm
          rw [decide_eq_false_iff_not]
          rintro rfl
          rw [hx] at hy; cases hy; exact hxy rfl
      · have hltb : ¬ (k : Int) < b.length := by omega
        simp (decide := true) (maxSteps := 4000000) only [go_sem, Nat.reduceAdd, Nat.reduceSub, Nat.reduceMul, Nat.reduceDiv, Nat.reduceMod, Nat.reduceLT, Nat.reduceLeDiff, Nat.reduceEqDiff, Nat.reduceBEq, Nat.reduceBNe, Nat.reduceGT, Int.reduceAdd, Int.reduceSub, Int.reduceMul, Int.reduceNeg, Int.reduceLT, Int.reduceLE, Int.reduceEq, Int.reduceNe, Int.reduceBEq, Int.reduceBNe, Int.reduceToNat, Int.reduceGT, Int.reduceGE, ↓reduceIte, decide_true, decide_false, hlt, hltb, hl']
        symm
        rw [decide_eq_true_eq]
        rwa [List.take_of_length_le (by omega), List.take_of_length_le (by omega)] at hk
  · have hl' : ((a.length : Int) != b.length) = true := by simp; omega
    simp (decide := true) (maxSteps := 4000000) only [go_sem, Nat.reduceAdd, Nat.reduceSub, Nat.reduceMul, Nat.reduceDiv, Nat.reduceMod, Nat.reduceLT, Nat.reduceLeDiff, Nat.reduceEqDiff, Nat.reduceBEq, Nat.reduceBNe, Nat.reduceGT, Int.reduceAdd, Int.reduceSub, Int.reduceMul, Int.reduceNeg, Int.reduceLT, Int.reduceLE, Int.reduceEq, Int.reduceNe, Int.reduceBEq, Int.reduceBNe, Int.reduceToNat, Int.reduceGT, Int.reduceGE, ↓reduceIte, decide_true, decide_false, Try.f25, hl']
    symm
    rw [decide_eq_false_iff_not]
    rintro rfl; exact hl rfl
end Go.Proofs.Ytgofljmnlfnlnaa

/- Part Lp. -/
namespace Go.Oc
open Go Go.Pm

structure Vial where
  marks : Int
  l0 : Int
  l1 : Int
  v0 : Int
  v1 : Int
  z0 : Int
  z1 : Int
  wr : Int
  deriving DecidableEq
def Vial.cs (v : Vial) : List TV := [.int .i64 v.marks, .int .i64 v.l0, .int .i64 v.l1, .int .i64 v.v0, .int .i64 v.v1, .int .i64 v.z0, .int .i64 v.z1, .int .i64 v.wr]
def Vial.t (v : Vial) : TV := .agg v.cs
def Vial.ok (v : Vial) : Bool := inB v.marks 10 200 && spannedB ⟨v.l0, v.l1⟩ 1 v.marks && spannedB ⟨v.v0, v.v1⟩ 1 500 && spannedB ⟨v.z0, v.z1⟩ 0 (2 * v.marks) && inB v.wr 0 8
theorem Vial.ok_iff {v : Vial} : v.ok = true ↔ (10 ≤ v.marks ∧ v.marks ≤ 200) ∧ (1 ≤ v.l0 ∧ v.l0 ≤ v.l1 ∧ v.l1 ≤ v.marks) ∧ (1 ≤ v.v0 ∧ v.v0 ≤ v.v1 ∧ v.v1 ≤ 500) ∧ (0 ≤ v.z0 ∧ v.z0 ≤ v.z1 ∧ v.z1 ≤ 2 * v.marks) ∧ 0 ≤ v.wr ∧ v.wr ≤ 8 := by
  simp only [Vial.ok, inB, spannedB, Bool.and_eq_true, decide_eq_true_eq]
  constructor
  · rintro ⟨⟨⟨⟨a, b, c⟩, d, e⟩, f, g⟩, h⟩; simp_all
  · rintro ⟨a, b, c, d, e⟩; simp_all

structure Rd where
  left : Int
  right : Int
  turned : Bool
  deriving DecidableEq
def Rd.cs (r : Rd) : List TV := [.int .i64 r.left, .int .i64 r.right, .bool r.turned]
def unRds : List TV → Option (List Rd)
  | [] => some []
  | .int .i64 a :: .int .i64 b :: .bool c :: r => (unRds r).map (⟨a, b, c⟩ :: ·)
  | _ => none
theorem unRds_eq : ∀ l : List Rd, unRds (l.flatMap Rd.cs) = some l
  | [] => rfl
  | x :: l => by simp [Rd.cs, unRds, unRds_eq l]
theorem unRds_some : ∀ {cs : List TV} {l : List Rd}, unRds cs = some l → cs = l.flatMap Rd.cs := by
  intro cs
  induction cs using unRds.induct with
  | case1 => intro l h; simp [unRds] at h; subst h; rfl
  | case2 a b c r ih =>
    intro l h
    simp only [unRds, Option.map_eq_some_iff] at h
    obtain ⟨l', h1, rfl⟩ := h
    rw [ih h1]; rfl
  | case3 r h1 h2 =>
    intro l h
    unfold unRds at h
    split at h
    · exact absurd rfl h1
    · exact absurd rfl (h2 _ _ _ _)
    · cases h
attribute [go_sem] unRds_eq

structure Mk where
  at' : Int
  tu : Bool
  deriving DecidableEq
def Mk.cs (m : Mk) : List TV := [.int .i64 m.at', .bool m.tu]
def unMks : List TV → Option (List Mk)
  | [] => some []
  | .int .i64 a :: .bool c :: r => (unMks r).map (⟨a, c⟩ :: ·)
  | _ => none
theorem unMks_eq : ∀ l : List Mk, unMks (l.flatMap Mk.cs) = some l
  | [] => rfl
  | x :: l => by simp [Mk.cs, unMks, unMks_eq l]
theorem unMks_some : ∀ {cs : List TV} {l : List Mk}, unMks cs = some l → cs = l.flatMap Mk.cs := by
  intro cs
  induction cs using unMks.induct with
  | case1 => intro l h; simp [unMks] at h; subst h; rfl
  | case2 a c r ih =>
    intro l h
    simp only [unMks, Option.map_eq_some_iff] at h
    obtain ⟨l', h1, rfl⟩ := h
    rw [ih h1]; rfl
  | case3 r h1 h2 =>
    intro l h
    unfold unMks at h
    split at h
    · exact absurd rfl h1
    · exact absurd rfl (h2 _ _ _)
    · cases h
attribute [go_sem] unMks_eq

/-- Is a reading one of a valid vial? -/
def rdOk (v : Vial) (x : Rd) : Bool := inB x.left 0 v.marks && inB x.right (x.left + 1) v.marks && inB (x.right - x.left) (v.l0 - v.wr) (v.l1 + v.wr)
def rdsOk (v : Vial) (l : List Rd) : Bool := inB l.length 1 8 && l.all (rdOk v)
def mid (r : Rd) : Mk := ⟨r.left + r.right, r.turned⟩
/-- The error of a vial and readings. -/
def asked (v : Vial) (l : List Rd) : Int := if v.ok = false then 30 else if rdsOk v l = false then 31 else 0
def mksOk (l : List Mk) : Bool := l.all fun m => inB m.at' 0 400
theorem mksOk_mid {v : Vial} {l : List Rd} (hv : v.ok = true) (h : rdsOk v l = true) : mksOk (l.map mid) = true := by
  simp only [rdsOk, mksOk, Bool.and_eq_true, List.all_eq_true, List.mem_map, forall_exists_index, and_imp, forall_apply_eq_imp_iff₂] at h ⊢
  intro r hr
  have := h.2 r hr
  have hm := (Vial.ok_iff.1 hv).1
  simp only [rdOk, inB, Bool.and_eq_true, decide_eq_true_eq] at this
  show inB (r.left + r.right) 0 400 = true
  rw [inB_iff]; omega

/-- How many half marks a middle is out, with a zero. -/
def outM (m : Mk) (z : Int) : Int := if m.tu then z - m.at' else m.at' - z
def inS (w z : Int) (s : Span) (m : Mk) : Span := ⟨max s.lo (outM m z - w), min s.hi (outM m z + w)⟩
/-- Between how many half marks the tilt is, by middles, with a zero. -/
def withinS (w : Int) (l : List Mk) (z : Int) : Span := l.foldl (inS w z) ⟨-10000, 10000⟩
theorem withinS_bound {w z : Int} (hw : 0 ≤ w ∧ w ≤ 8) (hz : 0 ≤ z ∧ z ≤ 400) : ∀ {l : List Mk} {s : Span}, mksOk l = true → (-10000 ≤ s.lo ∧ s.lo ≤ 10000 ∧ -10000 ≤ s.hi ∧ s.hi ≤ 10000) →
    -10000 ≤ (l.foldl (inS w z) s).lo ∧ (l.foldl (inS w z) s).lo ≤ 10000 ∧ -10000 ≤ (l.foldl (inS w z) s).hi ∧ (l.foldl (inS w z) s).hi ≤ 10000
  | [], _, _, h => h
  | m :: l, s, h, hs => by
    simp only [mksOk, List.all_cons, Bool.and_eq_true, inB, decide_eq_true_eq] at h
    refine withinS_bound hw hz (l := l) h.2 ?_
    simp only [inS, outM]
    split <;> omega

/-- Ends of products. -/
def leastP (v : Vial) (lo : Int) : Int := min (lo * v.v0) (lo * v.v1)
def mostP (v : Vial) (hi : Int) : Int := max (hi * v.v0) (hi * v.v1)
/-- The zeros of a list that can be, each with what the tilt is then, in half marks. -/
def zerosOf (v : Vial) (l : List Mk) (zs : List Int) : List (Int × Span) := zs.filterMap fun z => let s := withinS v.wr l z; if s.lo ≤ s.hi then some (z, s) else none
def range (a : Int) (n : Nat) : List Int := (List.range n).map fun (k : Nat) => a + (k : Int)
def allZ (v : Vial) : List Int := range v.z0 (v.z1 - v.z0 + 1).toNat
/-- The tilt, the zero, and whether there is one. -/
structure TZ where
  tilt : Span
  zero : Span
  is : Bool
  deriving DecidableEq
def TZ.t (x : TZ) : TV := .tup [x.tilt.t, x.zero.t, .bool x.is]
def tiltStep (v : Vial) (x : TZ) (y : Int × Span) : TZ :=
  if x.is then ⟨⟨min x.tilt.lo (leastP v y.2.lo), max x.tilt.hi (mostP v y.2.hi)⟩, ⟨x.zero.lo, y.1⟩, true⟩
  else ⟨⟨leastP v y.2.lo, mostP v y.2.hi⟩, ⟨y.1, y.1⟩, true⟩
def tiltsOf (v : Vial) (xs : List (Int × Span)) : TZ := xs.foldl (tiltStep v) ⟨⟨0, 0⟩, ⟨0, 0⟩, false⟩
def tilts (v : Vial) (l : List Mk) : TZ := tiltsOf v (zerosOf v l (allZ v))

theorem range_succ (a : Int) (n : Nat) : range a (n + 1) = range a n ++ [a + n] := by simp [range, List.range_succ]
def foundZ (v : Vial) (l : List Mk) (z : Int) : List (Int × Span) := if (withinS v.wr l z).lo ≤ (withinS v.wr l z).hi then [(z, withinS v.wr l z)] else []
theorem zerosOf_snoc (v : Vial) (l : List Mk) (zs : List Int) (z : Int) : zerosOf v l (zs ++ [z]) = zerosOf v l zs ++ foundZ v l z := by
  unfold zerosOf foundZ
  rw [List.filterMap_append]
  congr 1
  simp only [List.filterMap_cons, List.filterMap_nil]
  split <;> rename_i h <;> split at h <;> simp_all
/-- The tilt after so many zeros. -/
def tiltsTo (v : Vial) (l : List Mk) (k : Nat) : TZ := tiltsOf v (zerosOf v l (range v.z0 k))
theorem tiltsTo_zero (v : Vial) (l : List Mk) : tiltsTo v l 0 = ⟨⟨0, 0⟩, ⟨0, 0⟩, false⟩ := rfl
theorem tiltsTo_out {v : Vial} {l : List Mk} {k : Nat} (h : ¬ (withinS v.wr l (v.z0 + k)).lo ≤ (withinS v.wr l (v.z0 + k)).hi) : tiltsTo v l (k + 1) = tiltsTo v l k := by
  unfold tiltsTo
  rw [range_succ, zerosOf_snoc, foundZ, if_neg h, List.append_nil]
theorem tiltsTo_in {v : Vial} {l : List Mk} {k : Nat} (h : (withinS v.wr l (v.z0 + k)).lo ≤ (withinS v.wr l (v.z0 + k)).hi) : tiltsTo v l (k + 1) = tiltStep v (tiltsTo v l k) (v.z0 + k, withinS v.wr l (v.z0 + k)) := by
  unfold tiltsTo
  rw [range_succ, zerosOf_snoc, foundZ, if_pos h]
  unfold tiltsOf
  rw [List.foldl_append]; rfl
theorem tiltsTo_low {v : Vial} {l : List Mk} : ∀ {k : Nat}, (tiltsTo v l k).is = true → (tiltsTo v l k).zero.lo ≤ v.z0 + k ∧ (tiltsTo v l k).zero.hi ≤ v.z0 + k ∧ v.z0 ≤ (tiltsTo v l k).zero.lo ∧ (tiltsTo v l k).zero.lo ≤ (tiltsTo v l k).zero.hi
  | 0, h => by rw [tiltsTo_zero] at h; cases h
  | k + 1, h => by
    by_cases hin : (withinS v.wr l (v.z0 + k)).lo ≤ (withinS v.wr l (v.z0 + k)).hi
    · rw [tiltsTo_in hin]
      unfold tiltStep
      split
      · rename_i hi; have := tiltsTo_low hi; simp only; omega
      · simp only; omega
    · rw [tiltsTo_out hin] at h ⊢
      have := tiltsTo_low h; omega
theorem mulB {a b : Int} (ha : -10000 ≤ a ∧ a ≤ 10000) (hb : 0 ≤ b ∧ b ≤ 500) : -5000000 ≤ a * b ∧ a * b ≤ 5000000 := by
  have h1 := Int.mul_le_mul_of_nonneg_right ha.1 hb.1
  have h2 := Int.mul_le_mul_of_nonneg_right ha.2 hb.1
  omega
theorem least_most {v : Vial} (hv : v.ok = true) {lo hi : Int} (h : lo ≤ hi) : leastP v lo ≤ mostP v hi := by
  have hv' := Vial.ok_iff.1 hv
  have := Int.mul_le_mul_of_nonneg_right (c := v.v0) h (by omega)
  unfold leastP mostP; omega
theorem rdsOk_len {v : Vial} {l : List Rd} (h : rdsOk v l = true) : 1 ≤ l.length ∧ l.length ≤ 8 := by
  simp only [rdsOk, inB, Bool.and_eq_true, decide_eq_true_eq] at h; omega
theorem asked_zero {v : Vial} {l : List Rd} (h : asked v l = 0) : v.ok = true ∧ rdsOk v l = true := by
  unfold asked at h
  cases hv : v.ok <;> cases hr : rdsOk v l <;> simp [hv, hr] at h ⊢
/-- What Tilt hands back. -/
structure TE where
  tilt : Span
  zero : Span
  e : Int
  deriving DecidableEq
def TE.t (x : TE) : TV := .tup [x.tilt.t, x.zero.t, .int .i64 x.e]
def tiltR (v : Vial) (l : List Rd) : TE :=
  if asked v l = 0 then (if (tilts v (l.map mid)).is then ⟨(tilts v (l.map mid)).tilt, (tilts v (l.map mid)).zero, 0⟩ else ⟨⟨0, 0⟩, ⟨0, 0⟩, 33⟩)
  else ⟨⟨0, 0⟩, ⟨0, 0⟩, asked v l⟩
theorem tilts_to (v : Vial) (l : List Mk) : tilts v l = tiltsTo v l (v.z1 - v.z0 + 1).toNat := rfl
end Go.Oc

/- Part Lu. -/
namespace Go.Proofs.Ytgofljmnlfnlnaa
open Go.RowKit Go.Pm Go.Oc
set_option maxRecDepth 100000
set_option linter.unusedVariables false
set_option maxHeartbeats 1000000

def Mk.al (m : Mk) : TV := .ifc 98 (.agg [.int .i64 m.at', .fn (if m.tu then 74 else 73) [] []])
def Mk.als (m : Mk) : List TV := [Mk.al m]
def unAls : List TV → Option (List Mk)
  | [] => some []
  | .ifc 98 (.agg [.int .i64 a, .fn 73 [] []]) :: r => (unAls r).map (⟨a, false⟩ :: ·)
  | .ifc 98 (.agg [.int .i64 a, .fn 74 [] []]) :: r => (unAls r).map (⟨a, true⟩ :: ·)
  | _ => none
theorem unAls_eq : ∀ l : List Mk, unAls (l.flatMap Mk.als) = some l
  | [] => rfl
  | ⟨a, tu⟩ :: l => by cases tu <;> simp [Mk.als, Mk.al, unAls, unAls_eq l]
theorem unAls_some : ∀ {cs : List TV} {l : List Mk}, unAls cs = some l → cs = l.flatMap Mk.als := by
  intro cs
  induction cs using unAls.induct with
  | case1 => intro l h; simp [unAls] at h; subst h; rfl
  | case2 a r ih =>
    intro l h
    simp only [unAls, Option.map_eq_some_iff] at h
    obtain ⟨l', h1, rfl⟩ := h
    rw [ih h1]; rfl
  | case3 a r ih =>
    intro l h
    simp only [unAls, Option.map_eq_some_iff] at h
    obtain ⟨l', h1, rfl⟩ := h
    rw [ih h1]; rfl
  | case4 r h1 h2 h3 =>
    intro l h
    unfold unAls at h
    split at h
    · exact absurd rfl h1
    · exact absurd rfl (h2 _ _)
    · exact absurd rfl (h3 _ _)
    · cases h
attribute [go_sem] unAls_eq

theorem lWithin_c (n lo hi : Int) : PCalls Try.prog 48 [.int .i64 n, .int .i64 lo, .int .i64 hi] (.bool (inB n lo hi)) := by
  refine pcalls_by Try.mixes noSpec_ok (fn := Try.f48) Try.func48 rfl (by kernel_rfl) (by show 3 ≤ _; decide) ?_
  simp (decide := true) (maxSteps := 4000000) only [go_sem, Nat.reduceAdd, Nat.reduceSub, Nat.reduceMul, Nat.reduceDiv, Nat.reduceMod, Nat.reduceLT, Nat.reduceLeDiff, Nat.reduceEqDiff, Nat.reduceBEq, Nat.reduceBNe, Nat.reduceGT, Int.reduceAdd, Int.reduceSub, Int.reduceMul, Int.reduceNeg, Int.reduceLT, Int.reduceLE, Int.reduceEq, Int.reduceNe, Int.reduceBEq, Int.reduceBNe, Int.reduceToNat, Int.reduceGT, Int.reduceGE, ↓reduceIte, decide_true, decide_false, Try.f48, inB]
theorem lSpanned_c (s : Span) (lo hi : Int) : PCalls Try.prog 52 [s.t, .int .i64 lo, .int .i64 hi] (.bool (spannedB s lo hi)) := by
  refine pcalls_by Try.mixes noSpec_ok (fn := Try.f52) Try.func52 rfl (by kernel_rfl) (by show 3 ≤ _; decide) ?_
  simp (decide := true) (maxSteps := 4000000) only [go_sem, Nat.reduceAdd, Nat.reduceSub, Nat.reduceMul, Nat.reduceDiv, Nat.reduceMod, Nat.reduceLT, Nat.reduceLeDiff, Nat.reduceEqDiff, Nat.reduceBEq, Nat.reduceBNe, Nat.reduceGT, Int.reduceAdd, Int.reduceSub, Int.reduceMul, Int.reduceNeg, Int.reduceLT, Int.reduceLE, Int.reduceEq, Int.reduceNe, Int.reduceBEq, Int.reduceBNe, Int.reduceToNat, Int.reduceGT, Int.reduceGE, ↓reduceIte, decide_true, decide_false, Try.f52, Span.t, Span.cs, spannedB]
theorem lMarked1_c (m z : Int) : PCalls Try.prog 73 [.int .i64 m, .int .i64 z] (.int .i64 (IntKind.i64.wrap (m - z))) := by
  refine pcalls_by Try.mixes noSpec_ok (fn := Try.f73) Try.func73 rfl (by kernel_rfl) (by show 2 ≤ _; decide) ?_
  simp (decide := true) (maxSteps := 4000000) only [go_sem, Nat.reduceAdd, Nat.reduceSub, Nat.reduceMul, Nat.reduceDiv, Nat.reduceMod, Nat.reduceLT, Nat.reduceLeDiff, Nat.reduceEqDiff, Nat.reduceBEq, Nat.reduceBNe, Nat.reduceGT, Int.reduceAdd, Int.reduceSub, Int.reduceMul, Int.reduceNeg, Int.reduceLT, Int.reduceLE, Int.reduceEq, Int.reduceNe, Int.reduceBEq, Int.reduceBNe, Int.reduceToNat, Int.reduceGT, Int.reduceGE, ↓reduceIte, decide_true, decide_false, Try.f73]
theorem lMarked2_c (m z : Int) : PCalls Try.prog 74 [.int .i64 m, .int .i64 z] (.int .i64 (IntKind.i64.wrap (z - m))) := by
  refine pcalls_by Try.mixes noSpec_ok (fn := Try.f74) Try.func74 rfl (by kernel_rfl) (by show 2 ≤ _; decide) ?_
  simp (decide := true) (maxSteps := 4000000) only [go_sem, Nat.reduceAdd, Nat.reduceSub, Nat.reduceMul, Nat.reduceDiv, Nat.reduceMod, Nat.reduceLT, Nat.reduceLeDiff, Nat.reduceEqDiff, Nat.reduceBEq, Nat.reduceBNe, Nat.reduceGT, Int.reduceAdd, Int.reduceSub, Int.reduceMul, Int.reduceNeg, Int.reduceLT, Int.reduceLE, Int.reduceEq, Int.reduceNe, Int.reduceBEq, Int.reduceBNe, Int.reduceToNat, Int.reduceGT, Int.reduceGE, ↓reduceIte, decide_true, decide_false, Try.f74]
theorem lMarked_c (m : Int) (tu : Bool) : PCalls Try.prog 58 [.int .i64 m, .bool tu] (.agg [.int .i64 m, .fn (if tu then 74 else 73) [] []]) := by
  refine pcalls_by Try.mixes noSpec_ok (fn := Try.f58) Try.func58 rfl (by kernel_rfl) (by show 2 ≤ _; decide) ?_
  cases tu <;> simp (decide := true) (maxSteps := 4000000) only [go_sem, Nat.reduceAdd, Nat.reduceSub, Nat.reduceMul, Nat.reduceDiv, Nat.reduceMod, Nat.reduceLT, Nat.reduceLeDiff, Nat.reduceEqDiff, Nat.reduceBEq, Nat.reduceBNe, Nat.reduceGT, Int.reduceAdd, Int.reduceSub, Int.reduceMul, Int.reduceNeg, Int.reduceLT, Int.reduceLE, Int.reduceEq, Int.reduceNe, Int.reduceBEq, Int.reduceBNe, Int.reduceToNat, Int.reduceGT, Int.reduceGE, ↓reduceIte, decide_true, decide_false, Try.f58]
noncomputable def glWithin : List TV → Option TV
  | [.int .i64 n, .int .i64 a, .int .i64 b] => some (.bool (inB n a b))
  | _ => none
theorem glWithin_ok : ∀ xs r, glWithin xs = some r → PCalls Try.prog 48 xs r := by
  intro xs r h
  unfold glWithin at h
  split at h
  · cases h; exact lWithin_c _ _ _
  · cases h
attribute [go_sem] glWithin
noncomputable def glSpanned : List TV → Option TV
  | [.agg [.int .i64 x, .int .i64 y], .int .i64 a, .int .i64 b] => some (.bool (spannedB ⟨x, y⟩ a b))
  | _ => none
theorem glSpanned_ok : ∀ xs r, glSpanned xs = some r → PCalls Try.prog 52 xs r := by
  intro xs r h
  unfold glSpanned at h
  split at h
  · cases h; exact lSpanned_c ⟨_, _⟩ _ _
  · cases h
attribute [go_sem] glSpanned
noncomputable def glMarked1 : List TV → Option TV
  | [.int .i64 m, .int .i64 z] => some (.int .i64 (IntKind.i64.wrap (m - z)))
  | _ => none
theorem glMarked1_ok : ∀ xs r, glMarked1 xs = some r → PCalls Try.prog 73 xs r := by
  intro xs r h
  unfold glMarked1 at h
  split at h
  · cases h; exact lMarked1_c _ _
  · cases h
attribute [go_sem] glMarked1
noncomputable def glMarked2 : List TV → Option TV
  | [.int .i64 m, .int .i64 z] => some (.int .i64 (IntKind.i64.wrap (z - m)))
  | _ => none
theorem glMarked2_ok : ∀ xs r, glMarked2 xs = some r → PCalls Try.prog 74 xs r := by
  intro xs r h
  unfold glMarked2 at h
  split at h
  · cases h; exact lMarked2_c _ _
  · cases h
attribute [go_sem] glMarked2
noncomputable def glMarked : List TV → Option TV
  | [.int .i64 m, .bool tu] => some (.agg [.int .i64 m, .fn (if tu then 74 else 73) [] []])
  | _ => none
theorem glMarked_ok : ∀ xs r, glMarked xs = some r → PCalls Try.prog 58 xs r := by
  intro xs r h
  unfold glMarked at h
  split at h
  · cases h; exact lMarked_c _ _
  · cases h
attribute [go_sem] glMarked
noncomputable def spL1 : Pm.Spec := ((((noSpec.one 48 glWithin).one 52 glSpanned).one 73 glMarked1).one 74 glMarked2).one 58 glMarked
@[go_sem] theorem spL1_p (f : FuncId) (xs : List TV) : spL1.p f xs = Pm.Spec.p (((((noSpec.one 48 glWithin).one 52 glSpanned).one 73 glMarked1).one 74 glMarked2).one 58 glMarked) f xs := rfl
@[go_sem] theorem spL1_h (f : FuncId) (ps : List PV) (hl : List PO) : spL1.h f ps hl = Pm.Spec.h (((((noSpec.one 48 glWithin).one 52 glSpanned).one 73 glMarked1).one 74 glMarked2).one 58 glMarked) f ps hl := rfl
@[go_sem] theorem spL1_fz (f : FuncId) : spL1.fz f = Pm.Spec.fz (((((noSpec.one 48 glWithin).one 52 glSpanned).one 73 glMarked1).one 74 glMarked2).one 58 glMarked) f := rfl
@[go_sem] theorem spL1_fr (f : FuncId) : spL1.fr f = Pm.Spec.fr (((((noSpec.one 48 glWithin).one 52 glSpanned).one 73 glMarked1).one 74 glMarked2).one 58 glMarked) f := rfl
@[go_sem] theorem spL1_mu (t : TypeId) : spL1.mu t = Pm.Spec.mu (((((noSpec.one 48 glWithin).one 52 glSpanned).one 73 glMarked1).one 74 glMarked2).one 58 glMarked) t := rfl
theorem spL1_ok : SpecOk Try.prog spL1 := Spec.one_ok glMarked_ok (Spec.one_ok glMarked2_ok (Spec.one_ok glMarked1_ok (Spec.one_ok glSpanned_ok (Spec.one_ok glWithin_ok noSpec_ok))))
theorem lBounds_c (m : Mk) (z w : Int) (hm : inB m.at' 0 400 = true) (hz : 0 ≤ z ∧ z ≤ 400) (hw : 0 ≤ w ∧ w ≤ 8) : PCalls Try.prog 93 [.agg [.int .i64 m.at', .fn (if m.tu then 74 else 73) [] []], .int .i64 z, .int .i64 w] (.agg [.int .i64 (outM m z - w), .int .i64 (outM m z + w)]) := by
  refine pcalls_by Try.mixes spL1_ok (fn := Try.f93) Try.func93 rfl (by kernel_rfl) (by show 3 ≤ _; decide) ?_
  obtain ⟨a, tu⟩ := m
  have hm' := inB_iff.1 hm
  simp only at hm'
  cases tu <;> simp (decide := true) (maxSteps := 4000000) only [go_sem, Nat.reduceAdd, Nat.reduceSub, Nat.reduceMul, Nat.reduceDiv, Nat.reduceMod, Nat.reduceLT, Nat.reduceLeDiff, Nat.reduceEqDiff, Nat.reduceBEq, Nat.reduceBNe, Nat.reduceGT, Int.reduceAdd, Int.reduceSub, Int.reduceMul, Int.reduceNeg, Int.reduceLT, Int.reduceLE, Int.reduceEq, Int.reduceNe, Int.reduceBEq, Int.reduceBNe, Int.reduceToNat, Int.reduceGT, Int.reduceGE, ↓reduceIte, decide_true, decide_false, Try.f93, outM]
  all_goals simp (disch := omega) only [wrap_in, and_self, true_and, and_true]

theorem lCheck_c (v : Vial) : PCalls Try.prog 18 [v.t] (.int .i64 (if v.ok then 0 else 30)) := by
  refine pcalls_by Try.mixes spL1_ok (fn := Try.f18) Try.func18 rfl (by kernel_rfl) (by show 1 ≤ _; decide) ?_
  simp (decide := true) (maxSteps := 4000000) only [go_sem, Nat.reduceAdd, Nat.reduceSub, Nat.reduceMul, Nat.reduceDiv, Nat.reduceMod, Nat.reduceLT, Nat.reduceLeDiff, Nat.reduceEqDiff, Nat.reduceBEq, Nat.reduceBNe, Nat.reduceGT, Int.reduceAdd, Int.reduceSub, Int.reduceMul, Int.reduceNeg, Int.reduceLT, Int.reduceLE, Int.reduceEq, Int.reduceNe, Int.reduceBEq, Int.reduceBNe, Int.reduceToNat, Int.reduceGT, Int.reduceGE, ↓reduceIte, decide_true, decide_false, Try.f18, Vial.t, Vial.cs]
  cases h1 : inB v.marks 10 200 with
  | false => simp (decide := true) (maxSteps := 4000000) only [go_sem, Nat.reduceAdd, Nat.reduceSub, Nat.reduceMul, Nat.reduceDiv, Nat.reduceMod, Nat.reduceLT, Nat.reduceLeDiff, Nat.reduceEqDiff, Nat.reduceBEq, Nat.reduceBNe, Nat.reduceGT, Int.reduceAdd, Int.reduceSub, Int.reduceMul, Int.reduceNeg, Int.reduceLT, Int.reduceLE, Int.reduceEq, Int.reduceNe, Int.reduceBEq, Int.reduceBNe, Int.reduceToNat, Int.reduceGT, Int.reduceGE, ↓reduceIte, decide_true, decide_false, h1, Vial.ok]
  | true =>
    have h1' := inB_iff.1 h1
    have e : IntKind.i64.wrap (2 * v.marks) = 2 * v.marks := wrap_in (by omega) (by omega)
    cases h2 : spannedB ⟨v.l0, v.l1⟩ 1 v.marks <;> cases h3 : spannedB ⟨v.v0, v.v1⟩ 1 500 <;> cases h4 : spannedB ⟨v.z0, v.z1⟩ 0 (2 * v.marks) <;> cases h5 : inB v.wr 0 8 <;> simp (decide := true) (maxSteps := 4000000) only [go_sem, Nat.reduceAdd, Nat.reduceSub, Nat.reduceMul, Nat.reduceDiv, Nat.reduceMod, Nat.reduceLT, Nat.reduceLeDiff, Nat.reduceEqDiff, Nat.reduceBEq, Nat.reduceBNe, Nat.reduceGT, Int.reduceAdd, Int.reduceSub, Int.reduceMul, Int.reduceNeg, Int.reduceLT, Int.reduceLE, Int.reduceEq, Int.reduceNe, Int.reduceBEq, Int.reduceBNe, Int.reduceToNat, Int.reduceGT, Int.reduceGE, ↓reduceIte, decide_true, decide_false, h1, h2, h3, h4, h5, e, Vial.ok]
noncomputable def glCheck : List TV → Option TV
  | [.agg [.int .i64 m, .int .i64 a, .int .i64 b, .int .i64 c, .int .i64 d, .int .i64 e, .int .i64 f, .int .i64 g]] => some (.int .i64 (if Vial.ok ⟨m, a, b, c, d, e, f, g⟩ then 0 else 30))
  | _ => none
theorem glCheck_ok : ∀ xs r, glCheck xs = some r → PCalls Try.prog 18 xs r := by
  intro xs r h
  unfold glCheck at h
  split at h
  · cases h; exact lCheck_c ⟨_, _, _, _, _, _, _, _⟩
  · cases h
attribute [go_sem] glCheck
noncomputable def glBounds (xs : List TV) : Option TV := match xs with
  | [.agg [.int .i64 m, .fn 73 [] []], .int .i64 z, .int .i64 w] => if inB m 0 400 = true ∧ (0 ≤ z ∧ z ≤ 400) ∧ (0 ≤ w ∧ w ≤ 8) then some (.agg [.int .i64 (m - z - w), .int .i64 (m - z + w)]) else none
  | [.agg [.int .i64 m, .fn 74 [] []], .int .i64 z, .int .i64 w] => if inB m 0 400 = true ∧ (0 ≤ z ∧ z ≤ 400) ∧ (0 ≤ w ∧ w ≤ 8) then some (.agg [.int .i64 (z - m - w), .int .i64 (z - m + w)]) else none
  | _ => none
theorem glBounds_ok : ∀ xs r, glBounds xs = some r → PCalls Try.prog 93 xs r := by
  intro xs r h
  unfold glBounds at h
  split at h
  · split at h
    · rename_i hc; cases h; exact lBounds_c ⟨_, false⟩ _ _ hc.1 hc.2.1 hc.2.2
    · cases h
  · split at h
    · rename_i hc; cases h; exact lBounds_c ⟨_, true⟩ _ _ hc.1 hc.2.1 hc.2.2
    · cases h
  · cases h
attribute [go_sem] glBounds
noncomputable def spL2 : Pm.Spec := (spL1.one 18 glCheck).one 93 glBounds
@[go_sem] theorem spL2_p (f : FuncId) (xs : List TV) : spL2.p f xs = Pm.Spec.p ((spL1.one 18 glCheck).one 93 glBounds) f xs := rfl
@[go_sem] theorem spL2_h (f : FuncId) (ps : List PV) (hl : List PO) : spL2.h f ps hl = Pm.Spec.h ((spL1.one 18 glCheck).one 93 glBounds) f ps hl := rfl
@[go_sem] theorem spL2_fz (f : FuncId) : spL2.fz f = Pm.Spec.fz ((spL1.one 18 glCheck).one 93 glBounds) f := rfl
@[go_sem] theorem spL2_fr (f : FuncId) : spL2.fr f = Pm.Spec.fr ((spL1.one 18 glCheck).one 93 glBounds) f := rfl
@[go_sem] theorem spL2_mu (t : TypeId) : spL2.mu t = Pm.Spec.mu ((spL1.one 18 glCheck).one 93 glBounds) t := rfl
theorem spL2_ok : SpecOk Try.prog spL2 := Spec.one_ok glBounds_ok (Spec.one_ok glCheck_ok spL1_ok)
end Go.Proofs.Ytgofljmnlfnlnaa

/- Part Lw. -/
namespace Go.Proofs.Ytgofljmnlfnlnaa
open Go.RowKit Go.Pm Go.Oc
set_option maxRecDepth 100000
set_option linter.unusedVariables false
set_option maxHeartbeats 1000000

def midW (r : Rd) : Mk := ⟨IntKind.i64.wrap (r.left + r.right), r.turned⟩
theorem rdsOk_mem {v : Vial} {l : List Rd} (h : rdsOk v l = true) {r : Rd} (hr : r ∈ l) : 0 ≤ r.left ∧ r.left < r.right ∧ r.right ≤ v.marks ∧ v.l0 - v.wr ≤ r.right - r.left ∧ r.right - r.left ≤ v.l1 + v.wr := by
  simp only [rdsOk, Bool.and_eq_true, List.all_eq_true] at h
  have := h.2 r hr
  simp only [rdOk, inB, Bool.and_eq_true, decide_eq_true_eq] at this
  omega
theorem rdP_eq {v : Vial} (hv : (10 ≤ v.marks ∧ v.marks ≤ 200) ∧ (1 ≤ v.l0 ∧ v.l0 ≤ v.l1 ∧ v.l1 ≤ v.marks) ∧ (1 ≤ v.v0 ∧ v.v0 ≤ v.v1 ∧ v.v1 ≤ 500) ∧ (0 ≤ v.z0 ∧ v.z0 ≤ v.z1 ∧ v.z1 ≤ 2 * v.marks) ∧ 0 ≤ v.wr ∧ v.wr ≤ 8) (x : Rd) :
    (decide (x.left ≥ 0) && decide (x.right > x.left) && decide (x.right ≤ v.marks) && inB (IntKind.i64.wrap (x.right - x.left)) (v.l0 - v.wr) (v.l1 + v.wr)) = rdOk v x := by
  unfold rdOk
  by_cases h1 : 0 ≤ x.left ∧ x.left < x.right ∧ x.right ≤ v.marks
  · rw [wrap_in (by omega) (by omega)]
    have a1 : x.left ≥ 0 := h1.1
    have a2 : x.right > x.left := h1.2.1
    have a3 : inB x.left 0 v.marks = true := inB_iff.2 (by omega)
    have a4 : inB x.right (x.left + 1) v.marks = true := inB_iff.2 (by omega)
    simp [a1, a2, h1.2.2, a3, a4]
  · have h2 : (decide (x.left ≥ 0) && decide (x.right > x.left) && decide (x.right ≤ v.marks)) = false := by
      rw [← Bool.not_eq_true]
      simp only [Bool.and_eq_true, decide_eq_true_eq]
      omega
    have h3 : (inB x.left 0 v.marks && inB x.right (x.left + 1) v.marks) = false := by
      rw [← Bool.not_eq_true]
      simp only [Bool.and_eq_true, inB_iff]
      omega
    rw [h2, h3]; rfl
theorem lOpened_c (v : Vial) {l : List Rd} (full : Bool) (hv : v.ok = true) (hl : l.length ≤ 5864062014806) : PCalls Try.prog 47 [v.t, .sl (l.flatMap Rd.cs) l.length full] (if rdsOk v l = true then .tup [v.t, .sl ((l.map mid).flatMap Mk.als) l.length false, .int .i64 0] else .tup [v.t, .nilSl, .int .i64 31]) := by
  have hv' := Vial.ok_iff.1 hv
  refine pcalls_by Try.mixes spL2_ok (fn := Try.f47) Try.func47 rfl (by kernel_rfl) (by show 2 ≤ _; decide) ?_
  simp (decide := true) (maxSteps := 4000000) only [go_sem, Nat.reduceAdd, Nat.reduceSub, Nat.reduceMul, Nat.reduceDiv, Nat.reduceMod, Nat.reduceLT, Nat.reduceLeDiff, Nat.reduceEqDiff, Nat.reduceBEq, Nat.reduceBNe, Nat.reduceGT, Int.reduceAdd, Int.reduceSub, Int.reduceMul, Int.reduceNeg, Int.reduceLT, Int.reduceLE, Int.reduceEq, Int.reduceNe, Int.reduceBEq, Int.reduceBNe, Int.reduceToNat, Int.reduceGT, Int.reduceGE, ↓reduceIte, decide_true, decide_false, Try.f47, Vial.t, Vial.cs, hv]
  refine pwpC_loop (A := { k : Nat // k ≤ l.length }) (fun k => { env := [(24, .t (.int .i64 k.1)), (23, .t (.int .i64 l.length)), (22, .t (.sl (l.flatMap Rd.cs) l.length full)), (8, .t (.bool (inB l.length 1 8 && (l.take k.1).all (rdOk v)))), (5, .own (((l.take k.1).map midW).flatMap Mk.als) k.1 2), (4, .ptr 1 0), (2, .ptr 0 0)], heap := [.box (v.cs.map .t), .box (v.cs.map .t), .tok k.1 82] }) (fun k => l.length - k.1) ⟨0, by omega⟩ ?_ (fun k => by rfl) fun ⟨k, hk⟩ => ?_
  · simp (decide := true) (maxSteps := 4000000) only [go_sem, Nat.reduceAdd, Nat.reduceSub, Nat.reduceMul, Nat.reduceDiv, Nat.reduceMod, Nat.reduceLT, Nat.reduceLeDiff, Nat.reduceEqDiff, Nat.reduceBEq, Nat.reduceBNe, Nat.reduceGT, Int.reduceAdd, Int.reduceSub, Int.reduceMul, Int.reduceNeg, Int.reduceLT, Int.reduceLE, Int.reduceEq, Int.reduceNe, Int.reduceBEq, Int.reduceBNe, Int.reduceToNat, Int.reduceGT, Int.reduceGE, ↓reduceIte, decide_true, decide_false, Vial.cs]
  · by_cases hlt : (k : Int) < l.length
    · obtain ⟨x, hx⟩ := get_lt hlt
      have hd := flat_at Rd.cs (n := 3) (fun _ => rfl) hx
      have hc : (List.flatMap Mk.als (List.map midW (List.take k l))).length = k * 1 := by rw [flat_len Mk.als (n := 1) (fun _ => rfl)]; simp; omega
      have hr : (k + 1) * 16 ≤ 140737488355328 := by omega
      have hk1 : IntKind.i64.wrap (k + 1) = ((k + 1 : Nat) : Int) := by rw [wrap_in (by omega) (by omega)]; omega
      have ht : (List.take (k + 1) l).map midW = (List.take k l).map midW ++ [midW x] := by rw [take_snoc hx]; simp
      have e1 : IntKind.i64.wrap (v.l0 - v.wr) = v.l0 - v.wr := wrap_in (by omega) (by omega)
      have e2 : IntKind.i64.wrap (v.l1 + v.wr) = v.l1 + v.wr := wrap_in (by omega) (by omega)
      simp (decide := true) (maxSteps := 4000000) only [go_sem, Nat.reduceAdd, Nat.reduceSub, Nat.reduceMul, Nat.reduceDiv, Nat.reduceMod, Nat.reduceLT, Nat.reduceLeDiff, Nat.reduceEqDiff, Nat.reduceBEq, Nat.reduceBNe, Nat.reduceGT, Int.reduceAdd, Int.reduceSub, Int.reduceMul, Int.reduceNeg, Int.reduceLT, Int.reduceLE, Int.reduceEq, Int.reduceNe, Int.reduceBEq, Int.reduceBNe, Int.reduceToNat, Int.reduceGT, Int.reduceGE, ↓reduceIte, decide_true, decide_false, hlt, hd, Rd.cs, Vial.cs, hc, hr]
      refine ⟨⟨k + 1, by omega⟩, ?_⟩
      simp (decide := true) (maxSteps := 4000000) only [go_sem, Nat.reduceAdd, Nat.reduceSub, Nat.reduceMul, Nat.reduceDiv, Nat.reduceMod, Nat.reduceLT, Nat.reduceLeDiff, Nat.reduceEqDiff, Nat.reduceBEq, Nat.reduceBNe, Nat.reduceGT, Int.reduceAdd, Int.reduceSub, Int.reduceMul, Int.reduceNeg, Int.reduceLT, Int.reduceLE, Int.reduceEq, Int.reduceNe, Int.reduceBEq, Int.reduceBNe, Int.reduceToNat, Int.reduceGT, Int.reduceGE, ↓reduceIte, decide_true, decide_false, hk1, ht, List.flatMap_append, Mk.als, Mk.al, midW, e1, e2]
      refine ⟨?_, by omega⟩
      rw [take_all _ hx, ← Bool.and_assoc]
      cases (inB l.length 1 8 && (l.take k).all (rdOk v))
      · simp
      · simp only [Bool.true_and]; exact rdP_eq hv' x
    · have hkl : k = l.length := by omega
      subst hkl
      have hrd : rdsOk v l = (inB l.length 1 8 && (l.take l.length).all (rdOk v)) := by rw [List.take_length]; rfl
      cases hr : rdsOk v l with
      | true =>
        rw [hr] at hrd
        have h8 := rdsOk_len hr
        have h0 : ¬ l.length = 0 := by omega
        have hmm : (l.take l.length).map midW = l.map mid := by
          rw [List.take_length]
          refine List.map_congr_left fun r hr' => ?_
          have := rdsOk_mem hr hr'
          unfold midW mid
          rw [wrap_in (by omega) (by omega)]
        simp (decide := true) (maxSteps := 4000000) only [go_sem, Nat.reduceAdd, Nat.reduceSub, Nat.reduceMul, Nat.reduceDiv, Nat.reduceMod, Nat.reduceLT, Nat.reduceLeDiff, Nat.reduceEqDiff, Nat.reduceBEq, Nat.reduceBNe, Nat.reduceGT, Int.reduceAdd, Int.reduceSub, Int.reduceMul, Int.reduceNeg, Int.reduceLT, Int.reduceLE, Int.reduceEq, Int.reduceNe, Int.reduceBEq, Int.reduceBNe, Int.reduceToNat, Int.reduceGT, Int.reduceGE, ↓reduceIte, decide_true, decide_false, hlt, ← hrd, Vial.cs, h0, hmm]
      | false =>
        rw [hr] at hrd
        simp (decide := true) (maxSteps := 4000000) only [go_sem, Nat.reduceAdd, Nat.reduceSub, Nat.reduceMul, Nat.reduceDiv, Nat.reduceMod, Nat.reduceLT, Nat.reduceLeDiff, Nat.reduceEqDiff, Nat.reduceBEq, Nat.reduceBNe, Nat.reduceGT, Int.reduceAdd, Int.reduceSub, Int.reduceMul, Int.reduceNeg, Int.reduceLT, Int.reduceLE, Int.reduceEq, Int.reduceNe, Int.reduceBEq, Int.reduceBNe, Int.reduceToNat, Int.reduceGT, Int.reduceGE, ↓reduceIte, decide_true, decide_false, hlt, ← hrd, Vial.cs]
theorem lOpened_v (v : Vial) {l : List Rd} {s : TV} (hs : IsRow Rd.cs s l) (hv : v.ok = false) : PCalls Try.prog 47 [v.t, s] (.tup [(Vial.t ⟨0, 0, 0, 0, 0, 0, 0, 0⟩), .nilSl, .int .i64 30]) := by
  refine pcalls_by Try.mixes spL2_ok (fn := Try.f47) Try.func47 rfl (by kernel_rfl) (by show 2 ≤ _; decide) ?_
  rcases hs with ⟨rfl, rfl⟩ | ⟨full, rfl⟩ <;> simp (decide := true) (maxSteps := 4000000) only [go_sem, Nat.reduceAdd, Nat.reduceSub, Nat.reduceMul, Nat.reduceDiv, Nat.reduceMod, Nat.reduceLT, Nat.reduceLeDiff, Nat.reduceEqDiff, Nat.reduceBEq, Nat.reduceBNe, Nat.reduceGT, Int.reduceAdd, Int.reduceSub, Int.reduceMul, Int.reduceNeg, Int.reduceLT, Int.reduceLE, Int.reduceEq, Int.reduceNe, Int.reduceBEq, Int.reduceBNe, Int.reduceToNat, Int.reduceGT, Int.reduceGE, ↓reduceIte, decide_true, decide_false, Try.f47, Vial.t, Vial.cs, hv]
theorem lOpened_n (v : Vial) (hv : v.ok = true) : PCalls Try.prog 47 [v.t, .nilSl] (.tup [v.t, .nilSl, .int .i64 31]) := by
  refine pcalls_by Try.mixes spL2_ok (fn := Try.f47) Try.func47 rfl (by kernel_rfl) (by show 2 ≤ _; decide) ?_
  simp (decide := true) (maxSteps := 4000000) only [go_sem, Nat.reduceAdd, Nat.reduceSub, Nat.reduceMul, Nat.reduceDiv, Nat.reduceMod, Nat.reduceLT, Nat.reduceLeDiff, Nat.reduceEqDiff, Nat.reduceBEq, Nat.reduceBNe, Nat.reduceGT, Int.reduceAdd, Int.reduceSub, Int.reduceMul, Int.reduceNeg, Int.reduceLT, Int.reduceLE, Int.reduceEq, Int.reduceNe, Int.reduceBEq, Int.reduceBNe, Int.reduceToNat, Int.reduceGT, Int.reduceGE, ↓reduceIte, decide_true, decide_false, Try.f47, Vial.t, Vial.cs, hv]
  refine pwpC_loop (A := Unit) (fun k => { env := [(24, .t (.int .i64 0)), (23, .t (.int .i64 0)), (8, .t (.bool false)), (4, .ptr 1 0), (2, .ptr 0 0)], heap := [.box (v.cs.map .t), .box (v.cs.map .t)] }) (fun _ => 0) () ?_ (fun k => by rfl) fun _ => ?_
  · simp (decide := true) (maxSteps := 4000000) only [go_sem, Nat.reduceAdd, Nat.reduceSub, Nat.reduceMul, Nat.reduceDiv, Nat.reduceMod, Nat.reduceLT, Nat.reduceLeDiff, Nat.reduceEqDiff, Nat.reduceBEq, Nat.reduceBNe, Nat.reduceGT, Int.reduceAdd, Int.reduceSub, Int.reduceMul, Int.reduceNeg, Int.reduceLT, Int.reduceLE, Int.reduceEq, Int.reduceNe, Int.reduceBEq, Int.reduceBNe, Int.reduceToNat, Int.reduceGT, Int.reduceGE, ↓reduceIte, decide_true, decide_false, Vial.cs, inB]
  · simp (decide := true) (maxSteps := 4000000) only [go_sem, Nat.reduceAdd, Nat.reduceSub, Nat.reduceMul, Nat.reduceDiv, Nat.reduceMod, Nat.reduceLT, Nat.reduceLeDiff, Nat.reduceEqDiff, Nat.reduceBEq, Nat.reduceBNe, Nat.reduceGT, Int.reduceAdd, Int.reduceSub, Int.reduceMul, Int.reduceNeg, Int.reduceLT, Int.reduceLE, Int.reduceEq, Int.reduceNe, Int.reduceBEq, Int.reduceBNe, Int.reduceToNat, Int.reduceGT, Int.reduceGE, ↓reduceIte, decide_true, decide_false, Vial.cs]
def openedT (v : Vial) (l : List Rd) : TV := if v.ok = false then .tup [(Vial.t ⟨0, 0, 0, 0, 0, 0, 0, 0⟩), .nilSl, .int .i64 30] else if rdsOk v l = true then .tup [v.t, .sl ((l.map mid).flatMap Mk.als) l.length false, .int .i64 0] else .tup [v.t, .nilSl, .int .i64 31]
theorem lOpened_d (v : Vial) {l : List Rd} {s : TV} (hs : IsRow Rd.cs s l) (hl : l.length ≤ 5864062014806) : PCalls Try.prog 47 [v.t, s] (openedT v l) := by
  unfold openedT
  cases hv : v.ok with
  | false => exact lOpened_v v hs hv
  | true =>
    rw [if_neg (by simp)]
    rcases hs with ⟨rfl, rfl⟩ | ⟨full, rfl⟩
    · exact lOpened_n v hv
    · exact lOpened_c v full hv hl
noncomputable def glOpened : List TV → Option TV
  | [.agg [.int .i64 m, .int .i64 a, .int .i64 b, .int .i64 c, .int .i64 d, .int .i64 e, .int .i64 f, .int .i64 g], s] => match rowL unRds s with
    | some l => if l.length ≤ 5864062014806 then some (openedT ⟨m, a, b, c, d, e, f, g⟩ l) else none
    | none => none
  | _ => none
theorem glOpened_ok : ∀ xs r, glOpened xs = some r → PCalls Try.prog 47 xs r := by
  intro xs r h
  unfold glOpened at h
  split at h
  · split at h
    · rename_i l hl
      have hl := rowL_some (un := unRds) rfl (@unRds_some) hl
      split at h
      · rename_i hc; cases h; exact lOpened_d ⟨_, _, _, _, _, _, _, _⟩ hl hc
      · cases h
    · cases h
  · cases h
attribute [go_sem] glOpened
noncomputable def spL3 : Pm.Spec := spL2.one 47 glOpened
@[go_sem] theorem spL3_p (f : FuncId) (xs : List TV) : spL3.p f xs = Pm.Spec.p (spL2.one 47 glOpened) f xs := rfl
@[go_sem] theorem spL3_h (f : FuncId) (ps : List PV) (hl : List PO) : spL3.h f ps hl = Pm.Spec.h (spL2.one 47 glOpened) f ps hl := rfl
@[go_sem] theorem spL3_fz (f : FuncId) : spL3.fz f = Pm.Spec.fz (spL2.one 47 glOpened) f := rfl
@[go_sem] theorem spL3_fr (f : FuncId) : spL3.fr f = Pm.Spec.fr (spL2.one 47 glOpened) f := rfl
@[go_sem] theorem spL3_mu (t : TypeId) : spL3.mu t = Pm.Spec.mu (spL2.one 47 glOpened) t := rfl
theorem spL3_ok : SpecOk Try.prog spL3 := Spec.one_ok glOpened_ok spL2_ok
end Go.Proofs.Ytgofljmnlfnlnaa

/- Part Lx. -/
namespace Go.Proofs.Ytgofljmnlfnlnaa
open Go.RowKit Go.Pm Go.Oc
set_option maxRecDepth 100000
set_option linter.unusedVariables false
set_option maxHeartbeats 1000000

theorem lEnds_c (a : Int) (l : List Int) (full : Bool) (hl : (l.length : Int) ≤ 1000000) : PCalls Try.prog 71 [.int .i64 a, .sl (ints l) l.length full] (.tup [.int .i64 (l.foldl min a), .int .i64 (l.foldl max a)]) := by
  refine pcalls_by Try.mixes noSpec_ok (fn := Try.f71) Try.func71 rfl (by kernel_rfl) (by show 2 ≤ _; decide) ?_
  simp (decide := true) (maxSteps := 4000000) only [go_sem, Nat.reduceAdd, Nat.reduceSub, Nat.reduceMul, Nat.reduceDiv, Nat.reduceMod, Nat.reduceLT, Nat.reduceLeDiff, Nat.reduceEqDiff, Nat.reduceBEq, Nat.reduceBNe, Nat.reduceGT, Int.reduceAdd, Int.reduceSub, Int.reduceMul, Int.reduceNeg, Int.reduceLT, Int.reduceLE, Int.reduceEq, Int.reduceNe, Int.reduceBEq, Int.reduceBNe, Int.reduceToNat, Int.reduceGT, Int.reduceGE, ↓reduceIte, decide_true, decide_false, Try.f71]
  refine pwpC_loop (A := { k : Nat // k ≤ l.length }) (fun k => { env := [(12, .t (.int .i64 k.1)), (11, .t (.int .i64 l.length)), (10, .t (.sl (ints l) l.length full)), (4, .t (.int .i64 ((l.take k.1).foldl min a))), (5, .t (.int .i64 ((l.take k.1).foldl max a)))], heap := [] }) (fun k => l.length - k.1) ⟨0, by omega⟩ ?_ (fun k => by rfl) fun ⟨k, hk⟩ => ?_
  · simp (decide := true) (maxSteps := 4000000) only [go_sem, Nat.reduceAdd, Nat.reduceSub, Nat.reduceMul, Nat.reduceDiv, Nat.reduceMod, Nat.reduceLT, Nat.reduceLeDiff, Nat.reduceEqDiff, Nat.reduceBEq, Nat.reduceBNe, Nat.reduceGT, Int.reduceAdd, Int.reduceSub, Int.reduceMul, Int.reduceNeg, Int.reduceLT, Int.reduceLE, Int.reduceEq, Int.reduceNe, Int.reduceBEq, Int.reduceBNe, Int.reduceToNat, Int.reduceGT, Int.reduceGE, ↓reduceIte, decide_true, decide_false]
  · by_cases hlt : (k : Int) < l.length
    · obtain ⟨x, hx⟩ := get_lt hlt
      have hk1 : IntKind.i64.wrap (k + 1) = ((k + 1 : Nat) : Int) := by rw [wrap_in (by omega) (by omega)]; omega
      simp (decide := true) (maxSteps := 4000000) only [go_sem, Nat.reduceAdd, Nat.reduceSub, Nat.reduceMul, Nat.reduceDiv, Nat.reduceMod, Nat.reduceLT, Nat.reduceLeDiff, Nat.reduceEqDiff, Nat.reduceBEq, Nat.reduceBNe, Nat.reduceGT, Int.reduceAdd, Int.reduceSub, Int.reduceMul, Int.reduceNeg, Int.reduceLT, Int.reduceLE, Int.reduceEq, Int.reduceNe, Int.reduceBEq, Int.reduceBNe, Int.reduceToNat, Int.reduceGT, Int.reduceGE, ↓reduceIte, decide_true, decide_false, hlt, ints_at hx]
      refine ⟨⟨k + 1, by omega⟩, ?_⟩
      simp (decide := true) (maxSteps := 4000000) only [go_sem, Nat.reduceAdd, Nat.reduceSub, Nat.reduceMul, Nat.reduceDiv, Nat.reduceMod, Nat.reduceLT, Nat.reduceLeDiff, Nat.reduceEqDiff, Nat.reduceBEq, Nat.reduceBNe, Nat.reduceGT, Int.reduceAdd, Int.reduceSub, Int.reduceMul, Int.reduceNeg, Int.reduceLT, Int.reduceLE, Int.reduceEq, Int.reduceNe, Int.reduceBEq, Int.reduceBNe, Int.reduceToNat, Int.reduceGT, Int.reduceGE, ↓reduceIte, decide_true, decide_false, hk1, take_snoc hx, List.foldl_append]
      omega
    · have hkl : k = l.length := by omega
      subst hkl
      simp (decide := true) (maxSteps := 4000000) only [go_sem, Nat.reduceAdd, Nat.reduceSub, Nat.reduceMul, Nat.reduceDiv, Nat.reduceMod, Nat.reduceLT, Nat.reduceLeDiff, Nat.reduceEqDiff, Nat.reduceBEq, Nat.reduceBNe, Nat.reduceGT, Int.reduceAdd, Int.reduceSub, Int.reduceMul, Int.reduceNeg, Int.reduceLT, Int.reduceLE, Int.reduceEq, Int.reduceNe, Int.reduceBEq, Int.reduceBNe, Int.reduceToNat, Int.reduceGT, Int.reduceGE, ↓reduceIte, decide_true, decide_false, hlt, List.take_length]
def spF : Pm.Spec := { noSpec with fz := fun _ => true }
theorem spF_ok : SpecOk Try.prog spF := ⟨fun f xs r h => (by cases h), fun f xs hl v hl' h => (by cases h)⟩
@[go_sem] theorem spF_p (f : FuncId) (xs : List TV) : spF.p f xs = Pm.Spec.p ({ noSpec with fz := fun _ => true }) f xs := rfl
@[go_sem] theorem spF_h (f : FuncId) (ps : List PV) (hl : List PO) : spF.h f ps hl = Pm.Spec.h ({ noSpec with fz := fun _ => true }) f ps hl := rfl
@[go_sem] theorem spF_fz (f : FuncId) : spF.fz f = Pm.Spec.fz ({ noSpec with fz := fun _ => true }) f := rfl
@[go_sem] theorem spF_fr (f : FuncId) : spF.fr f = Pm.Spec.fr ({ noSpec with fz := fun _ => true }) f := rfl
@[go_sem] theorem spF_mu (t : TypeId) : spF.mu t = Pm.Spec.mu ({ noSpec with fz := fun _ => true }) t := rfl
theorem lZeros_c (v : Vial) (s : TV) (hs : ∃ cs n full, s = .sl cs n full) : PCalls Try.prog 70 [v.t, s] (.fn 77 [] [.cptr v.cs, .cptr [s]]) := by
  refine pcalls_by Try.mixes spF_ok (fn := Try.f70) Try.func70 rfl (by kernel_rfl) (by show 2 ≤ _; decide) ?_
  obtain ⟨cs, n, full, rfl⟩ := hs
  simp (decide := true) (maxSteps := 4000000) only [go_sem, Nat.reduceAdd, Nat.reduceSub, Nat.reduceMul, Nat.reduceDiv, Nat.reduceMod, Nat.reduceLT, Nat.reduceLeDiff, Nat.reduceEqDiff, Nat.reduceBEq, Nat.reduceBNe, Nat.reduceGT, Int.reduceAdd, Int.reduceSub, Int.reduceMul, Int.reduceNeg, Int.reduceLT, Int.reduceLE, Int.reduceEq, Int.reduceNe, Int.reduceBEq, Int.reduceBNe, Int.reduceToNat, Int.reduceGT, Int.reduceGE, ↓reduceIte, decide_true, decide_false, Try.f70, Vial.t, Vial.cs]
end Go.Proofs.Ytgofljmnlfnlnaa

/- Part Ly. -/
namespace Go.Oc
open Go Go.Pm

theorem fold_le {w z : Int} : ∀ (l : List Mk) (s : Span), s.lo ≤ (l.foldl (inS w z) s).lo ∧ (l.foldl (inS w z) s).hi ≤ s.hi
  | [], s => ⟨Int.le_refl _, Int.le_refl _⟩
  | m :: l, s => by
    have := fold_le (w := w) (z := z) l (inS w z s m)
    simp only [List.foldl_cons]
    have h1 : s.lo ≤ (inS w z s m).lo := by simp only [inS]; omega
    have h2 : (inS w z s m).hi ≤ s.hi := by simp only [inS]; omega
    omega
theorem withinS_take {w z : Int} (l : List Mk) (i : Nat) : (withinS w (l.take i) z).lo ≤ (withinS w l z).lo ∧ (withinS w l z).hi ≤ (withinS w (l.take i) z).hi := by
  have := fold_le (w := w) (z := z) (l.drop i) (withinS w (l.take i) z)
  have e : withinS w l z = (l.drop i).foldl (inS w z) (withinS w (l.take i) z) := by
    unfold withinS; rw [← List.foldl_append, List.take_append_drop]
  rw [e]; exact this
theorem withinS_snoc {w z : Int} {l : List Mk} {i : Nat} {x : Mk} (h : l[i]? = some x) : withinS w (l.take (i + 1)) z = inS w z (withinS w (l.take i) z) x := by
  unfold withinS; rw [take_snoc h, List.foldl_append]; rfl
/-- How many zeros so far can be. -/
def cz (v : Vial) (l : List Mk) (k : Nat) : Nat := (zerosOf v l (range v.z0 k)).length
theorem cz_zero (v : Vial) (l : List Mk) : cz v l 0 = 0 := rfl
theorem cz_out {v : Vial} {l : List Mk} {k : Nat} (h : ¬ (withinS v.wr l (v.z0 + k)).lo ≤ (withinS v.wr l (v.z0 + k)).hi) : cz v l (k + 1) = cz v l k := by
  unfold cz; rw [range_succ, zerosOf_snoc, foundZ, if_neg h, List.append_nil]
theorem cz_in {v : Vial} {l : List Mk} {k : Nat} (h : (withinS v.wr l (v.z0 + k)).lo ≤ (withinS v.wr l (v.z0 + k)).hi) : cz v l (k + 1) = cz v l k + 1 := by
  unfold cz; rw [range_succ, zerosOf_snoc, foundZ, if_pos h]; simp
theorem range_take (a : Int) (n k : Nat) (h : k ≤ n) : ∃ r, range a n = range a k ++ r := by
  refine ⟨(range a n).drop k, ?_⟩
  have e : range a k = (range a n).take k := by
    unfold range; rw [← List.map_take, List.take_range, Nat.min_eq_left h]
  rw [e, List.take_append_drop]
theorem zerosOf_append (v : Vial) (l : List Mk) (a b : List Int) : zerosOf v l (a ++ b) = zerosOf v l a ++ zerosOf v l b := by
  unfold zerosOf; rw [List.filterMap_append]
theorem zerosOf_at {v : Vial} {l : List Mk} {k : Nat} (h : (withinS v.wr l (v.z0 + k)).lo ≤ (withinS v.wr l (v.z0 + k)).hi) (hk : k < (v.z1 - v.z0 + 1).toNat) :
    (zerosOf v l (allZ v))[cz v l k]? = some (v.z0 + k, withinS v.wr l (v.z0 + k)) := by
  obtain ⟨r, hr⟩ := range_take v.z0 (v.z1 - v.z0 + 1).toNat (k + 1) (by omega)
  unfold allZ
  rw [hr, range_succ, zerosOf_append, zerosOf_snoc, foundZ, if_pos h, List.append_assoc]
  unfold cz
  simp
theorem cz_le {v : Vial} {l : List Mk} {k : Nat} (hk : k ≤ (v.z1 - v.z0 + 1).toNat) : cz v l k ≤ (zerosOf v l (allZ v)).length := by
  obtain ⟨r, hr⟩ := range_take v.z0 (v.z1 - v.z0 + 1).toNat k hk
  unfold allZ cz
  rw [hr, zerosOf_append]; simp
theorem cz_all (v : Vial) (l : List Mk) : cz v l (v.z1 - v.z0 + 1).toNat = (zerosOf v l (allZ v)).length := rfl
/-- What is known of the tilt behind so many readings. -/
def pS (w z : Int) (l : List Mk) (i : Nat) : Span := if i = 0 then ⟨0, 0⟩ else withinS w (l.take i) z
theorem pS_one {w z : Int} {l : List Mk} {x : Mk} (hw : 0 ≤ w ∧ w ≤ 8) (hz : 0 ≤ z ∧ z ≤ 400) (hx : 0 ≤ x.at' ∧ x.at' ≤ 400) (h : l[0]? = some x) : withinS w (l.take 1) z = ⟨outM x z - w, outM x z + w⟩ := by
  rw [withinS_snoc h]
  simp only [List.take_zero, withinS, List.foldl_nil, inS, Span.mk.injEq]
  simp only [outM]
  split <;> omega
end Go.Oc

/- Part Lz. -/
namespace Go.Proofs.Ytgofljmnlfnlnaa
open Go.RowKit Go.Pm Go.Oc
set_option maxRecDepth 100000
set_option linter.unusedVariables false
set_option maxHeartbeats 1000000

def zs (v : Vial) (l : List Mk) : List (List TV) := (zerosOf v l (allZ v)).map fun y => [.int .i64 y.1, y.2.t]
noncomputable def mth_boundsL := PLift.up (mth_of (P := Try.prog) (t := 98) (f := 93) (l := nameAt Try.f77 0) rfl (by kernel_rfl))
theorem mth_bounds : type_of% mth_boundsL.down := mth_boundsL.down
attribute [go_sem] mth_bounds
theorem zs_at {v : Vial} {l : List Mk} {k : Nat} (h : (withinS v.wr l (v.z0 + k)).lo ≤ (withinS v.wr l (v.z0 + k)).hi) (hk : k < (v.z1 - v.z0 + 1).toNat) :
    (zs v l)[cz v l k]? = some [.int .i64 (v.z0 + k), .agg [.int .i64 (withinS v.wr l (v.z0 + k)).lo, .int .i64 (withinS v.wr l (v.z0 + k)).hi]] := by
  unfold zs; rw [List.getElem?_map, zerosOf_at h hk]; rfl
theorem lZeros1_c (v : Vial) (l : List Mk) (full : Bool) (h1 : 1 ≤ l.length) (hv : v.ok = true) (hm : mksOk l = true) (hl : l.length ≤ 100) :
    Iter Try.prog 77 [] [.cptr v.cs, .cptr [.sl (l.flatMap Mk.als) l.length full]] (zs v l) := by
  refine iter_by Try.mixes spL3_ok (fn := Try.f77) Try.func77 rfl (by kernel_rfl) rfl (by show 3 ≤ _; decide) ?_
  intro y m stop hm1 hm2 hm3
  have hv' := Vial.ok_iff.1 hv
  have hzl : (zs v l).length = (zerosOf v l (allZ v)).length := by simp [zs]
  simp (decide := true) (maxSteps := 4000000) only [go_sem, Nat.reduceAdd, Nat.reduceSub, Nat.reduceMul, Nat.reduceDiv, Nat.reduceMod, Nat.reduceLT, Nat.reduceLeDiff, Nat.reduceEqDiff, Nat.reduceBEq, Nat.reduceBNe, Nat.reduceGT, Int.reduceAdd, Int.reduceSub, Int.reduceMul, Int.reduceNeg, Int.reduceLT, Int.reduceLE, Int.reduceEq, Int.reduceNe, Int.reduceBEq, Int.reduceBNe, Int.reduceToNat, Int.reduceGT, Int.reduceGE, ↓reduceIte, decide_true, decide_false, Try.f77, Vial.cs]
  refine pwpC_loop (A := { k : Nat // k ≤ (v.z1 - v.z0 + 1).toNat ∧ (stop = true → cz v l k < m) }) (fun k => { env := [(4, .t (.int .i64 (v.z0 + k.1))), (0, .yld y), (1, .t (.cptr v.cs)), (2, .t (.cptr [.sl (l.flatMap Mk.als) l.length full]))], heap := [.cnt (cz v l k.1)] }) (fun k => (v.z1 - v.z0 + 1).toNat - k.1) ⟨0, by omega, fun h => by rw [cz_zero]; exact hm3 h⟩ ?_ (fun k => by rfl) fun ⟨k, hk, hst⟩ => ?_
  · simp (decide := true) (maxSteps := 4000000) only [go_sem, Nat.reduceAdd, Nat.reduceSub, Nat.reduceMul, Nat.reduceDiv, Nat.reduceMod, Nat.reduceLT, Nat.reduceLeDiff, Nat.reduceEqDiff, Nat.reduceBEq, Nat.reduceBNe, Nat.reduceGT, Int.reduceAdd, Int.reduceSub, Int.reduceMul, Int.reduceNeg, Int.reduceLT, Int.reduceLE, Int.reduceEq, Int.reduceNe, Int.reduceBEq, Int.reduceBNe, Int.reduceToNat, Int.reduceGT, Int.reduceGE, ↓reduceIte, decide_true, decide_false, Vial.cs, cz_zero]
    omega
  · by_cases hlt : v.z0 + k ≤ v.z1
    · have hz : 0 ≤ v.z0 + (k : Int) ∧ v.z0 + (k : Int) ≤ 400 := by omega
      have hw : 0 ≤ v.wr ∧ v.wr ≤ 8 := hv'.2.2.2.2
      have hkN : k < (v.z1 - v.z0 + 1).toNat := by omega
      have hz1 : IntKind.i64.wrap (v.z0 + k + 1) = v.z0 + ((k + 1 : Nat) : Int) := by rw [wrap_in (by omega) (by omega)]; omega
      simp (decide := true) (maxSteps := 4000000) only [go_sem, Nat.reduceAdd, Nat.reduceSub, Nat.reduceMul, Nat.reduceDiv, Nat.reduceMod, Nat.reduceLT, Nat.reduceLeDiff, Nat.reduceEqDiff, Nat.reduceBEq, Nat.reduceBNe, Nat.reduceGT, Int.reduceAdd, Int.reduceSub, Int.reduceMul, Int.reduceNeg, Int.reduceLT, Int.reduceLE, Int.reduceEq, Int.reduceNe, Int.reduceBEq, Int.reduceBNe, Int.reduceToNat, Int.reduceGT, Int.reduceGE, ↓reduceIte, decide_true, decide_false, hlt, Vial.cs]
      refine pwpC_loop (A := { i : Nat // i ≤ l.length ∧ (0 < i → (pS v.wr (v.z0 + k) l i).lo ≤ (pS v.wr (v.z0 + k) l i).hi) }) (fun i => { env := [(23, .t (.int .i64 i.1)), (22, .t (.int .i64 l.length)), (21, .t (.sl (l.flatMap Mk.als) l.length full)), (5, .ptr 1 0), (4, .t (.int .i64 (v.z0 + k))), (0, .yld y), (1, .t (.cptr v.cs)), (2, .t (.cptr [.sl (l.flatMap Mk.als) l.length full]))], heap := [.cnt (cz v l k), .box [.t (.int .i64 (pS v.wr (v.z0 + k) l i.1).lo), .t (.int .i64 (pS v.wr (v.z0 + k) l i.1).hi)]] }) (fun i => l.length - i.1) ⟨0, by omega, by omega⟩ ?_ (fun _ => by rfl) fun ⟨i, hi, hle⟩ => ?_
      · simp (decide := true) (maxSteps := 4000000) only [go_sem, Nat.reduceAdd, Nat.reduceSub, Nat.reduceMul, Nat.reduceDiv, Nat.reduceMod, Nat.reduceLT, Nat.reduceLeDiff, Nat.reduceEqDiff, Nat.reduceBEq, Nat.reduceBNe, Nat.reduceGT, Int.reduceAdd, Int.reduceSub, Int.reduceMul, Int.reduceNeg, Int.reduceLT, Int.reduceLE, Int.reduceEq, Int.reduceNe, Int.reduceBEq, Int.reduceBNe, Int.reduceToNat, Int.reduceGT, Int.reduceGE, ↓reduceIte, decide_true, decide_false, Vial.cs, pS]
      · by_cases hil : (i : Int) < l.length
        · obtain ⟨x, hx⟩ := get_lt hil
          have hd := flat_at Mk.als (n := 1) (fun _ => rfl) hx
          have hxm : inB x.at' 0 400 = true := List.all_eq_true.1 hm x (List.mem_of_getElem? hx)
          have hxm' := inB_iff.1 hxm
          have hi1 : IntKind.i64.wrap (i + 1) = ((i + 1 : Nat) : Int) := by rw [wrap_in (by omega) (by omega)]; omega
          have hn1 : pS v.wr (v.z0 + k) l (i + 1) = withinS v.wr (l.take (i + 1)) (v.z0 + k) := by unfold pS; rw [if_neg (by omega)]
          have htk := withinS_take (w := v.wr) (z := v.z0 + k) l (i + 1)
          rcases Nat.eq_zero_or_pos i with h0 | h0
          · subst h0
            have hw1 := pS_one hw hz hxm' hx
            rw [Nat.zero_add] at hn1 htk
            rw [hw1] at hn1 htk
            simp only at htk
            obtain ⟨a, tu⟩ := x
            have hgt : ∀ n : Int, ¬ n - v.wr > n + v.wr := fun n => by omega
            have hd1 : l.length - 1 < l.length := by omega
            cases tu <;> simp only [outM, if_true, if_false, Bool.false_eq_true] at hn1 <;> simp (decide := true) (maxSteps := 4000000) only [go_sem, Nat.reduceAdd, Nat.reduceSub, Nat.reduceMul, Nat.reduceDiv, Nat.reduceMod, Nat.reduceLT, Nat.reduceLeDiff, Nat.reduceEqDiff, Nat.reduceBEq, Nat.reduceBNe, Nat.reduceGT, Int.reduceAdd, Int.reduceSub, Int.reduceMul, Int.reduceNeg, Int.reduceLT, Int.reduceLE, Int.reduceEq, Int.reduceNe, Int.reduceBEq, Int.reduceBNe, Int.reduceToNat, Int.reduceGT, Int.reduceGE, ↓reduceIte, decide_true, decide_false, hil, hd, Mk.als, Mk.al, Vial.cs, hxm, hz, hw, hgt]
            all_goals refine ⟨⟨1, by omega, fun _ => ?_⟩, ?_⟩
            all_goals first | (rw [hn1]; simp only; omega) | (simp (decide := true) (maxSteps := 4000000) only [go_sem, Nat.reduceAdd, Nat.reduceSub, Nat.reduceMul, Nat.reduceDiv, Nat.reduceMod, Nat.reduceLT, Nat.reduceLeDiff, Nat.reduceEqDiff, Nat.reduceBEq, Nat.reduceBNe, Nat.reduceGT, Int.reduceAdd, Int.reduceSub, Int.reduceMul, Int.reduceNeg, Int.reduceLT, Int.reduceLE, Int.reduceEq, Int.reduceNe, Int.reduceBEq, Int.reduceBNe, Int.reduceToNat, Int.reduceGT, Int.reduceGE, ↓reduceIte, decide_true, decide_false, hn1, hd1])
          · have hi0 : (i : Int) > 0 := by omega
            have hs := withinS_snoc (w := v.wr) (z := v.z0 + k) hx
            have hpi : pS v.wr (v.z0 + k) l i = withinS v.wr (l.take i) (v.z0 + k) := by unfold pS; rw [if_neg (by omega)]
            rw [hs] at hn1 htk
            have hd1 : l.length - (i + 1) < l.length - i := by omega
            by_cases hgt : (inS v.wr (v.z0 + k) (withinS v.wr (l.take i) (v.z0 + k)) x).lo > (inS v.wr (v.z0 + k) (withinS v.wr (l.take i) (v.z0 + k)) x).hi
            · have hcz : cz v l (k + 1) = cz v l k := cz_out (by omega)
              obtain ⟨a, tu⟩ := x
              cases tu <;> simp only [inS, outM, if_true, if_false, Bool.false_eq_true] at hgt <;> simp (decide := true) (maxSteps := 4000000) only [go_sem, Nat.reduceAdd, Nat.reduceSub, Nat.reduceMul, Nat.reduceDiv, Nat.reduceMod, Nat.reduceLT, Nat.reduceLeDiff, Nat.reduceEqDiff, Nat.reduceBEq, Nat.reduceBNe, Nat.reduceGT, Int.reduceAdd, Int.reduceSub, Int.reduceMul, Int.reduceNeg, Int.reduceLT, Int.reduceLE, Int.reduceEq, Int.reduceNe, Int.reduceBEq, Int.reduceBNe, Int.reduceToNat, Int.reduceGT, Int.reduceGE, ↓reduceIte, decide_true, decide_false, hil, hi0, hd, Mk.als, Mk.al, Vial.cs, hxm, hz, hw, hpi, hgt]
              all_goals refine ⟨⟨k + 1, by omega, fun h => by rw [hcz]; exact hst h⟩, ?_⟩
              all_goals simp (decide := true) (maxSteps := 4000000) only [go_sem, Nat.reduceAdd, Nat.reduceSub, Nat.reduceMul, Nat.reduceDiv, Nat.reduceMod, Nat.reduceLT, Nat.reduceLeDiff, Nat.reduceEqDiff, Nat.reduceBEq, Nat.reduceBNe, Nat.reduceGT, Int.reduceAdd, Int.reduceSub, Int.reduceMul, Int.reduceNeg, Int.reduceLT, Int.reduceLE, Int.reduceEq, Int.reduceNe, Int.reduceBEq, Int.reduceBNe, Int.reduceToNat, Int.reduceGT, Int.reduceGE, ↓reduceIte, decide_true, decide_false, hz1, hcz, Vial.cs]
              all_goals omega
            · obtain ⟨a, tu⟩ := x
              have hle' : (inS v.wr (v.z0 + k) (withinS v.wr (l.take i) (v.z0 + k)) ⟨a, tu⟩).lo ≤ (inS v.wr (v.z0 + k) (withinS v.wr (l.take i) (v.z0 + k)) ⟨a, tu⟩).hi := by omega
              cases tu <;> simp only [inS, outM, if_true, if_false, Bool.false_eq_true] at hgt <;> simp (decide := true) (maxSteps := 4000000) only [go_sem, Nat.reduceAdd, Nat.reduceSub, Nat.reduceMul, Nat.reduceDiv, Nat.reduceMod, Nat.reduceLT, Nat.reduceLeDiff, Nat.reduceEqDiff, Nat.reduceBEq, Nat.reduceBNe, Nat.reduceGT, Int.reduceAdd, Int.reduceSub, Int.reduceMul, Int.reduceNeg, Int.reduceLT, Int.reduceLE, Int.reduceEq, Int.reduceNe, Int.reduceBEq, Int.reduceBNe, Int.reduceToNat, Int.reduceGT, Int.reduceGE, ↓reduceIte, decide_true, decide_false, hil, hi0, hd, Mk.als, Mk.al, Vial.cs, hxm, hz, hw, hpi, hgt]
              all_goals refine ⟨⟨i + 1, by omega, fun _ => by rw [hn1]; exact hle'⟩, ?_⟩
              all_goals simp (decide := true) (maxSteps := 4000000) only [go_sem, Nat.reduceAdd, Nat.reduceSub, Nat.reduceMul, Nat.reduceDiv, Nat.reduceMod, Nat.reduceLT, Nat.reduceLeDiff, Nat.reduceEqDiff, Nat.reduceBEq, Nat.reduceBNe, Nat.reduceGT, Int.reduceAdd, Int.reduceSub, Int.reduceMul, Int.reduceNeg, Int.reduceLT, Int.reduceLE, Int.reduceEq, Int.reduceNe, Int.reduceBEq, Int.reduceBNe, Int.reduceToNat, Int.reduceGT, Int.reduceGE, ↓reduceIte, decide_true, decide_false, hi1, hn1, inS, outM, hd1, Vial.cs]
        · have hil' : i = l.length := by omega
          subst hil'
          have hpl : pS v.wr (v.z0 + k) l l.length = withinS v.wr l (v.z0 + k) := by unfold pS; rw [if_neg (by omega), List.take_length]
          have hin := hle (by omega)
          rw [hpl] at hin
          have hcz := cz_in hin
          have hat := zs_at hin hkN
          have hc1 := cz_le (v := v) (l := l) (k := k + 1) (by omega)
          have hcm : cz v l k < m := by
            cases stop with
            | true => exact hst rfl
            | false => rw [hm2 rfl, hzl]; omega
          by_cases hs : (stop && cz v l k + 1 == m) = true
          · have hs' := hs
            simp only [Bool.and_eq_true, beq_iff_eq] at hs'
            simp (decide := true) (maxSteps := 4000000) only [go_sem, Nat.reduceAdd, Nat.reduceSub, Nat.reduceMul, Nat.reduceDiv, Nat.reduceMod, Nat.reduceLT, Nat.reduceLeDiff, Nat.reduceEqDiff, Nat.reduceBEq, Nat.reduceBNe, Nat.reduceGT, Int.reduceAdd, Int.reduceSub, Int.reduceMul, Int.reduceNeg, Int.reduceLT, Int.reduceLE, Int.reduceEq, Int.reduceNe, Int.reduceBEq, Int.reduceBNe, Int.reduceToNat, Int.reduceGT, Int.reduceGE, ↓reduceIte, decide_true, decide_false, hil, hpl, hat, hcm, hs, hs'.1, hs'.2, Vial.cs]
          · have hs0 : (stop && cz v l k + 1 == m) = false := by simpa using hs
            simp (decide := true) (maxSteps := 4000000) only [go_sem, Nat.reduceAdd, Nat.reduceSub, Nat.reduceMul, Nat.reduceDiv, Nat.reduceMod, Nat.reduceLT, Nat.reduceLeDiff, Nat.reduceEqDiff, Nat.reduceBEq, Nat.reduceBNe, Nat.reduceGT, Int.reduceAdd, Int.reduceSub, Int.reduceMul, Int.reduceNeg, Int.reduceLT, Int.reduceLE, Int.reduceEq, Int.reduceNe, Int.reduceBEq, Int.reduceBNe, Int.reduceToNat, Int.reduceGT, Int.reduceGE, ↓reduceIte, decide_true, decide_false, hil, hpl, hat, hcm, hs0, Vial.cs]
            refine ⟨⟨k + 1, by omega, fun h => ?_⟩, ?_⟩
            · rw [hcz]; subst h; simp at hs0; omega
            · simp (decide := true) (maxSteps := 4000000) only [go_sem, Nat.reduceAdd, Nat.reduceSub, Nat.reduceMul, Nat.reduceDiv, Nat.reduceMod, Nat.reduceLT, Nat.reduceLeDiff, Nat.reduceEqDiff, Nat.reduceBEq, Nat.reduceBNe, Nat.reduceGT, Int.reduceAdd, Int.reduceSub, Int.reduceMul, Int.reduceNeg, Int.reduceLT, Int.reduceLE, Int.reduceEq, Int.reduceNe, Int.reduceBEq, Int.reduceBNe, Int.reduceToNat, Int.reduceGT, Int.reduceGE, ↓reduceIte, decide_true, decide_false, hz1, hcz, Vial.cs]
              omega
    · simp (decide := true) (maxSteps := 4000000) only [go_sem, Nat.reduceAdd, Nat.reduceSub, Nat.reduceMul, Nat.reduceDiv, Nat.reduceMod, Nat.reduceLT, Nat.reduceLeDiff, Nat.reduceEqDiff, Nat.reduceBEq, Nat.reduceBNe, Nat.reduceGT, Int.reduceAdd, Int.reduceSub, Int.reduceMul, Int.reduceNeg, Int.reduceLT, Int.reduceLE, Int.reduceEq, Int.reduceNe, Int.reduceBEq, Int.reduceBNe, Int.reduceToNat, Int.reduceGT, Int.reduceGE, ↓reduceIte, decide_true, decide_false, hlt, Vial.cs]
      have hkN : k = (v.z1 - v.z0 + 1).toNat := by omega
      subst hkN
      cases stop with
      | false => rw [hm2 rfl, hzl, cz_all]
      | true => have := hst rfl; rw [cz_all] at this; omega
end Go.Proofs.Ytgofljmnlfnlnaa

/- Part La. -/
namespace Go.Proofs.Ytgofljmnlfnlnaa
open Go.RowKit Go.Pm Go.Oc
set_option maxRecDepth 100000
set_option linter.unusedVariables false
set_option maxHeartbeats 1000000

theorem lEnds1_c (a b : Int) (full : Bool) : PCalls Try.prog 71 [.int .i64 a, .sl [.int .i64 b] 1 full] (.tup [.int .i64 (min a b), .int .i64 (max a b)]) := lEnds_c a [b] full (by simp)
noncomputable def glEnds : List TV → Option TV
  | [.int .i64 a, .sl [.int .i64 b] 1 full] => some (.tup [.int .i64 (min a b), .int .i64 (max a b)])
  | _ => none
theorem glEnds_ok : ∀ xs r, glEnds xs = some r → PCalls Try.prog 71 xs r := by
  intro xs r h
  unfold glEnds at h
  split at h
  · cases h; exact lEnds1_c _ _ _
  · cases h
attribute [go_sem] glEnds
noncomputable def glZeros : List TV → Option TV
  | [.agg [.int .i64 m, .int .i64 a, .int .i64 b, .int .i64 c, .int .i64 d, .int .i64 e, .int .i64 f, .int .i64 g], .sl cs n full] => some (.fn 77 [] [.cptr (Vial.cs ⟨m, a, b, c, d, e, f, g⟩), .cptr [.sl cs n full]])
  | _ => none
theorem glZeros_ok : ∀ xs r, glZeros xs = some r → PCalls Try.prog 70 xs r := by
  intro xs r h
  unfold glZeros at h
  split at h
  · cases h; exact lZeros_c ⟨_, _, _, _, _, _, _, _⟩ _ ⟨_, _, _, rfl⟩
  · cases h
attribute [go_sem] glZeros
noncomputable def spL4 : Pm.Spec := (spL3.one 71 glEnds).one 70 glZeros
@[go_sem] theorem spL4_p (f : FuncId) (xs : List TV) : spL4.p f xs = Pm.Spec.p ((spL3.one 71 glEnds).one 70 glZeros) f xs := rfl
@[go_sem] theorem spL4_h (f : FuncId) (ps : List PV) (hl : List PO) : spL4.h f ps hl = Pm.Spec.h ((spL3.one 71 glEnds).one 70 glZeros) f ps hl := rfl
@[go_sem] theorem spL4_fz (f : FuncId) : spL4.fz f = Pm.Spec.fz ((spL3.one 71 glEnds).one 70 glZeros) f := rfl
@[go_sem] theorem spL4_fr (f : FuncId) : spL4.fr f = Pm.Spec.fr ((spL3.one 71 glEnds).one 70 glZeros) f := rfl
@[go_sem] theorem spL4_mu (t : TypeId) : spL4.mu t = Pm.Spec.mu ((spL3.one 71 glEnds).one 70 glZeros) t := rfl
theorem spL4_ok : SpecOk Try.prog spL4 := Spec.one_ok glZeros_ok (Spec.one_ok glEnds_ok spL3_ok)

/-- What is known of the tilt behind so many zeros that can be. -/
def tk (v : Vial) (l : List Mk) (i : Nat) : TZ := tiltsOf v ((zerosOf v l (allZ v)).take i)
theorem tk_succ {v : Vial} {l : List Mk} {i : Nat} {y : Int × Span} (h : (zerosOf v l (allZ v))[i]? = some y) : tk v l (i + 1) = tiltStep v (tk v l i) y := by
  unfold tk tiltsOf; rw [take_snoc h, List.foldl_append]; rfl
theorem zerosOf_mem {v : Vial} {l : List Mk} {y : Int × Span} (h : y ∈ zerosOf v l (allZ v)) : y.2 = withinS v.wr l y.1 ∧ y.2.lo ≤ y.2.hi ∧ v.z0 ≤ y.1 ∧ y.1 ≤ v.z1 := by
  unfold zerosOf allZ range at h
  simp only [List.mem_filterMap, List.mem_map, List.mem_range] at h
  obtain ⟨z, ⟨k, hk, rfl⟩, h⟩ := h
  split at h
  · rename_i hle; cases h; exact ⟨rfl, hle, by simp only; omega, by simp only; omega⟩
  · cases h
theorem lTilts_c (v : Vial) (l : List Mk) (full : Bool) (h1 : 1 ≤ l.length) (hv : v.ok = true) (hm : mksOk l = true) (hl : l.length ≤ 100) :
    PCalls Try.prog 54 [v.t, .sl (l.flatMap Mk.als) l.length full] (tilts v l).t := by
  have hv' := Vial.ok_iff.1 hv
  refine pcalls_by Try.mixes spL4_ok (fn := Try.f54) Try.func54 rfl (by kernel_rfl) (by show 2 ≤ _; decide) ?_
  simp (decide := true) (maxSteps := 4000000) only [go_sem, Nat.reduceAdd, Nat.reduceSub, Nat.reduceMul, Nat.reduceDiv, Nat.reduceMod, Nat.reduceLT, Nat.reduceLeDiff, Nat.reduceEqDiff, Nat.reduceBEq, Nat.reduceBNe, Nat.reduceGT, Int.reduceAdd, Int.reduceSub, Int.reduceMul, Int.reduceNeg, Int.reduceLT, Int.reduceLE, Int.reduceEq, Int.reduceNe, Int.reduceBEq, Int.reduceBNe, Int.reduceToNat, Int.reduceGT, Int.reduceGE, ↓reduceIte, decide_true, decide_false, Try.f54, Vial.t, Vial.cs]
  refine pwpC_range rfl 77 [] [.cptr v.cs, .cptr [.sl (l.flatMap Mk.als) l.length full]] (zs v l) [(15, .t (.fn 77 [] [.cptr v.cs, .cptr [.sl (l.flatMap Mk.als) l.length full]])), (2, .ptr 0 0), (4, .ptr 1 0), (5, .ptr 2 0), (6, .ptr 3 0)]
    (fun i => [.box (v.cs.map .t), .box ((tk v l i).tilt.cs.map .t), .box ((tk v l i).zero.cs.map .t), .box [.t (.bool (tk v l i).is)]]) 4 ?_ (by rfl) (by rfl) ?_ (lZeros1_c v l full h1 hv hm hl) ?_ (fun i => by simp) (fun i => rfl) (fun i x hx => ?_) ?_
  · simp (decide := true) (maxSteps := 4000000) only [go_sem, Nat.reduceAdd, Nat.reduceSub, Nat.reduceMul, Nat.reduceDiv, Nat.reduceMod, Nat.reduceLT, Nat.reduceLeDiff, Nat.reduceEqDiff, Nat.reduceBEq, Nat.reduceBNe, Nat.reduceGT, Int.reduceAdd, Int.reduceSub, Int.reduceMul, Int.reduceNeg, Int.reduceLT, Int.reduceLE, Int.reduceEq, Int.reduceNe, Int.reduceBEq, Int.reduceBNe, Int.reduceToNat, Int.reduceGT, Int.reduceGE, ↓reduceIte, decide_true, decide_false, Vial.cs, Span.cs, tk, tiltsOf]
  · simp (decide := true) (maxSteps := 4000000) only [go_sem, Nat.reduceAdd, Nat.reduceSub, Nat.reduceMul, Nat.reduceDiv, Nat.reduceMod, Nat.reduceLT, Nat.reduceLeDiff, Nat.reduceEqDiff, Nat.reduceBEq, Nat.reduceBNe, Nat.reduceGT, Int.reduceAdd, Int.reduceSub, Int.reduceMul, Int.reduceNeg, Int.reduceLT, Int.reduceLE, Int.reduceEq, Int.reduceNe, Int.reduceBEq, Int.reduceBNe, Int.reduceToNat, Int.reduceGT, Int.reduceGE, ↓reduceIte, decide_true, decide_false, Vial.cs]
  · intro x hx
    unfold zs at hx
    obtain ⟨y, _, rfl⟩ := List.mem_map.1 hx
    rfl
  · unfold zs at hx
    simp only [List.getElem?_map, Option.map_eq_some_iff] at hx
    obtain ⟨y, hy, rfl⟩ := hx
    obtain ⟨hy1, hy2, hy3, hy4⟩ := zerosOf_mem (List.mem_of_getElem? hy)
    have hb := withinS_bound (w := v.wr) (z := y.1) (by omega) (by omega) (l := l) (s := ⟨-10000, 10000⟩) hm (by simp)
    have hwi : withinS v.wr l y.1 = l.foldl (inS v.wr y.1) ⟨-10000, 10000⟩ := rfl
    rw [← hwi, ← hy1] at hb
    have p1 := mulB (a := y.2.lo) (b := v.v0) (by omega) (by omega)
    have p2 := mulB (a := y.2.lo) (b := v.v1) (by omega) (by omega)
    have p3 := mulB (a := y.2.hi) (b := v.v0) (by omega) (by omega)
    have p4 := mulB (a := y.2.hi) (b := v.v1) (by omega) (by omega)
    have w1 : IntKind.i64.wrap (v.v0 * y.2.lo) = y.2.lo * v.v0 := by rw [Int.mul_comm]; exact wrap_in (by omega) (by omega)
    have w2 : IntKind.i64.wrap (v.v1 * y.2.lo) = y.2.lo * v.v1 := by rw [Int.mul_comm]; exact wrap_in (by omega) (by omega)
    have w3 : IntKind.i64.wrap (v.v0 * y.2.hi) = y.2.hi * v.v0 := by rw [Int.mul_comm]; exact wrap_in (by omega) (by omega)
    have w4 : IntKind.i64.wrap (v.v1 * y.2.hi) = y.2.hi * v.v1 := by rw [Int.mul_comm]; exact wrap_in (by omega) (by omega)
    have hlm := least_most hv hy2
    unfold leastP mostP at hlm
    have hs := tk_succ hy
    cases his : (tk v l i).is
    · simp (decide := true) (maxSteps := 4000000) only [go_sem, Nat.reduceAdd, Nat.reduceSub, Nat.reduceMul, Nat.reduceDiv, Nat.reduceMod, Nat.reduceLT, Nat.reduceLeDiff, Nat.reduceEqDiff, Nat.reduceBEq, Nat.reduceBNe, Nat.reduceGT, Int.reduceAdd, Int.reduceSub, Int.reduceMul, Int.reduceNeg, Int.reduceLT, Int.reduceLE, Int.reduceEq, Int.reduceNe, Int.reduceBEq, Int.reduceBNe, Int.reduceToNat, Int.reduceGT, Int.reduceGE, ↓reduceIte, decide_true, decide_false, Vial.cs, Span.cs, Span.t, w1, w2, w3, w4, his, hs, tiltStep, leastP, mostP]
      omega
    · simp (decide := true) (maxSteps := 4000000) only [go_sem, Nat.reduceAdd, Nat.reduceSub, Nat.reduceMul, Nat.reduceDiv, Nat.reduceMod, Nat.reduceLT, Nat.reduceLeDiff, Nat.reduceEqDiff, Nat.reduceBEq, Nat.reduceBNe, Nat.reduceGT, Int.reduceAdd, Int.reduceSub, Int.reduceMul, Int.reduceNeg, Int.reduceLT, Int.reduceLE, Int.reduceEq, Int.reduceNe, Int.reduceBEq, Int.reduceBNe, Int.reduceToNat, Int.reduceGT, Int.reduceGE, ↓reduceIte, decide_true, decide_false, Vial.cs, Span.cs, Span.t, w1, w2, w3, w4, his, hs, tiltStep, leastP, mostP]
  · have he : tk v l (zs v l).length = tilts v l := by unfold tk zs tilts; rw [List.length_map, List.take_length]
    simp (decide := true) (maxSteps := 4000000) only [go_sem, Nat.reduceAdd, Nat.reduceSub, Nat.reduceMul, Nat.reduceDiv, Nat.reduceMod, Nat.reduceLT, Nat.reduceLeDiff, Nat.reduceEqDiff, Nat.reduceBEq, Nat.reduceBNe, Nat.reduceGT, Int.reduceAdd, Int.reduceSub, Int.reduceMul, Int.reduceNeg, Int.reduceLT, Int.reduceLE, Int.reduceEq, Int.reduceNe, Int.reduceBEq, Int.reduceBNe, Int.reduceToNat, Int.reduceGT, Int.reduceGE, ↓reduceIte, decide_true, decide_false, he, Vial.cs, Span.cs, TZ.t, Span.t]
noncomputable def glTilts : List TV → Option TV
  | [.agg [.int .i64 m, .int .i64 a, .int .i64 b, .int .i64 c, .int .i64 d, .int .i64 e, .int .i64 f, .int .i64 g], s] => match rowL unAls s with
    | some l => if 1 ≤ l.length ∧ Vial.ok ⟨m, a, b, c, d, e, f, g⟩ = true ∧ mksOk l = true ∧ l.length ≤ 100 then some ((tilts ⟨m, a, b, c, d, e, f, g⟩ l).t) else none
    | none => none
  | _ => none
theorem glTilts_ok : ∀ xs r, glTilts xs = some r → PCalls Try.prog 54 xs r := by
  intro xs r h
  unfold glTilts at h
  split at h
  · split at h
    · rename_i l hl
      have hl := rowL_some (un := unAls) rfl (@unAls_some) hl
      split at h
      · rename_i hc; cases h; exact (by obtain ⟨h0, h1, h2, h3⟩ := hc; obtain ⟨full, rfl⟩ := hl.ne h0; exact lTilts_c ⟨_, _, _, _, _, _, _, _⟩ _ _ h0 h1 h2 h3)
      · cases h
    · cases h
  · cases h
attribute [go_sem] glTilts
noncomputable def spL5 : Pm.Spec := spL4.one 54 glTilts
@[go_sem] theorem spL5_p (f : FuncId) (xs : List TV) : spL5.p f xs = Pm.Spec.p (spL4.one 54 glTilts) f xs := rfl
@[go_sem] theorem spL5_h (f : FuncId) (ps : List PV) (hl : List PO) : spL5.h f ps hl = Pm.Spec.h (spL4.one 54 glTilts) f ps hl := rfl
@[go_sem] theorem spL5_fz (f : FuncId) : spL5.fz f = Pm.Spec.fz (spL4.one 54 glTilts) f := rfl
@[go_sem] theorem spL5_fr (f : FuncId) : spL5.fr f = Pm.Spec.fr (spL4.one 54 glTilts) f := rfl
@[go_sem] theorem spL5_mu (t : TypeId) : spL5.mu t = Pm.Spec.mu (spL4.one 54 glTilts) t := rfl
theorem spL5_ok : SpecOk Try.prog spL5 := Spec.one_ok glTilts_ok spL4_ok
end Go.Proofs.Ytgofljmnlfnlnaa

/- Part Lb. -/
namespace Go.Proofs.Ytgofljmnlfnlnaa
open Go.RowKit Go.Pm Go.Oc
set_option maxRecDepth 100000
set_option linter.unusedVariables false
set_option maxHeartbeats 1000000

theorem openedT_no {v : Vial} {l : List Rd} (h : asked v l ≠ 0) : ∃ u : Vial, openedT v l = .tup [u.t, .nilSl, .int .i64 (asked v l)] := by
  unfold openedT asked at *
  cases hv : v.ok
  · exact ⟨⟨0, 0, 0, 0, 0, 0, 0, 0⟩, by simp⟩
  · cases hr : rdsOk v l
    · exact ⟨v, by simp⟩
    · simp [hv, hr] at h
theorem openedT_yes {v : Vial} {l : List Rd} (h : asked v l = 0) : openedT v l = .tup [v.t, .sl ((l.map mid).flatMap Mk.als) l.length false, .int .i64 0] := by
  obtain ⟨hv, hr⟩ := asked_zero h
  unfold openedT; simp [hv, hr]
/-- A row as it comes in: not too long. -/
def Len24 {α : Type} (l : List α) : Prop := l.length ≤ 5864062014806
theorem lTilt_c (v : Vial) {l : List Rd} {s : TV} (hs : IsRow Rd.cs s l) (hl : l.length ≤ 5864062014806) : PCalls Try.prog 20 [v.t, s] (tiltR v l).t := by
  refine pcalls_by Try.mixes spL5_ok (fn := Try.f20) Try.func20 rfl (by kernel_rfl) (by show 2 ≤ _; decide) ?_
  unfold tiltR
  by_cases hk : asked v l = 0
  · obtain ⟨hv, hr⟩ := asked_zero hk
    have hm := mksOk_mid hv hr
    have h8 := rdsOk_len hr
    have h100 : l.length ≤ 100 := by omega
    have ho := openedT_yes hk
    obtain ⟨full, rfl⟩ := hs.ne h8.1
    cases hi : (tilts v (l.map mid)).is <;> simp (decide := true) (maxSteps := 4000000) only [go_sem, Nat.reduceAdd, Nat.reduceSub, Nat.reduceMul, Nat.reduceDiv, Nat.reduceMod, Nat.reduceLT, Nat.reduceLeDiff, Nat.reduceEqDiff, Nat.reduceBEq, Nat.reduceBNe, Nat.reduceGT, Int.reduceAdd, Int.reduceSub, Int.reduceMul, Int.reduceNeg, Int.reduceLT, Int.reduceLE, Int.reduceEq, Int.reduceNe, Int.reduceBEq, Int.reduceBNe, Int.reduceToNat, Int.reduceGT, Int.reduceGE, ↓reduceIte, decide_true, decide_false, Try.f20, Vial.t, Vial.cs, hk, hl, ho, hv, h8.1, h8.2, h100, hm, List.length_map, TZ.t, Span.t, Span.cs, hi, TE.t]
  · obtain ⟨u, ho⟩ := openedT_no hk
    have hk' : (asked v l != 0) = true := by simpa using hk
    rcases hs with ⟨rfl, rfl⟩ | ⟨full, rfl⟩ <;> simp (decide := true) (maxSteps := 4000000) only [go_sem, Nat.reduceAdd, Nat.reduceSub, Nat.reduceMul, Nat.reduceDiv, Nat.reduceMod, Nat.reduceLT, Nat.reduceLeDiff, Nat.reduceEqDiff, Nat.reduceBEq, Nat.reduceBNe, Nat.reduceGT, Int.reduceAdd, Int.reduceSub, Int.reduceMul, Int.reduceNeg, Int.reduceLT, Int.reduceLE, Int.reduceEq, Int.reduceNe, Int.reduceBEq, Int.reduceBNe, Int.reduceToNat, Int.reduceGT, Int.reduceGE, ↓reduceIte, decide_true, decide_false, Try.f20, Vial.t, Vial.cs, unRds, hl, ho, hk, hk', TE.t, Span.t, Span.cs]
def canB (v : Vial) (l : List Mk) (tv tz tt : Int) : Bool := l.all fun m => inB tt (tv * (outM m tz - v.wr)) (tv * (outM m tz + v.wr))
/-- What Can hands back. -/
def canP (v : Vial) (l : List Rd) (tv tz tt : Int) : Bool × Int :=
  if asked v l = 0 then (if inB tv v.v0 v.v1 = true ∧ inB tz v.z0 v.z1 = true then (canB v (l.map mid) tv tz tt, 0) else (false, 32)) else (false, asked v l)
theorem lCan_c (v : Vial) {l : List Rd} {s : TV} (hs : IsRow Rd.cs s l) (hl : l.length ≤ 5864062014806) (tv tz tt : Int) : PCalls Try.prog 16 [v.t, s, .agg [.int .i64 tv, .int .i64 tz, .int .i64 tt]] (.tup [.bool (canP v l tv tz tt).1, .int .i64 (canP v l tv tz tt).2]) := by
  refine pcalls_by Try.mixes spL5_ok (fn := Try.f16) Try.func16 rfl (by kernel_rfl) (by show 3 ≤ _; decide) ?_
  unfold canP
  by_cases hk : asked v l = 0
  · obtain ⟨hv, hr⟩ := asked_zero hk
    have hv' := Vial.ok_iff.1 hv
    have hm := mksOk_mid hv hr
    have h8 := rdsOk_len hr
    have h100 : l.length ≤ 100 := by omega
    have ho := openedT_yes hk
    obtain ⟨full, rfl⟩ := hs.ne h8.1
    cases h1 : inB tv v.v0 v.v1 with
    | false => simp (decide := true) (maxSteps := 4000000) only [go_sem, Nat.reduceAdd, Nat.reduceSub, Nat.reduceMul, Nat.reduceDiv, Nat.reduceMod, Nat.reduceLT, Nat.reduceLeDiff, Nat.reduceEqDiff, Nat.reduceBEq, Nat.reduceBNe, Nat.reduceGT, Int.reduceAdd, Int.reduceSub, Int.reduceMul, Int.reduceNeg, Int.reduceLT, Int.reduceLE, Int.reduceEq, Int.reduceNe, Int.reduceBEq, Int.reduceBNe, Int.reduceToNat, Int.reduceGT, Int.reduceGE, ↓reduceIte, decide_true, decide_false, Try.f16, Vial.t, Vial.cs, hk, hl, ho, h1]
    | true =>
      cases h2 : inB tz v.z0 v.z1 with
      | false => simp (decide := true) (maxSteps := 4000000) only [go_sem, Nat.reduceAdd, Nat.reduceSub, Nat.reduceMul, Nat.reduceDiv, Nat.reduceMod, Nat.reduceLT, Nat.reduceLeDiff, Nat.reduceEqDiff, Nat.reduceBEq, Nat.reduceBNe, Nat.reduceGT, Int.reduceAdd, Int.reduceSub, Int.reduceMul, Int.reduceNeg, Int.reduceLT, Int.reduceLE, Int.reduceEq, Int.reduceNe, Int.reduceBEq, Int.reduceBNe, Int.reduceToNat, Int.reduceGT, Int.reduceGE, ↓reduceIte, decide_true, decide_false, Try.f16, Vial.t, Vial.cs, hk, hl, ho, h1, h2]
      | true =>
        have h1' := inB_iff.1 h1
        have h2' := inB_iff.1 h2
        have hz : 0 ≤ tz ∧ tz ≤ 400 := by omega
        have hw : 0 ≤ v.wr ∧ v.wr ≤ 8 := hv'.2.2.2.2
        simp (decide := true) (maxSteps := 4000000) only [go_sem, Nat.reduceAdd, Nat.reduceSub, Nat.reduceMul, Nat.reduceDiv, Nat.reduceMod, Nat.reduceLT, Nat.reduceLeDiff, Nat.reduceEqDiff, Nat.reduceBEq, Nat.reduceBNe, Nat.reduceGT, Int.reduceAdd, Int.reduceSub, Int.reduceMul, Int.reduceNeg, Int.reduceLT, Int.reduceLE, Int.reduceEq, Int.reduceNe, Int.reduceBEq, Int.reduceBNe, Int.reduceToNat, Int.reduceGT, Int.reduceGE, ↓reduceIte, decide_true, decide_false, Try.f16, Vial.t, Vial.cs, hk, hl, ho, h1, h2]
        refine pwpC_loop (A := { k : Nat // k ≤ l.length ∧ canB v ((l.map mid).take k) tv tz tt = true }) (fun k => { env := [(52, .t (.int .i64 k.1)), (51, .t (.int .i64 l.length)), (50, .t (.sl ((l.map mid).flatMap Mk.als) l.length false)), (8, .ptr 2 0), (5, .ptr 1 0)], heap := [.box (v.cs.map .t), .box [.t (.int .i64 tv), .t (.int .i64 tz), .t (.int .i64 tt)], .box (v.cs.map .t)] }) (fun k => l.length - k.1) ⟨0, by omega, rfl⟩ ?_ (fun k => by rfl) fun ⟨k, hk1, hk2⟩ => ?_
        · simp (decide := true) (maxSteps := 4000000) only [go_sem, Nat.reduceAdd, Nat.reduceSub, Nat.reduceMul, Nat.reduceDiv, Nat.reduceMod, Nat.reduceLT, Nat.reduceLeDiff, Nat.reduceEqDiff, Nat.reduceBEq, Nat.reduceBNe, Nat.reduceGT, Int.reduceAdd, Int.reduceSub, Int.reduceMul, Int.reduceNeg, Int.reduceLT, Int.reduceLE, Int.reduceEq, Int.reduceNe, Int.reduceBEq, Int.reduceBNe, Int.reduceToNat, Int.reduceGT, Int.reduceGE, ↓reduceIte, decide_true, decide_false, Vial.cs]
        · by_cases hlt : (k : Int) < l.length
          · have hlt' : (k : Int) < (l.map mid).length := by simpa using hlt
            obtain ⟨x, hx⟩ := get_lt hlt'
            have hd := flat_at Mk.als (n := 1) (fun _ => rfl) hx
            have hxm : inB x.at' 0 400 = true := List.all_eq_true.1 hm x (List.mem_of_getElem? hx)
            have hxm' := inB_iff.1 hxm
            have hc1 : IntKind.i64.wrap (k + 1) = ((k + 1 : Nat) : Int) := by rw [wrap_in (by omega) (by omega)]; omega
            have hd1 : l.length - (k + 1) < l.length - k := by omega
            have ho1 : -1000 ≤ outM x tz ∧ outM x tz ≤ 1000 := by unfold outM; split <;> omega
            have p1 := mulB (a := outM x tz - v.wr) (b := tv) (by omega) (by omega)
            have p2 := mulB (a := outM x tz + v.wr) (b := tv) (by omega) (by omega)
            have w1 : IntKind.i64.wrap (tv * (outM x tz - v.wr)) = tv * (outM x tz - v.wr) := by rw [Int.mul_comm]; exact wrap_in (by omega) (by omega)
            have w2 : IntKind.i64.wrap (tv * (outM x tz + v.wr)) = tv * (outM x tz + v.wr) := by rw [Int.mul_comm]; exact wrap_in (by omega) (by omega)
            have htk := take_all (fun m => inB tt (tv * (outM m tz - v.wr)) (tv * (outM m tz + v.wr))) hx
            cases hb : inB tt (tv * (outM x tz - v.wr)) (tv * (outM x tz + v.wr)) with
            | false =>
              have hf : canB v (l.map mid) tv tz tt = false := by
                unfold canB
                refine all_of_take (k := k + 1) ?_
                rw [htk, hb, Bool.and_false]
              obtain ⟨a, tu⟩ := x
              cases tu <;> simp only [outM, if_true, if_false, Bool.false_eq_true] at w1 w2 hb <;> simp (decide := true) (maxSteps := 4000000) only [go_sem, Nat.reduceAdd, Nat.reduceSub, Nat.reduceMul, Nat.reduceDiv, Nat.reduceMod, Nat.reduceLT, Nat.reduceLeDiff, Nat.reduceEqDiff, Nat.reduceBEq, Nat.reduceBNe, Nat.reduceGT, Int.reduceAdd, Int.reduceSub, Int.reduceMul, Int.reduceNeg, Int.reduceLT, Int.reduceLE, Int.reduceEq, Int.reduceNe, Int.reduceBEq, Int.reduceBNe, Int.reduceToNat, Int.reduceGT, Int.reduceGE, ↓reduceIte, decide_true, decide_false, hlt, hd, Mk.als, Mk.al, Vial.cs, hxm, hz, hw, w1, w2, hb, hf]
            | true =>
              have ht : canB v ((l.map mid).take (k + 1)) tv tz tt = true := by
                unfold canB at hk2 ⊢
                rw [htk, hb, hk2]; rfl
              obtain ⟨a, tu⟩ := x
              cases tu <;> simp only [outM, if_true, if_false, Bool.false_eq_true] at w1 w2 hb <;> simp (decide := true) (maxSteps := 4000000) only [go_sem, Nat.reduceAdd, Nat.reduceSub, Nat.reduceMul, Nat.reduceDiv, Nat.reduceMod, Nat.reduceLT, Nat.reduceLeDiff, Nat.reduceEqDiff, Nat.reduceBEq, Nat.reduceBNe, Nat.reduceGT, Int.reduceAdd, Int.reduceSub, Int.reduceMul, Int.reduceNeg, Int.reduceLT, Int.reduceLE, Int.reduceEq, Int.reduceNe, Int.reduceBEq, Int.reduceBNe, Int.reduceToNat, Int.reduceGT, Int.reduceGE, ↓reduceIte, decide_true, decide_false, hlt, hd, Mk.als, Mk.al, Vial.cs, hxm, hz, hw, w1, w2, hb]
              all_goals refine ⟨⟨k + 1, by omega, ht⟩, ?_⟩
              all_goals simp (decide := true) (maxSteps := 4000000) only [go_sem, Nat.reduceAdd, Nat.reduceSub, Nat.reduceMul, Nat.reduceDiv, Nat.reduceMod, Nat.reduceLT, Nat.reduceLeDiff, Nat.reduceEqDiff, Nat.reduceBEq, Nat.reduceBNe, Nat.reduceGT, Int.reduceAdd, Int.reduceSub, Int.reduceMul, Int.reduceNeg, Int.reduceLT, Int.reduceLE, Int.reduceEq, Int.reduceNe, Int.reduceBEq, Int.reduceBNe, Int.reduceToNat, Int.reduceGT, Int.reduceGE, ↓reduceIte, decide_true, decide_false, hc1, hd1, Vial.cs]
          · have hkl : k = (l.map mid).length := by rw [List.length_map]; omega
            rw [hkl, List.take_length] at hk2
            simp (decide := true) (maxSteps := 4000000) only [go_sem, Nat.reduceAdd, Nat.reduceSub, Nat.reduceMul, Nat.reduceDiv, Nat.reduceMod, Nat.reduceLT, Nat.reduceLeDiff, Nat.reduceEqDiff, Nat.reduceBEq, Nat.reduceBNe, Nat.reduceGT, Int.reduceAdd, Int.reduceSub, Int.reduceMul, Int.reduceNeg, Int.reduceLT, Int.reduceLE, Int.reduceEq, Int.reduceNe, Int.reduceBEq, Int.reduceBNe, Int.reduceToNat, Int.reduceGT, Int.reduceGE, ↓reduceIte, decide_true, decide_false, hlt, hk2]
  · obtain ⟨u, ho⟩ := openedT_no hk
    have hk' : (asked v l != 0) = true := by simpa using hk
    rcases hs with ⟨rfl, rfl⟩ | ⟨full, rfl⟩ <;> simp (decide := true) (maxSteps := 4000000) only [go_sem, Nat.reduceAdd, Nat.reduceSub, Nat.reduceMul, Nat.reduceDiv, Nat.reduceMod, Nat.reduceLT, Nat.reduceLeDiff, Nat.reduceEqDiff, Nat.reduceBEq, Nat.reduceBNe, Nat.reduceGT, Int.reduceAdd, Int.reduceSub, Int.reduceMul, Int.reduceNeg, Int.reduceLT, Int.reduceLE, Int.reduceEq, Int.reduceNe, Int.reduceBEq, Int.reduceBNe, Int.reduceToNat, Int.reduceGT, Int.reduceGE, ↓reduceIte, decide_true, decide_false, Try.f16, Vial.t, Vial.cs, unRds, hl, ho, hk, hk']
end Go.Proofs.Ytgofljmnlfnlnaa

/- Part Lc. -/
namespace Go.Proofs.Ytgofljmnlfnlnaa
open Go.RowKit Go.Pm Go.Oc
set_option maxRecDepth 100000
set_option linter.unusedVariables false
set_option maxHeartbeats 1000000

theorem ediv_tdiv {a b : Int} (h : 0 < b) : (if a.tmod b < 0 then a.tdiv b - 1 else a.tdiv b) = a / b := by
  have h1 := Int.mul_tdiv_add_tmod a b
  have h2 := Int.mul_ediv_add_emod a b
  have h3 := Int.emod_nonneg a (show b ≠ 0 by omega)
  have h4 := Int.emod_lt_of_pos a h
  have h5 : -b < a.tmod b ∧ a.tmod b < b := by
    have := Int.tmod_lt_of_pos a h
    have h6 := Int.tmod_lt_of_pos (-a) h
    rw [Int.neg_tmod] at h6
    omega
  by_cases hn : a.tmod b < 0
  · rw [if_pos hn]
    have e : b * (a.tdiv b - 1) + (a.tmod b + b) = a := by rw [Int.mul_sub]; omega
    have := (Int.ediv_emod_unique h (a := a) (r := a.tmod b + b) (q := a.tdiv b - 1)).2 ⟨by omega, by omega, by omega⟩
    exact this.1.symm
  · rw [if_neg hn]
    have := (Int.ediv_emod_unique h (a := a) (r := a.tmod b) (q := a.tdiv b)).2 ⟨by omega, by omega, by omega⟩
    exact this.1.symm
theorem divB {a b : Int} (hb : 0 < b) (ha : -4000000000000000000 ≤ a ∧ a ≤ 4000000000000000000) : -4000000000000000000 ≤ a / b ∧ a / b ≤ 4000000000000000000 := by
  have h1 := Int.ediv_le_self (a := 4000000000000000000) b (by omega)
  have h2 := Int.ediv_le_ediv hb (show a ≤ 4000000000000000000 by omega)
  have h3 := Int.ediv_le_ediv hb (show -4000000000000000000 ≤ a by omega)
  have h4 : -4000000000000000000 ≤ (-4000000000000000000) / b := by
    rw [Int.le_ediv_iff_mul_le hb]
    omega
  omega
theorem lDown_c (a b : Int) (hb : 0 < b) (ha : -4000000000000000000 ≤ a ∧ a ≤ 4000000000000000000) : PCalls Try.prog 62 [.int .i64 a, .int .i64 b] (.int .i64 (a / b)) := by
  refine pcalls_by Try.mixes noSpec_ok (fn := Try.f62) Try.func62 rfl (by kernel_rfl) (by show 2 ≤ _; decide) ?_
  have hne : ¬ b = 0 := by omega
  have hq := ediv_tdiv (a := a) hb
  have hd := divB hb ha
  by_cases hn : a.tmod b < 0
  · rw [if_pos hn] at hq
    have w1 : IntKind.i64.wrap (a.tdiv b) = a.tdiv b := wrap_in (by omega) (by omega)
    have w2 : IntKind.i64.wrap (a.tdiv b - 1) = a / b := by rw [wrap_in (by omega) (by omega)]; exact hq
    simp (decide := true) (maxSteps := 4000000) only [go_sem, Nat.reduceAdd, Nat.reduceSub, Nat.reduceMul, Nat.reduceDiv, Nat.reduceMod, Nat.reduceLT, Nat.reduceLeDiff, Nat.reduceEqDiff, Nat.reduceBEq, Nat.reduceBNe, Nat.reduceGT, Int.reduceAdd, Int.reduceSub, Int.reduceMul, Int.reduceNeg, Int.reduceLT, Int.reduceLE, Int.reduceEq, Int.reduceNe, Int.reduceBEq, Int.reduceBNe, Int.reduceToNat, Int.reduceGT, Int.reduceGE, ↓reduceIte, decide_true, decide_false, Try.f62, hne, hn, w1, w2]
  · rw [if_neg hn] at hq
    have w1 : IntKind.i64.wrap (a.tdiv b) = a / b := by rw [wrap_in (by omega) (by omega)]; exact hq
    simp (decide := true) (maxSteps := 4000000) only [go_sem, Nat.reduceAdd, Nat.reduceSub, Nat.reduceMul, Nat.reduceDiv, Nat.reduceMod, Nat.reduceLT, Nat.reduceLeDiff, Nat.reduceEqDiff, Nat.reduceBEq, Nat.reduceBNe, Nat.reduceGT, Int.reduceAdd, Int.reduceSub, Int.reduceMul, Int.reduceNeg, Int.reduceLT, Int.reduceLE, Int.reduceEq, Int.reduceNe, Int.reduceBEq, Int.reduceBNe, Int.reduceToNat, Int.reduceGT, Int.reduceGE, ↓reduceIte, decide_true, decide_false, Try.f62, hne, hn, w1]
noncomputable def glDown : List TV → Option TV
  | [.int .i64 a, .int .i64 b] => if 0 < b ∧ -4000000000000000000 ≤ a ∧ a ≤ 4000000000000000000 then some (.int .i64 (a / b)) else none
  | _ => none
theorem glDown_ok : ∀ xs r, glDown xs = some r → PCalls Try.prog 62 xs r := by
  intro xs r h
  unfold glDown at h
  split at h
  · split at h
    · rename_i hc; cases h; exact lDown_c _ _ hc.1 hc.2
    · cases h
  · cases h
attribute [go_sem] glDown
noncomputable def spC1 : Pm.Spec := spL1.one 62 glDown
@[go_sem] theorem spC1_p (f : FuncId) (xs : List TV) : spC1.p f xs = Pm.Spec.p (spL1.one 62 glDown) f xs := rfl
@[go_sem] theorem spC1_h (f : FuncId) (ps : List PV) (hl : List PO) : spC1.h f ps hl = Pm.Spec.h (spL1.one 62 glDown) f ps hl := rfl
@[go_sem] theorem spC1_fz (f : FuncId) : spC1.fz f = Pm.Spec.fz (spL1.one 62 glDown) f := rfl
@[go_sem] theorem spC1_fr (f : FuncId) : spC1.fr f = Pm.Spec.fr (spL1.one 62 glDown) f := rfl
@[go_sem] theorem spC1_mu (t : TypeId) : spC1.mu t = Pm.Spec.mu (spL1.one 62 glDown) t := rfl
theorem spC1_ok : SpecOk Try.prog spC1 := Spec.one_ok glDown_ok spL1_ok
theorem lUp_c (a b : Int) (hb : 0 < b) (ha : -4000000000000000000 ≤ a ∧ a ≤ 4000000000000000000) : PCalls Try.prog 61 [.int .i64 a, .int .i64 b] (.int .i64 (-((-a) / b))) := by
  refine pcalls_by Try.mixes spC1_ok (fn := Try.f61) Try.func61 rfl (by kernel_rfl) (by show 2 ≤ _; decide) ?_
  have w1 : IntKind.i64.wrap (0 - a) = -a := by rw [wrap_in (by omega) (by omega)]; omega
  have hc : 0 < b ∧ -4000000000000000000 ≤ -a ∧ -a ≤ 4000000000000000000 := by omega
  have hd := divB hb (a := -a) (by omega)
  have w2 : IntKind.i64.wrap (0 - (-a) / b) = -((-a) / b) := by rw [wrap_in (by omega) (by omega)]; omega
  simp (decide := true) (maxSteps := 4000000) only [go_sem, Nat.reduceAdd, Nat.reduceSub, Nat.reduceMul, Nat.reduceDiv, Nat.reduceMod, Nat.reduceLT, Nat.reduceLeDiff, Nat.reduceEqDiff, Nat.reduceBEq, Nat.reduceBNe, Nat.reduceGT, Int.reduceAdd, Int.reduceSub, Int.reduceMul, Int.reduceNeg, Int.reduceLT, Int.reduceLE, Int.reduceEq, Int.reduceNe, Int.reduceBEq, Int.reduceBNe, Int.reduceToNat, Int.reduceGT, Int.reduceGE, ↓reduceIte, decide_true, decide_false, Try.f61, w1, hc, w2]
noncomputable def glUp : List TV → Option TV
  | [.int .i64 a, .int .i64 b] => if 0 < b ∧ -4000000000000000000 ≤ a ∧ a ≤ 4000000000000000000 then some (.int .i64 (-((-a) / b))) else none
  | _ => none
theorem glUp_ok : ∀ xs r, glUp xs = some r → PCalls Try.prog 61 xs r := by
  intro xs r h
  unfold glUp at h
  split at h
  · split at h
    · rename_i hc; cases h; exact lUp_c _ _ hc.1 hc.2
    · cases h
  · cases h
attribute [go_sem] glUp
theorem lWidth_c (s : Span) : PCalls Try.prog 59 [s.t] (.int .i64 (IntKind.i64.wrap (s.hi - s.lo))) := by
  refine pcalls_by Try.mixes noSpec_ok (fn := Try.f59) Try.func59 rfl (by kernel_rfl) (by show 1 ≤ _; decide) ?_
  simp (decide := true) (maxSteps := 4000000) only [go_sem, Nat.reduceAdd, Nat.reduceSub, Nat.reduceMul, Nat.reduceDiv, Nat.reduceMod, Nat.reduceLT, Nat.reduceLeDiff, Nat.reduceEqDiff, Nat.reduceBEq, Nat.reduceBNe, Nat.reduceGT, Int.reduceAdd, Int.reduceSub, Int.reduceMul, Int.reduceNeg, Int.reduceLT, Int.reduceLE, Int.reduceEq, Int.reduceNe, Int.reduceBEq, Int.reduceBNe, Int.reduceToNat, Int.reduceGT, Int.reduceGE, ↓reduceIte, decide_true, decide_false, Try.f59, Span.t, Span.cs]
noncomputable def glWidth : List TV → Option TV
  | [.agg [.int .i64 x, .int .i64 y]] => some (.int .i64 (IntKind.i64.wrap (y - x)))
  | _ => none
theorem glWidth_ok : ∀ xs r, glWidth xs = some r → PCalls Try.prog 59 xs r := by
  intro xs r h
  unfold glWidth at h
  split at h
  · cases h; exact lWidth_c ⟨_, _⟩
  · cases h
attribute [go_sem] glWidth
noncomputable def spC2 : Pm.Spec := (spC1.one 61 glUp).one 59 glWidth
@[go_sem] theorem spC2_p (f : FuncId) (xs : List TV) : spC2.p f xs = Pm.Spec.p ((spC1.one 61 glUp).one 59 glWidth) f xs := rfl
@[go_sem] theorem spC2_h (f : FuncId) (ps : List PV) (hl : List PO) : spC2.h f ps hl = Pm.Spec.h ((spC1.one 61 glUp).one 59 glWidth) f ps hl := rfl
@[go_sem] theorem spC2_fz (f : FuncId) : spC2.fz f = Pm.Spec.fz ((spC1.one 61 glUp).one 59 glWidth) f := rfl
@[go_sem] theorem spC2_fr (f : FuncId) : spC2.fr f = Pm.Spec.fr ((spC1.one 61 glUp).one 59 glWidth) f := rfl
@[go_sem] theorem spC2_mu (t : TypeId) : spC2.mu t = Pm.Spec.mu ((spC1.one 61 glUp).one 59 glWidth) t := rfl
theorem spC2_ok : SpecOk Try.prog spC2 := Spec.one_ok glWidth_ok (Spec.one_ok glUp_ok spC1_ok)
/-- The clicks, and the error. -/
def clicksP (t : Span) (worth bound : Int) : Int × Int :=
  if spannedB t (-1000000) 1000000 = true ∧ inB worth 1 100 = true ∧ inB bound 0 1000000 = true then
    (if -((-(-bound - t.lo)) / worth) > (bound - t.hi) / worth then (0, 4) else if -((-(-bound - t.lo)) / worth) > 0 then (-((-(-bound - t.lo)) / worth), 0) else if (bound - t.hi) / worth < 0 then ((bound - t.hi) / worth, 0) else (0, 0))
  else (0, 7)
theorem lClicks_c (t : Span) (worth bound : Int) : PCalls Try.prog 28 [t.t, .int .i64 worth, .int .i64 bound] (.tup [.int .i64 (clicksP t worth bound).1, .int .i64 (clicksP t worth bound).2]) := by
  refine pcalls_by Try.mixes spC2_ok (fn := Try.f28) Try.func28 rfl (by kernel_rfl) (by show 3 ≤ _; decide) ?_
  unfold clicksP
  cases h1 : spannedB t (-1000000) 1000000 with
  | false => simp (decide := true) (maxSteps := 4000000) only [go_sem, Nat.reduceAdd, Nat.reduceSub, Nat.reduceMul, Nat.reduceDiv, Nat.reduceMod, Nat.reduceLT, Nat.reduceLeDiff, Nat.reduceEqDiff, Nat.reduceBEq, Nat.reduceBNe, Nat.reduceGT, Int.reduceAdd, Int.reduceSub, Int.reduceMul, Int.reduceNeg, Int.reduceLT, Int.reduceLE, Int.reduceEq, Int.reduceNe, Int.reduceBEq, Int.reduceBNe, Int.reduceToNat, Int.reduceGT, Int.reduceGE, ↓reduceIte, decide_true, decide_false, Try.f28, Span.t, Span.cs, h1]
  | true =>
    cases h2 : inB worth 1 100 with
    | false => simp (decide := true) (maxSteps := 4000000) only [go_sem, Nat.reduceAdd, Nat.reduceSub, Nat.reduceMul, Nat.reduceDiv, Nat.reduceMod, Nat.reduceLT, Nat.reduceLeDiff, Nat.reduceEqDiff, Nat.reduceBEq, Nat.reduceBNe, Nat.reduceGT, Int.reduceAdd, Int.reduceSub, Int.reduceMul, Int.reduceNeg, Int.reduceLT, Int.reduceLE, Int.reduceEq, Int.reduceNe, Int.reduceBEq, Int.reduceBNe, Int.reduceToNat, Int.reduceGT, Int.reduceGE, ↓reduceIte, decide_true, decide_false, Try.f28, Span.t, Span.cs, h1, h2]
    | true =>
      cases h3 : inB bound 0 1000000 with
      | false => simp (decide := true) (maxSteps := 4000000) only [go_sem, Nat.reduceAdd, Nat.reduceSub, Nat.reduceMul, Nat.reduceDiv, Nat.reduceMod, Nat.reduceLT, Nat.reduceLeDiff, Nat.reduceEqDiff, Nat.reduceBEq, Nat.reduceBNe, Nat.reduceGT, Int.reduceAdd, Int.reduceSub, Int.reduceMul, Int.reduceNeg, Int.reduceLT, Int.reduceLE, Int.reduceEq, Int.reduceNe, Int.reduceBEq, Int.reduceBNe, Int.reduceToNat, Int.reduceGT, Int.reduceGE, ↓reduceIte, decide_true, decide_false, Try.f28, Span.t, Span.cs, h1, h2, h3]
      | true =>
        have h1' := h1
        have h2' := inB_iff.1 h2
        have h3' := inB_iff.1 h3
        simp only [spannedB, Bool.and_eq_true, decide_eq_true_eq] at h1'
        have w0 : IntKind.i64.wrap (0 - bound) = -bound := by rw [wrap_in (by omega) (by omega)]; omega
        have w1 : IntKind.i64.wrap (-bound - t.lo) = -bound - t.lo := wrap_in (by omega) (by omega)
        have w2 : IntKind.i64.wrap (bound - t.hi) = bound - t.hi := wrap_in (by omega) (by omega)
        have c1 : 0 < worth ∧ -4000000000000000000 ≤ -bound - t.lo ∧ -bound - t.lo ≤ 4000000000000000000 := by omega
        have c2 : 0 < worth ∧ -4000000000000000000 ≤ bound - t.hi ∧ bound - t.hi ≤ 4000000000000000000 := by omega
        by_cases g1 : -((-(-bound - t.lo)) / worth) > (bound - t.hi) / worth
        · simp (decide := true) (maxSteps := 4000000) only [go_sem, Nat.reduceAdd, Nat.reduceSub, Nat.reduceMul, Nat.reduceDiv, Nat.reduceMod, Nat.reduceLT, Nat.reduceLeDiff, Nat.reduceEqDiff, Nat.reduceBEq, Nat.reduceBNe, Nat.reduceGT, Int.reduceAdd, Int.reduceSub, Int.reduceMul, Int.reduceNeg, Int.reduceLT, Int.reduceLE, Int.reduceEq, Int.reduceNe, Int.reduceBEq, Int.reduceBNe, Int.reduceToNat, Int.reduceGT, Int.reduceGE, ↓reduceIte, decide_true, decide_false, Try.f28, Span.t, Span.cs, h1, h2, h3, w0, w1, w2, c1, c2, g1]
        · by_cases g2 : -((-(-bound - t.lo)) / worth) > 0
          · simp (decide := true) (maxSteps := 4000000) only [go_sem, Nat.reduceAdd, Nat.reduceSub, Nat.reduceMul, Nat.reduceDiv, Nat.reduceMod, Nat.reduceLT, Nat.reduceLeDiff, Nat.reduceEqDiff, Nat.reduceBEq, Nat.reduceBNe, Nat.reduceGT, Int.reduceAdd, Int.reduceSub, Int.reduceMul, Int.reduceNeg, Int.reduceLT, Int.reduceLE, Int.reduceEq, Int.reduceNe, Int.reduceBEq, Int.reduceBNe, Int.reduceToNat, Int.reduceGT, Int.reduceGE, ↓reduceIte, decide_true, decide_false, Try.f28, Span.t, Span.cs, h1, h2, h3, w0, w1, w2, c1, c2, g1, g2]
          · by_cases g3 : (bound - t.hi) / worth < 0 <;> simp (decide := true) (maxSteps := 4000000) only [go_sem, Nat.reduceAdd, Nat.reduceSub, Nat.reduceMul, Nat.reduceDiv, Nat.reduceMod, Nat.reduceLT, Nat.reduceLeDiff, Nat.reduceEqDiff, Nat.reduceBEq, Nat.reduceBNe, Nat.reduceGT, Int.reduceAdd, Int.reduceSub, Int.reduceMul, Int.reduceNeg, Int.reduceLT, Int.reduceLE, Int.reduceEq, Int.reduceNe, Int.reduceBEq, Int.reduceBNe, Int.reduceToNat, Int.reduceGT, Int.reduceGE, ↓reduceIte, decide_true, decide_false, Try.f28, Span.t, Span.cs, h1, h2, h3, w0, w1, w2, c1, c2, g1, g2, g3]
end Go.Proofs.Ytgofljmnlfnlnaa

/- Part Lq. -/
namespace Go.Oc
open Go Go.Pm

theorem tiltStep_bound {v : Vial} (hv : v.ok = true) {x : TZ} {y : Int × Span} (hx : -5000000 ≤ x.tilt.lo ∧ x.tilt.lo ≤ 5000000 ∧ -5000000 ≤ x.tilt.hi ∧ x.tilt.hi ≤ 5000000) (h1 : -10000 ≤ y.2.lo ∧ y.2.lo ≤ 10000) (h2 : -10000 ≤ y.2.hi ∧ y.2.hi ≤ 10000) :
    -5000000 ≤ (tiltStep v x y).tilt.lo ∧ (tiltStep v x y).tilt.lo ≤ 5000000 ∧ -5000000 ≤ (tiltStep v x y).tilt.hi ∧ (tiltStep v x y).tilt.hi ≤ 5000000 := by
  have hv' := Vial.ok_iff.1 hv
  have p1 := mulB (a := y.2.lo) (b := v.v0) (by omega) (by omega)
  have p2 := mulB (a := y.2.lo) (b := v.v1) (by omega) (by omega)
  have p3 := mulB (a := y.2.hi) (b := v.v0) (by omega) (by omega)
  have p4 := mulB (a := y.2.hi) (b := v.v1) (by omega) (by omega)
  unfold tiltStep leastP mostP
  split <;> simp only <;> omega
theorem tiltsOf_bound {v : Vial} (hv : v.ok = true) : ∀ {ys : List (Int × Span)} {x : TZ}, (-5000000 ≤ x.tilt.lo ∧ x.tilt.lo ≤ 5000000 ∧ -5000000 ≤ x.tilt.hi ∧ x.tilt.hi ≤ 5000000) → (∀ y ∈ ys, (-10000 ≤ y.2.lo ∧ y.2.lo ≤ 10000) ∧ (-10000 ≤ y.2.hi ∧ y.2.hi ≤ 10000)) →
    -5000000 ≤ (ys.foldl (tiltStep v) x).tilt.lo ∧ (ys.foldl (tiltStep v) x).tilt.lo ≤ 5000000 ∧ -5000000 ≤ (ys.foldl (tiltStep v) x).tilt.hi ∧ (ys.foldl (tiltStep v) x).tilt.hi ≤ 5000000
  | [], x, h, _ => h
  | y :: ys, x, h, hy => tiltsOf_bound hv (ys := ys) (x := tiltStep v x y) (tiltStep_bound hv h (hy y List.mem_cons_self).1 (hy y List.mem_cons_self).2) fun z hz => hy z (List.mem_cons_of_mem _ hz)
theorem zerosOf_mem {v : Vial} {l : List Mk} {y : Int × Span} (h : y ∈ zerosOf v l (allZ v)) : y.2 = withinS v.wr l y.1 ∧ y.2.lo ≤ y.2.hi ∧ v.z0 ≤ y.1 ∧ y.1 ≤ v.z1 := by
  unfold zerosOf allZ range at h
  simp only [List.mem_filterMap, List.mem_map, List.mem_range] at h
  obtain ⟨z, ⟨k, hk, rfl⟩, h⟩ := h
  split at h
  · rename_i hle; cases h; exact ⟨rfl, hle, by simp only; omega, by simp only; omega⟩
  · cases h
theorem tilts_bound {v : Vial} {l : List Mk} (hv : v.ok = true) (hm : mksOk l = true) : -5000000 ≤ (tilts v l).tilt.lo ∧ (tilts v l).tilt.lo ≤ 5000000 ∧ -5000000 ≤ (tilts v l).tilt.hi ∧ (tilts v l).tilt.hi ≤ 5000000 := by
  have hv' := Vial.ok_iff.1 hv
  refine tiltsOf_bound hv (by simp) fun y hy => ?_
  obtain ⟨h1, h2, h3, h4⟩ := zerosOf_mem hy
  have hb := withinS_bound (w := v.wr) (z := y.1) (by omega) (by omega) (l := l) (s := ⟨-10000, 10000⟩) hm (by simp)
  have hwi : withinS v.wr l y.1 = l.foldl (inS v.wr y.1) ⟨-10000, 10000⟩ := rfl
  rw [← hwi, ← h1] at hb
  omega
theorem tiltStep_is (v : Vial) (x : TZ) (y : Int × Span) : (tiltStep v x y).is = true := by unfold tiltStep; split <;> rfl
theorem fold_is (v : Vial) : ∀ (ys : List (Int × Span)) (x : TZ), (ys.foldl (tiltStep v) x).is = (x.is || !ys.isEmpty)
  | [], x => by simp
  | y :: ys, x => by rw [List.foldl_cons, fold_is v ys]; simp [tiltStep_is]
theorem fold_le2 {v : Vial} (hv : v.ok = true) : ∀ (ys : List (Int × Span)) (x : TZ), x.is = true → x.tilt.lo ≤ x.tilt.hi → (∀ y ∈ ys, y.2.lo ≤ y.2.hi) → (ys.foldl (tiltStep v) x).tilt.lo ≤ (ys.foldl (tiltStep v) x).tilt.hi
  | [], x, _, h, _ => h
  | y :: ys, x, hi, h, hy => by
    refine fold_le2 hv ys _ (tiltStep_is v x y) ?_ fun z hz => hy z (List.mem_cons_of_mem _ hz)
    unfold tiltStep
    rw [if_pos hi]
    simp only; omega
theorem tilts_le {v : Vial} {l : List Mk} (hv : v.ok = true) (h : (tilts v l).is = true) : (tilts v l).tilt.lo ≤ (tilts v l).tilt.hi := by
  unfold tilts tiltsOf at *
  have hz : ∀ y ∈ zerosOf v l (allZ v), y.2.lo ≤ y.2.hi := fun y hy => (zerosOf_mem hy).2.1
  generalize zerosOf v l (allZ v) = ys at *
  cases ys with
  | nil => simp at h
  | cons y ys =>
    rw [List.foldl_cons]
    refine fold_le2 hv ys _ (tiltStep_is _ _ _) ?_ fun z hz' => hz z (List.mem_cons_of_mem _ hz')
    unfold tiltStep
    simp only [Bool.false_eq_true, if_false]
    exact least_most hv (hz y List.mem_cons_self)
theorem tilts_no {v : Vial} {l : List Mk} (h : (tilts v l).is = false) : tilts v l = ⟨⟨0, 0⟩, ⟨0, 0⟩, false⟩ := by
  unfold tilts tiltsOf at *
  rw [fold_is] at h
  simp only [Bool.false_or, Bool.not_eq_false', List.isEmpty_iff] at h
  rw [h]; rfl

/-- How wide a tilt is. -/
def wideT (x : TZ) : Int := x.tilt.hi - x.tilt.lo
def gainStep (v : Vial) (l : List Mk) (tu : Bool) (g : Option Int) (a : Int) : Option Int :=
  if (tilts v (l ++ [⟨a, tu⟩])).is then some (match g with | none => wideT (tilts v (l ++ [⟨a, tu⟩])) | some n => max n (wideT (tilts v (l ++ [⟨a, tu⟩])))) else g
/-- The gain behind so many middles. -/
def gainTo (v : Vial) (l : List Mk) (tu : Bool) (k : Nat) : Option Int := (range 0 k).foldl (gainStep v l tu) none
def gainOf (v : Vial) (l : List Mk) (tu : Bool) : Option Int := gainTo v l tu (2 * v.marks + 1).toNat
theorem gainTo_succ (v : Vial) (l : List Mk) (tu : Bool) (k : Nat) : gainTo v l tu (k + 1) = gainStep v l tu (gainTo v l tu k) k := by
  unfold gainTo; rw [range_succ, List.foldl_append]; simp
/-- What Next hands back. -/
def nextP (v : Vial) (l : List Rd) : Bool × Int × Int :=
  if asked v l = 0 then
    if l.length = 8 then (false, 0, 6)
    else if (tilts v (l.map mid)).is then
      (match gainOf v (l.map mid) false, gainOf v (l.map mid) true with
        | none, none => (false, 0, 0)
        | some d, none => (false, d, 0)
        | none, some t => (true, t, 0)
        | some d, some t => if t < d then (true, t, 0) else (false, d, 0))
    else (false, 0, 33)
  else (false, 0, asked v l)

def faultStep (v : Vial) (m : Int) (a : Int) : Int := if inB a v.l1 (2 * v.marks - v.l1) && (tilts v [⟨a, false⟩]).is then max m (wideT (tilts v [⟨a, false⟩])) else m
def faultTo (v : Vial) (k : Nat) : Int := (range 0 k).foldl (faultStep v) 0
def faultOf (v : Vial) : Int := faultTo v (2 * v.marks + 1).toNat
theorem faultTo_succ (v : Vial) (k : Nat) : faultTo v (k + 1) = faultStep v (faultTo v k) k := by
  unfold faultTo; rw [range_succ, List.foldl_append]; simp
theorem faultTo_bound {v : Vial} (hv : v.ok = true) : ∀ k : Nat, k ≤ 401 → 0 ≤ faultTo v k ∧ faultTo v k ≤ 10000000
  | 0, _ => by simp [faultTo, range]
  | k + 1, h => by
    have ih := faultTo_bound hv k (by omega)
    rw [faultTo_succ]
    unfold faultStep
    split
    · have := tilts_bound (l := [⟨k, false⟩]) hv (by simp [mksOk, inB]; omega)
      unfold wideT; omega
    · exact ih
/-- Does a vial do for a wish? -/
def doesP (v : Vial) (rg fl : Int) : Bool := decide (min (v.z0 - v.l1) (2 * v.marks - v.l1 - v.z1) ≥ 0) && decide (rg ≤ v.v0 * min (v.z0 - v.l1) (2 * v.marks - v.l1 - v.z1)) && decide (faultOf v ≤ fl)
end Go.Oc

/- Part Ld. -/
namespace Go.Proofs.Ytgofljmnlfnlnaa
open Go.RowKit Go.Pm Go.Oc
set_option maxRecDepth 100000
set_option linter.unusedVariables false
set_option maxHeartbeats 1000000

noncomputable def spD1 : Pm.Spec := spL5.one 59 glWidth
@[go_sem] theorem spD1_p (f : FuncId) (xs : List TV) : spD1.p f xs = Pm.Spec.p (spL5.one 59 glWidth) f xs := rfl
@[go_sem] theorem spD1_h (f : FuncId) (ps : List PV) (hl : List PO) : spD1.h f ps hl = Pm.Spec.h (spL5.one 59 glWidth) f ps hl := rfl
@[go_sem] theorem spD1_fz (f : FuncId) : spD1.fz f = Pm.Spec.fz (spL5.one 59 glWidth) f := rfl
@[go_sem] theorem spD1_fr (f : FuncId) : spD1.fr f = Pm.Spec.fr (spL5.one 59 glWidth) f := rfl
@[go_sem] theorem spD1_mu (t : TypeId) : spD1.mu t = Pm.Spec.mu (spL5.one 59 glWidth) t := rfl
theorem spD1_ok : SpecOk Try.prog spD1 := Spec.one_ok glWidth_ok spL5_ok
theorem unAls_one (a : Int) : unAls [.ifc 98 (.agg [.int .i64 a, .fn 73 [] []])] = some [⟨a, false⟩] := rfl
theorem unAls_oneT (a : Int) : unAls [.ifc 98 (.agg [.int .i64 a, .fn 74 [] []])] = some [⟨a, true⟩] := rfl
attribute [go_sem] unAls_one unAls_oneT
theorem lFault_c (v : Vial) (hv : v.ok = true) : PCalls Try.prog 75 [v.t] (.int .i64 (faultOf v)) := by
  have hv' := Vial.ok_iff.1 hv
  refine pcalls_by Try.mixes spD1_ok (fn := Try.f75) Try.func75 rfl (by kernel_rfl) (by show 1 ≤ _; decide) ?_
  have w1 : IntKind.i64.wrap (2 * v.marks) = 2 * v.marks := wrap_in (by omega) (by omega)
  have w2 : IntKind.i64.wrap (2 * v.marks + 1) = 2 * v.marks + 1 := wrap_in (by omega) (by omega)
  have w3 : IntKind.i64.wrap (2 * v.marks - v.l1) = 2 * v.marks - v.l1 := wrap_in (by omega) (by omega)
  simp (decide := true) (maxSteps := 4000000) only [go_sem, Nat.reduceAdd, Nat.reduceSub, Nat.reduceMul, Nat.reduceDiv, Nat.reduceMod, Nat.reduceLT, Nat.reduceLeDiff, Nat.reduceEqDiff, Nat.reduceBEq, Nat.reduceBNe, Nat.reduceGT, Int.reduceAdd, Int.reduceSub, Int.reduceMul, Int.reduceNeg, Int.reduceLT, Int.reduceLE, Int.reduceEq, Int.reduceNe, Int.reduceBEq, Int.reduceBNe, Int.reduceToNat, Int.reduceGT, Int.reduceGE, ↓reduceIte, decide_true, decide_false, Try.f75, Vial.t, Vial.cs, w1, w2]
  refine pwpC_loop (A := { k : Nat // k ≤ (2 * v.marks + 1).toNat }) (fun k => { env := [(13, .t (.int .i64 k.1)), (12, .t (.int .i64 (2 * v.marks + 1))), (1, .ptr 0 0), (3, .t (.int .i64 (faultTo v k.1)))], heap := [.box (v.cs.map .t)] }) (fun k => (2 * v.marks + 1).toNat - k.1) ⟨0, by omega⟩ ?_ (fun k => by rfl) fun ⟨k, hk⟩ => ?_
  · simp (decide := true) (maxSteps := 4000000) only [go_sem, Nat.reduceAdd, Nat.reduceSub, Nat.reduceMul, Nat.reduceDiv, Nat.reduceMod, Nat.reduceLT, Nat.reduceLeDiff, Nat.reduceEqDiff, Nat.reduceBEq, Nat.reduceBNe, Nat.reduceGT, Int.reduceAdd, Int.reduceSub, Int.reduceMul, Int.reduceNeg, Int.reduceLT, Int.reduceLE, Int.reduceEq, Int.reduceNe, Int.reduceBEq, Int.reduceBNe, Int.reduceToNat, Int.reduceGT, Int.reduceGE, ↓reduceIte, decide_true, decide_false, Vial.cs, faultTo, range]
  · by_cases hlt : (k : Int) < 2 * v.marks + 1
    · have hc1 : IntKind.i64.wrap (k + 1) = ((k + 1 : Nat) : Int) := by rw [wrap_in (by omega) (by omega)]; omega
      have hd1 : (2 * v.marks + 1).toNat - (k + 1) < (2 * v.marks + 1).toNat - k := by omega
      have hs := faultTo_succ v k
      unfold faultStep at hs
      cases hb : inB k v.l1 (2 * v.marks - v.l1) with
      | false =>
        rw [hb] at hs
        simp (decide := true) (maxSteps := 4000000) only [go_sem, Nat.reduceAdd, Nat.reduceSub, Nat.reduceMul, Nat.reduceDiv, Nat.reduceMod, Nat.reduceLT, Nat.reduceLeDiff, Nat.reduceEqDiff, Nat.reduceBEq, Nat.reduceBNe, Nat.reduceGT, Int.reduceAdd, Int.reduceSub, Int.reduceMul, Int.reduceNeg, Int.reduceLT, Int.reduceLE, Int.reduceEq, Int.reduceNe, Int.reduceBEq, Int.reduceBNe, Int.reduceToNat, Int.reduceGT, Int.reduceGE, ↓reduceIte, decide_true, decide_false, hlt, Vial.cs, w1, w3, hb]
        refine ⟨⟨k + 1, by omega⟩, ?_⟩
        simp (decide := true) (maxSteps := 4000000) only [go_sem, Nat.reduceAdd, Nat.reduceSub, Nat.reduceMul, Nat.reduceDiv, Nat.reduceMod, Nat.reduceLT, Nat.reduceLeDiff, Nat.reduceEqDiff, Nat.reduceBEq, Nat.reduceBNe, Nat.reduceGT, Int.reduceAdd, Int.reduceSub, Int.reduceMul, Int.reduceNeg, Int.reduceLT, Int.reduceLE, Int.reduceEq, Int.reduceNe, Int.reduceBEq, Int.reduceBNe, Int.reduceToNat, Int.reduceGT, Int.reduceGE, ↓reduceIte, decide_true, decide_false, hc1, hd1, Vial.cs, hs]
      | true =>
        rw [hb] at hs
        have hm : mksOk [(⟨k, false⟩ : Mk)] = true := by simp [mksOk, inB]; omega
        have hbd := tilts_bound hv hm
        have hfb := faultTo_bound hv k (by omega)
        cases hi : (tilts v [⟨k, false⟩]).is with
        | false =>
          rw [hi] at hs
          simp (decide := true) (maxSteps := 4000000) only [go_sem, Nat.reduceAdd, Nat.reduceSub, Nat.reduceMul, Nat.reduceDiv, Nat.reduceMod, Nat.reduceLT, Nat.reduceLeDiff, Nat.reduceEqDiff, Nat.reduceBEq, Nat.reduceBNe, Nat.reduceGT, Int.reduceAdd, Int.reduceSub, Int.reduceMul, Int.reduceNeg, Int.reduceLT, Int.reduceLE, Int.reduceEq, Int.reduceNe, Int.reduceBEq, Int.reduceBNe, Int.reduceToNat, Int.reduceGT, Int.reduceGE, ↓reduceIte, decide_true, decide_false, hlt, Vial.cs, w1, w3, hb, hv, hm, hi, TZ.t, Span.t, Span.cs]
          refine ⟨⟨k + 1, by omega⟩, ?_⟩
          simp (decide := true) (maxSteps := 4000000) only [go_sem, Nat.reduceAdd, Nat.reduceSub, Nat.reduceMul, Nat.reduceDiv, Nat.reduceMod, Nat.reduceLT, Nat.reduceLeDiff, Nat.reduceEqDiff, Nat.reduceBEq, Nat.reduceBNe, Nat.reduceGT, Int.reduceAdd, Int.reduceSub, Int.reduceMul, Int.reduceNeg, Int.reduceLT, Int.reduceLE, Int.reduceEq, Int.reduceNe, Int.reduceBEq, Int.reduceBNe, Int.reduceToNat, Int.reduceGT, Int.reduceGE, ↓reduceIte, decide_true, decide_false, hc1, hd1, Vial.cs, hs]
        | true =>
          rw [hi] at hs
          unfold wideT at hs
          have w4 : IntKind.i64.wrap ((tilts v [⟨k, false⟩]).tilt.hi - (tilts v [⟨k, false⟩]).tilt.lo) = (tilts v [⟨k, false⟩]).tilt.hi - (tilts v [⟨k, false⟩]).tilt.lo := wrap_in (by omega) (by omega)
          by_cases hz : (tilts v [⟨k, false⟩]).tilt = ⟨0, 0⟩
          · simp (decide := true) (maxSteps := 4000000) only [go_sem, Nat.reduceAdd, Nat.reduceSub, Nat.reduceMul, Nat.reduceDiv, Nat.reduceMod, Nat.reduceLT, Nat.reduceLeDiff, Nat.reduceEqDiff, Nat.reduceBEq, Nat.reduceBNe, Nat.reduceGT, Int.reduceAdd, Int.reduceSub, Int.reduceMul, Int.reduceNeg, Int.reduceLT, Int.reduceLE, Int.reduceEq, Int.reduceNe, Int.reduceBEq, Int.reduceBNe, Int.reduceToNat, Int.reduceGT, Int.reduceGE, ↓reduceIte, decide_true, decide_false, hlt, Vial.cs, w1, w3, hb, hv, hm, hi, TZ.t, Span.t, Span.cs, hz]
            refine ⟨⟨k + 1, by omega⟩, ?_⟩
            simp (decide := true) (maxSteps := 4000000) only [go_sem, Nat.reduceAdd, Nat.reduceSub, Nat.reduceMul, Nat.reduceDiv, Nat.reduceMod, Nat.reduceLT, Nat.reduceLeDiff, Nat.reduceEqDiff, Nat.reduceBEq, Nat.reduceBNe, Nat.reduceGT, Int.reduceAdd, Int.reduceSub, Int.reduceMul, Int.reduceNeg, Int.reduceLT, Int.reduceLE, Int.reduceEq, Int.reduceNe, Int.reduceBEq, Int.reduceBNe, Int.reduceToNat, Int.reduceGT, Int.reduceGE, ↓reduceIte, decide_true, decide_false, hc1, hd1, Vial.cs, hs, hz]
            omega
          · have hz' : (!((tilts v [⟨k, false⟩]).tilt.lo == 0 && (tilts v [⟨k, false⟩]).tilt.hi == 0)) = true := by
              rw [Bool.not_eq_true', ← Bool.not_eq_true]
              simp only [Bool.and_eq_true, beq_iff_eq]
              rintro ⟨a, b⟩; apply hz
              cases ht : (tilts v [⟨k, false⟩]).tilt; rw [ht] at a b; simp only at a b; rw [a, b]
            simp (decide := true) (maxSteps := 4000000) only [go_sem, Nat.reduceAdd, Nat.reduceSub, Nat.reduceMul, Nat.reduceDiv, Nat.reduceMod, Nat.reduceLT, Nat.reduceLeDiff, Nat.reduceEqDiff, Nat.reduceBEq, Nat.reduceBNe, Nat.reduceGT, Int.reduceAdd, Int.reduceSub, Int.reduceMul, Int.reduceNeg, Int.reduceLT, Int.reduceLE, Int.reduceEq, Int.reduceNe, Int.reduceBEq, Int.reduceBNe, Int.reduceToNat, Int.reduceGT, Int.reduceGE, ↓reduceIte, decide_true, decide_false, hlt, Vial.cs, w1, w3, hb, hv, hm, hi, TZ.t, Span.t, Span.cs, hz', w4]
            refine ⟨⟨k + 1, by omega⟩, ?_⟩
            simp (decide := true) (maxSteps := 4000000) only [go_sem, Nat.reduceAdd, Nat.reduceSub, Nat.reduceMul, Nat.reduceDiv, Nat.reduceMod, Nat.reduceLT, Nat.reduceLeDiff, Nat.reduceEqDiff, Nat.reduceBEq, Nat.reduceBNe, Nat.reduceGT, Int.reduceAdd, Int.reduceSub, Int.reduceMul, Int.reduceNeg, Int.reduceLT, Int.reduceLE, Int.reduceEq, Int.reduceNe, Int.reduceBEq, Int.reduceBNe, Int.reduceToNat, Int.reduceGT, Int.reduceGE, ↓reduceIte, decide_true, decide_false, hc1, hd1, Vial.cs, hs]
    · have hkl : k = (2 * v.marks + 1).toNat := by omega
      simp (decide := true) (maxSteps := 4000000) only [go_sem, Nat.reduceAdd, Nat.reduceSub, Nat.reduceMul, Nat.reduceDiv, Nat.reduceMod, Nat.reduceLT, Nat.reduceLeDiff, Nat.reduceEqDiff, Nat.reduceBEq, Nat.reduceBNe, Nat.reduceGT, Int.reduceAdd, Int.reduceSub, Int.reduceMul, Int.reduceNeg, Int.reduceLT, Int.reduceLE, Int.reduceEq, Int.reduceNe, Int.reduceBEq, Int.reduceBNe, Int.reduceToNat, Int.reduceGT, Int.reduceGE, ↓reduceIte, decide_true, decide_false, hlt, Vial.cs]
      rw [hkl]; rfl
noncomputable def glFault : List TV → Option TV
  | [.agg [.int .i64 m, .int .i64 a, .int .i64 b, .int .i64 c, .int .i64 d, .int .i64 e, .int .i64 f, .int .i64 g]] => if Vial.ok ⟨m, a, b, c, d, e, f, g⟩ = true then some (.int .i64 (faultOf ⟨m, a, b, c, d, e, f, g⟩)) else none
  | _ => none
theorem glFault_ok : ∀ xs r, glFault xs = some r → PCalls Try.prog 75 xs r := by
  intro xs r h
  unfold glFault at h
  split at h
  · split at h
    · rename_i hc; cases h; exact lFault_c ⟨_, _, _, _, _, _, _, _⟩ hc
    · cases h
  · cases h
attribute [go_sem] glFault
noncomputable def spD2 : Pm.Spec := spD1.one 75 glFault
@[go_sem] theorem spD2_p (f : FuncId) (xs : List TV) : spD2.p f xs = Pm.Spec.p (spD1.one 75 glFault) f xs := rfl
@[go_sem] theorem spD2_h (f : FuncId) (ps : List PV) (hl : List PO) : spD2.h f ps hl = Pm.Spec.h (spD1.one 75 glFault) f ps hl := rfl
@[go_sem] theorem spD2_fz (f : FuncId) : spD2.fz f = Pm.Spec.fz (spD1.one 75 glFault) f := rfl
@[go_sem] theorem spD2_fr (f : FuncId) : spD2.fr f = Pm.Spec.fr (spD1.one 75 glFault) f := rfl
@[go_sem] theorem spD2_mu (t : TypeId) : spD2.mu t = Pm.Spec.mu (spD1.one 75 glFault) t := rfl
theorem spD2_ok : SpecOk Try.prog spD2 := Spec.one_ok glFault_ok spD1_ok
theorem lDoes_c (v : Vial) (hv : v.ok = true) (rg fl : Int) : PCalls Try.prog 64 [v.t, .agg [.int .i64 rg, .int .i64 fl]] (.bool (doesP v rg fl)) := by
  have hv' := Vial.ok_iff.1 hv
  refine pcalls_by Try.mixes spD2_ok (fn := Try.f64) Try.func64 rfl (by kernel_rfl) (by show 2 ≤ _; decide) ?_
  have w1 : IntKind.i64.wrap (2 * v.marks) = 2 * v.marks := wrap_in (by omega) (by omega)
  have w3 : IntKind.i64.wrap (2 * v.marks - v.l1) = 2 * v.marks - v.l1 := wrap_in (by omega) (by omega)
  have w4 : IntKind.i64.wrap (2 * v.marks - v.l1 - v.z1) = 2 * v.marks - v.l1 - v.z1 := wrap_in (by omega) (by omega)
  have w5 : IntKind.i64.wrap (v.z0 - v.l1) = v.z0 - v.l1 := wrap_in (by omega) (by omega)
  have hmb : -10000 ≤ min (v.z0 - v.l1) (2 * v.marks - v.l1 - v.z1) ∧ min (v.z0 - v.l1) (2 * v.marks - v.l1 - v.z1) ≤ 10000 := by omega
  have p := mulB (a := min (v.z0 - v.l1) (2 * v.marks - v.l1 - v.z1)) (b := v.v0) hmb (by omega)
  have w6 : IntKind.i64.wrap (v.v0 * min (v.z0 - v.l1) (2 * v.marks - v.l1 - v.z1)) = v.v0 * min (v.z0 - v.l1) (2 * v.marks - v.l1 - v.z1) := by rw [Int.mul_comm]; exact wrap_in (by omega) (by omega)
  unfold doesP
  by_cases h1 : min (v.z0 - v.l1) (2 * v.marks - v.l1 - v.z1) ≥ 0
  · by_cases h2 : rg ≤ v.v0 * min (v.z0 - v.l1) (2 * v.marks - v.l1 - v.z1) <;> simp (decide := true) (maxSteps := 4000000) only [go_sem, Nat.reduceAdd, Nat.reduceSub, Nat.reduceMul, Nat.reduceDiv, Nat.reduceMod, Nat.reduceLT, Nat.reduceLeDiff, Nat.reduceEqDiff, Nat.reduceBEq, Nat.reduceBNe, Nat.reduceGT, Int.reduceAdd, Int.reduceSub, Int.reduceMul, Int.reduceNeg, Int.reduceLT, Int.reduceLE, Int.reduceEq, Int.reduceNe, Int.reduceBEq, Int.reduceBNe, Int.reduceToNat, Int.reduceGT, Int.reduceGE, ↓reduceIte, decide_true, decide_false, Try.f64, Vial.t, Vial.cs, w1, w3, w4, w5, w6, h1, h2, hv]
  · simp (decide := true) (maxSteps := 4000000) only [go_sem, Nat.reduceAdd, Nat.reduceSub, Nat.reduceMul, Nat.reduceDiv, Nat.reduceMod, Nat.reduceLT, Nat.reduceLeDiff, Nat.reduceEqDiff, Nat.reduceBEq, Nat.reduceBNe, Nat.reduceGT, Int.reduceAdd, Int.reduceSub, Int.reduceMul, Int.reduceNeg, Int.reduceLT, Int.reduceLE, Int.reduceEq, Int.reduceNe, Int.reduceBEq, Int.reduceBNe, Int.reduceToNat, Int.reduceGT, Int.reduceGE, ↓reduceIte, decide_true, decide_false, Try.f64, Vial.t, Vial.cs, w1, w3, w4, w5, w6, h1, hv]
noncomputable def glDoes : List TV → Option TV
  | [.agg [.int .i64 m, .int .i64 a, .int .i64 b, .int .i64 c, .int .i64 d, .int .i64 e, .int .i64 f, .int .i64 g], .agg [.int .i64 rg, .int .i64 fl]] => if Vial.ok ⟨m, a, b, c, d, e, f, g⟩ = true then some (.bool (doesP ⟨m, a, b, c, d, e, f, g⟩ rg fl)) else none
  | _ => none
theorem glDoes_ok : ∀ xs r, glDoes xs = some r → PCalls Try.prog 64 xs r := by
  intro xs r h
  unfold glDoes at h
  split at h
  · split at h
    · rename_i hc; cases h; exact lDoes_c ⟨_, _, _, _, _, _, _, _⟩ hc _ _
    · cases h
  · cases h
attribute [go_sem] glDoes
noncomputable def spD3 : Pm.Spec := spD2.one 64 glDoes
@[go_sem] theorem spD3_p (f : FuncId) (xs : List TV) : spD3.p f xs = Pm.Spec.p (spD2.one 64 glDoes) f xs := rfl
@[go_sem] theorem spD3_h (f : FuncId) (ps : List PV) (hl : List PO) : spD3.h f ps hl = Pm.Spec.h (spD2.one 64 glDoes) f ps hl := rfl
@[go_sem] theorem spD3_fz (f : FuncId) : spD3.fz f = Pm.Spec.fz (spD2.one 64 glDoes) f := rfl
@[go_sem] theorem spD3_fr (f : FuncId) : spD3.fr f = Pm.Spec.fr (spD2.one 64 glDoes) f := rfl
@[go_sem] theorem spD3_mu (t : TypeId) : spD3.mu t = Pm.Spec.mu (spD2.one 64 glDoes) t := rfl
theorem spD3_ok : SpecOk Try.prog spD3 := Spec.one_ok glDoes_ok spD2_ok
end Go.Proofs.Ytgofljmnlfnlnaa

/- Part Le. -/
namespace Go.Proofs.Ytgofljmnlfnlnaa
open Go.RowKit Go.Pm Go.Oc
set_option maxRecDepth 100000
set_option linter.unusedVariables false
set_option maxHeartbeats 4000000

noncomputable def spE1 : Pm.Spec := spL5.one 59 glWidth
@[go_sem] theorem spE1_p (f : FuncId) (xs : List TV) : spE1.p f xs = Pm.Spec.p (spL5.one 59 glWidth) f xs := rfl
@[go_sem] theorem spE1_h (f : FuncId) (ps : List PV) (hl : List PO) : spE1.h f ps hl = Pm.Spec.h (spL5.one 59 glWidth) f ps hl := rfl
@[go_sem] theorem spE1_fz (f : FuncId) : spE1.fz f = Pm.Spec.fz (spL5.one 59 glWidth) f := rfl
@[go_sem] theorem spE1_fr (f : FuncId) : spE1.fr f = Pm.Spec.fr (spL5.one 59 glWidth) f := rfl
@[go_sem] theorem spE1_mu (t : TypeId) : spE1.mu t = Pm.Spec.mu (spL5.one 59 glWidth) t := rfl
theorem spE1_ok : SpecOk Try.prog spE1 := Spec.one_ok glWidth_ok spL5_ok
theorem unAls_append : ∀ (l r : List Mk), unAls (l.flatMap Mk.als ++ r.flatMap Mk.als) = some (l ++ r) := fun l r => by rw [← List.flatMap_append]; exact unAls_eq _
theorem unAls_snocF (l : List Mk) (a : Int) : unAls (l.flatMap Mk.als ++ [.ifc 98 (.agg [.int .i64 a, .fn 73 [] []])]) = some (l ++ [⟨a, false⟩]) := unAls_append l [⟨a, false⟩]
theorem unAls_snocT (l : List Mk) (a : Int) : unAls (l.flatMap Mk.als ++ [.ifc 98 (.agg [.int .i64 a, .fn 74 [] []])]) = some (l ++ [⟨a, true⟩]) := unAls_append l [⟨a, true⟩]
attribute [go_sem] unAls_snocF unAls_snocT
theorem allO_t : ∀ xs : List TV, allO (List.map PV.toT (List.map PV.t xs)) = some xs
  | [] => rfl
  | x :: xs => by simp only [List.map_cons, allO, PV.toT, allO_t xs, Option.map_some]
theorem allO_snoc : ∀ (xs : List TV) (y : TV), allO (List.map PV.toT (List.map PV.t xs ++ [PV.t y])) = some (xs ++ [y])
  | [], y => rfl
  | x :: xs, y => by simp only [List.map_cons, List.cons_append, allO, PV.toT, allO_snoc xs y, Option.map_some]
attribute [go_sem] allO_snoc
/-- The gains, in the map. -/
def gm (a b : Option Int) : TV → Option TV
  | .bool false => a.map (TV.int .i64)
  | .bool true => b.map (TV.int .i64)
  | _ => none
theorem gm_none : (fun _ => none) = gm none none := by
  funext x; unfold gm; split <;> rfl
theorem gm_f (a b : Option Int) : gm a b (.bool false) = a.map (TV.int .i64) := rfl
theorem gm_t (a b : Option Int) : gm a b (.bool true) = b.map (TV.int .i64) := rfl
theorem gm_uf (a b : Option Int) (n : Int) : updT (gm a b) (.bool false) (.int .i64 n) = gm (some n) b := by
  funext x; unfold updT
  by_cases h : x = .bool false
  · subst h; simp [gm]
  · rw [if_neg h]; unfold gm; split <;> first | rfl | exact absurd rfl h
theorem gm_ut (a b : Option Int) (n : Int) : updT (gm a b) (.bool true) (.int .i64 n) = gm a (some n) := by
  funext x; unfold updT
  by_cases h : x = .bool true
  · subst h; simp [gm]
  · rw [if_neg h]; unfold gm; split <;> first | rfl | exact absurd rfl h
theorem len_snoc {α : Type} (l : List α) (x : α) : (l ++ [x]).length = l.length + 1 := by simp

theorem lNext_c (v : Vial) {l : List Rd} {s : TV} (hs : IsRow Rd.cs s l) (hl : l.length ≤ 5864062014806) : PCalls Try.prog 26 [v.t, s] (.tup [.bool (nextP v l).1, .int .i64 (nextP v l).2.1, .int .i64 (nextP v l).2.2]) := by
  refine pcalls_by Try.mixes spE1_ok (fn := Try.f26) Try.func26 rfl (by kernel_rfl) (by show 2 ≤ _; decide) ?_
  unfold nextP
  by_cases hk : asked v l = 0
  · obtain ⟨hv, hr⟩ := asked_zero hk
    have hv' := Vial.ok_iff.1 hv
    have hm := mksOk_mid hv hr
    have h8 := rdsOk_len hr
    have h100 : l.length ≤ 100 := by omega
    have ho := openedT_yes hk
    obtain ⟨full, rfl⟩ := hs.ne h8.1
    by_cases h88 : l.length = 8
    · have h8e : (((8 : Nat) : Int) == 8) = true := rfl
      simp (decide := true) (maxSteps := 4000000) only [go_sem, Nat.reduceAdd, Nat.reduceSub, Nat.reduceMul, Nat.reduceDiv, Nat.reduceMod, Nat.reduceLT, Nat.reduceLeDiff, Nat.reduceEqDiff, Nat.reduceBEq, Nat.reduceBNe, Nat.reduceGT, Int.reduceAdd, Int.reduceSub, Int.reduceMul, Int.reduceNeg, Int.reduceLT, Int.reduceLE, Int.reduceEq, Int.reduceNe, Int.reduceBEq, Int.reduceBNe, Int.reduceToNat, Int.reduceGT, Int.reduceGE, ↓reduceIte, decide_true, decide_false, Try.f26, Vial.t, Vial.cs, hk, hl, ho, h88, h8e]
    · have h88' : ¬ (l.length : Int) = 8 := by omega
      have h88c : ((l.length : Int) == 8) = false := by simpa using h88'
      have h88b : ((l.length : Int) == 8) = false := by simpa using h88'
      cases hi : (tilts v (l.map mid)).is with
      | false => simp (decide := true) (maxSteps := 4000000) only [go_sem, Nat.reduceAdd, Nat.reduceSub, Nat.reduceMul, Nat.reduceDiv, Nat.reduceMod, Nat.reduceLT, Nat.reduceLeDiff, Nat.reduceEqDiff, Nat.reduceBEq, Nat.reduceBNe, Nat.reduceGT, Int.reduceAdd, Int.reduceSub, Int.reduceMul, Int.reduceNeg, Int.reduceLT, Int.reduceLE, Int.reduceEq, Int.reduceNe, Int.reduceBEq, Int.reduceBNe, Int.reduceToNat, Int.reduceGT, Int.reduceGE, ↓reduceIte, decide_true, decide_false, Try.f26, Vial.t, Vial.cs, hk, hl, ho, h88, h88b, hv, h8.1, h100, hm, List.length_map, TZ.t, Span.t, Span.cs, hi]
      | true =>
        have w1 : IntKind.i64.wrap (2 * v.marks) = 2 * v.marks := wrap_in (by omega) (by omega)
        have w2 : IntKind.i64.wrap (2 * v.marks + 1) = 2 * v.marks + 1 := wrap_in (by omega) (by omega)
        simp (decide := true) (maxSteps := 4000000) only [go_sem, Nat.reduceAdd, Nat.reduceSub, Nat.reduceMul, Nat.reduceDiv, Nat.reduceMod, Nat.reduceLT, Nat.reduceLeDiff, Nat.reduceEqDiff, Nat.reduceBEq, Nat.reduceBNe, Nat.reduceGT, Int.reduceAdd, Int.reduceSub, Int.reduceMul, Int.reduceNeg, Int.reduceLT, Int.reduceLE, Int.reduceEq, Int.reduceNe, Int.reduceBEq, Int.reduceBNe, Int.reduceToNat, Int.reduceGT, Int.reduceGE, ↓reduceIte, decide_true, decide_false, Try.f26, Vial.t, Vial.cs, hk, hl, ho, h88, h88b, hv, h8.1, h100, hm, List.length_map, TZ.t, Span.t, Span.cs, hi]
        refine pwpC_loopQ (A := { k : Nat // k ≤ 2 }) (fun k => { env := [(51, .t (.int .i64 k.1)), (50, .t (.agg [.bool false, .bool true])), (12, .mapr 4), (7, .ptr 1 0), (8, .t (.sl ((l.map mid).flatMap Mk.als) l.length false))], heap := [.box (v.cs.map .t), .box (v.cs.map .t), .box ((tilts v (l.map mid)).tilt.cs.map .t), .box ((tilts v (l.map mid)).zero.cs.map .t), .mp 95 (gm (if 1 ≤ k.1 then gainOf v (l.map mid) false else none) (if 2 ≤ k.1 then gainOf v (l.map mid) true else none))] }) (fun k => 2 - k.1) ⟨0, by omega⟩ ?_ (fun k => by rfl) fun Q1 hQ1 ⟨k, hk2⟩ I1 hI1 => ?_
        · simp (decide := true) (maxSteps := 4000000) only [go_sem, Nat.reduceAdd, Nat.reduceSub, Nat.reduceMul, Nat.reduceDiv, Nat.reduceMod, Nat.reduceLT, Nat.reduceLeDiff, Nat.reduceEqDiff, Nat.reduceBEq, Nat.reduceBNe, Nat.reduceGT, Int.reduceAdd, Int.reduceSub, Int.reduceMul, Int.reduceNeg, Int.reduceLT, Int.reduceLE, Int.reduceEq, Int.reduceNe, Int.reduceBEq, Int.reduceBNe, Int.reduceToNat, Int.reduceGT, Int.reduceGE, ↓reduceIte, decide_true, decide_false, Vial.cs, Span.cs, gm_none]
        · rcases (show k = 0 ∨ k = 1 ∨ k = 2 by omega) with rfl | rfl | rfl
          · simp (decide := true) (maxSteps := 4000000) only [go_sem, Nat.reduceAdd, Nat.reduceSub, Nat.reduceMul, Nat.reduceDiv, Nat.reduceMod, Nat.reduceLT, Nat.reduceLeDiff, Nat.reduceEqDiff, Nat.reduceBEq, Nat.reduceBNe, Nat.reduceGT, Int.reduceAdd, Int.reduceSub, Int.reduceMul, Int.reduceNeg, Int.reduceLT, Int.reduceLE, Int.reduceEq, Int.reduceNe, Int.reduceBEq, Int.reduceBNe, Int.reduceToNat, Int.reduceGT, Int.reduceGE, ↓reduceIte, decide_true, decide_false, Vial.cs, Span.cs, w1, w2]
            refine pwpC_loopQ (A := { i : Nat // i ≤ (2 * v.marks + 1).toNat }) (fun i => { env := [(59, .t (.int .i64 i.1)), (58, .t (.int .i64 (2 * v.marks + 1))), (14, .t (.bool false)), (51, .t (.int .i64 0)), (50, .t (.agg [.bool false, .bool true])), (12, .mapr 4), (7, .ptr 1 0), (8, .t (.sl ((l.map mid).flatMap Mk.als) l.length false))], heap := [.box (v.cs.map .t), .box (v.cs.map .t), .box ((tilts v (l.map mid)).tilt.cs.map .t), .box ((tilts v (l.map mid)).zero.cs.map .t), .mp 95 (gm (gainTo v (l.map mid) false i.1) none)] }) (fun i => (2 * v.marks + 1).toNat - i.1) ⟨0, by omega⟩ ?_ (fun i => by rfl) fun Q2 hQ2 ⟨i, hi1⟩ I2 hI2 => ?_
            · simp (decide := true) (maxSteps := 4000000) only [go_sem, Nat.reduceAdd, Nat.reduceSub, Nat.reduceMul, Nat.reduceDiv, Nat.reduceMod, Nat.reduceLT, Nat.reduceLeDiff, Nat.reduceEqDiff, Nat.reduceBEq, Nat.reduceBNe, Nat.reduceGT, Int.reduceAdd, Int.reduceSub, Int.reduceMul, Int.reduceNeg, Int.reduceLT, Int.reduceLE, Int.reduceEq, Int.reduceNe, Int.reduceBEq, Int.reduceBNe, Int.reduceToNat, Int.reduceGT, Int.reduceGE, ↓reduceIte, decide_true, decide_false, Vial.cs, Span.cs, gainTo, range]
            · by_cases hlt : (i : Int) < 2 * v.marks + 1
              · have hc1 : IntKind.i64.wrap (i + 1) = ((i + 1 : Nat) : Int) := by rw [wrap_in (by omega) (by omega)]; omega
                have hd1 : (2 * v.marks + 1).toNat - (i + 1) < (2 * v.marks + 1).toNat - i := by omega
                have hm2 : mksOk (l.map mid ++ [⟨i, false⟩]) = true := by
                  unfold mksOk at hm ⊢
                  rw [List.all_append, hm]
                  simp [inB]; omega
                have hx1 : 1 ≤ (l.map mid ++ [(⟨i, false⟩ : Mk)]).length := by simp
                have hx2 : (l.map mid ++ [(⟨i, false⟩ : Mk)]).length ≤ 100 := by simp; omega
                have hx3 : (l.map mid ++ [(⟨i, false⟩ : Mk)]).length = l.length + 1 := by simp
                have hfl : (List.flatMap Mk.als (l.map mid)).length = l.length := by rw [flat_len Mk.als (n := 1) (fun _ => rfl)]; simp
                have htk : List.take l.length (List.flatMap Mk.als (l.map mid)) = List.flatMap Mk.als (l.map mid) := List.take_of_length_le (by omega)
                have h99 : l.length ≤ 99 := by omega
                have hroom : (l.length + 1) * 16 ≤ 140737488355328 := by omega
                have hn0 : ¬ l.length = 0 := by omega
                have hb := tilts_bound hv hm2
                have hs := gainTo_succ v (l.map mid) false i
                unfold gainStep at hs
                cases hj : (tilts v (l.map mid ++ [⟨i, false⟩])).is with
                | false =>
                  rw [hj] at hs
                  simp (decide := true) (maxSteps := 4000000) only [go_sem, Nat.reduceAdd, Nat.reduceSub, Nat.reduceMul, Nat.reduceDiv, Nat.reduceMod, Nat.reduceLT, Nat.reduceLeDiff, Nat.reduceEqDiff, Nat.reduceBEq, Nat.reduceBNe, Nat.reduceGT, Int.reduceAdd, Int.reduceSub, Int.reduceMul, Int.reduceNeg, Int.reduceLT, Int.reduceLE, Int.reduceEq, Int.reduceNe, Int.reduceBEq, Int.reduceBNe, Int.reduceToNat, Int.reduceGT, Int.reduceGE, ↓reduceIte, decide_true, decide_false, eq_self, Nat.mul_one, Nat.zero_mul, Nat.one_mul, Int.le_refl, Nat.le_refl, Int.cast_ofNat_Int, hlt, Vial.cs, w1, w2, hv, hm2, hx1, hx2, hx3, hfl, htk, hroom, h99, hn0, hj, TZ.t, Span.t, Span.cs]
                  refine hI2 _ ⟨i + 1, by omega⟩ (by simp only; omega) ?_
                  simp (decide := true) (maxSteps := 4000000) only [go_sem, Nat.reduceAdd, Nat.reduceSub, Nat.reduceMul, Nat.reduceDiv, Nat.reduceMod, Nat.reduceLT, Nat.reduceLeDiff, Nat.reduceEqDiff, Nat.reduceBEq, Nat.reduceBNe, Nat.reduceGT, Int.reduceAdd, Int.reduceSub, Int.reduceMul, Int.reduceNeg, Int.reduceLT, Int.reduceLE, Int.reduceEq, Int.reduceNe, Int.reduceBEq, Int.reduceBNe, Int.reduceToNat, Int.reduceGT, Int.reduceGE, ↓reduceIte, decide_true, decide_false, hc1, hd1, Vial.cs, Span.cs, hs]
                | true =>
                  rw [hj] at hs
                  unfold wideT at hs
                  have w4 : IntKind.i64.wrap ((tilts v (l.map mid ++ [⟨i, false⟩])).tilt.hi - (tilts v (l.map mid ++ [⟨i, false⟩])).tilt.lo) = (tilts v (l.map mid ++ [⟨i, false⟩])).tilt.hi - (tilts v (l.map mid ++ [⟨i, false⟩])).tilt.lo := wrap_in (by omega) (by omega)
                  cases hg : gainTo v (l.map mid) false i with
                  | none =>
                    rw [hg] at hs
                    simp (decide := true) (maxSteps := 4000000) only [go_sem, Nat.reduceAdd, Nat.reduceSub, Nat.reduceMul, Nat.reduceDiv, Nat.reduceMod, Nat.reduceLT, Nat.reduceLeDiff, Nat.reduceEqDiff, Nat.reduceBEq, Nat.reduceBNe, Nat.reduceGT, Int.reduceAdd, Int.reduceSub, Int.reduceMul, Int.reduceNeg, Int.reduceLT, Int.reduceLE, Int.reduceEq, Int.reduceNe, Int.reduceBEq, Int.reduceBNe, Int.reduceToNat, Int.reduceGT, Int.reduceGE, ↓reduceIte, decide_true, decide_false, eq_self, Nat.mul_one, Nat.zero_mul, Nat.one_mul, Int.le_refl, Nat.le_refl, Int.cast_ofNat_Int, hlt, Vial.cs, w1, w2, hv, hm2, hx1, hx2, hx3, hfl, htk, hroom, h99, hn0, hj, TZ.t, Span.t, Span.cs, hg, gm_f, gm_t, gm_uf, gm_ut, w4]
                    refine hI2 _ ⟨i + 1, by omega⟩ (by simp only; omega) ?_
                    simp (decide := true) (maxSteps := 4000000) only [go_sem, Nat.reduceAdd, Nat.reduceSub, Nat.reduceMul, Nat.reduceDiv, Nat.reduceMod, Nat.reduceLT, Nat.reduceLeDiff, Nat.reduceEqDiff, Nat.reduceBEq, Nat.reduceBNe, Nat.reduceGT, Int.reduceAdd, Int.reduceSub, Int.reduceMul, Int.reduceNeg, Int.reduceLT, Int.reduceLE, Int.reduceEq, Int.reduceNe, Int.reduceBEq, Int.reduceBNe, Int.reduceToNat, Int.reduceGT, Int.reduceGE, ↓reduceIte, decide_true, decide_false, hc1, hd1, Vial.cs, Span.cs, hs]
                  | some n =>
                    rw [hg] at hs
                    simp only [if_true] at hs
                    by_cases hgt : (tilts v (l.map mid ++ [⟨i, false⟩])).tilt.hi - (tilts v (l.map mid ++ [⟨i, false⟩])).tilt.lo > n
                    · have hmx : max n ((tilts v (l.map mid ++ [⟨i, false⟩])).tilt.hi - (tilts v (l.map mid ++ [⟨i, false⟩])).tilt.lo) = (tilts v (l.map mid ++ [⟨i, false⟩])).tilt.hi - (tilts v (l.map mid ++ [⟨i, false⟩])).tilt.lo := by omega
                      rw [hmx] at hs
                      simp (decide := true) (maxSteps := 4000000) only [go_sem, Nat.reduceAdd, Nat.reduceSub, Nat.reduceMul, Nat.reduceDiv, Nat.reduceMod, Nat.reduceLT, Nat.reduceLeDiff, Nat.reduceEqDiff, Nat.reduceBEq, Nat.reduceBNe, Nat.reduceGT, Int.reduceAdd, Int.reduceSub, Int.reduceMul, Int.reduceNeg, Int.reduceLT, Int.reduceLE, Int.reduceEq, Int.reduceNe, Int.reduceBEq, Int.reduceBNe, Int.reduceToNat, Int.reduceGT, Int.reduceGE, ↓reduceIte, decide_true, decide_false, eq_self, Nat.mul_one, Nat.zero_mul, Nat.one_mul, Int.le_refl, Nat.le_refl, Int.cast_ofNat_Int, hlt, Vial.cs, w1, w2, hv, hm2, hx1, hx2, hx3, hfl, htk, hroom, h99, hn0, hj, TZ.t, Span.t, Span.cs, hg, gm_f, gm_t, gm_uf, gm_ut, w4, hgt]
                      refine hI2 _ ⟨i + 1, by omega⟩ (by simp only; omega) ?_
                      simp (decide := true) (maxSteps := 4000000) only [go_sem, Nat.reduceAdd, Nat.reduceSub, Nat.reduceMul, Nat.reduceDiv, Nat.reduceMod, Nat.reduceLT, Nat.reduceLeDiff, Nat.reduceEqDiff, Nat.reduceBEq, Nat.reduceBNe, Nat.reduceGT, Int.reduceAdd, Int.reduceSub, Int.reduceMul, Int.reduceNeg, Int.reduceLT, Int.reduceLE, Int.reduceEq, Int.reduceNe, Int.reduceBEq, Int.reduceBNe, Int.reduceToNat, Int.reduceGT, Int.reduceGE, ↓reduceIte, decide_true, decide_false, hc1, hd1, Vial.cs, Span.cs, hs]
                    · have hmx : max n ((tilts v (l.map mid ++ [⟨i, false⟩])).tilt.hi - (tilts v (l.map mid ++ [⟨i, false⟩])).tilt.lo) = n := by omega
                      rw [hmx] at hs
                      simp (decide := true) (maxSteps := 4000000) only [go_sem, Nat.reduceAdd, Nat.reduceSub, Nat.reduceMul, Nat.reduceDiv, Nat.reduceMod, Nat.reduceLT, Nat.reduceLeDiff, Nat.reduceEqDiff, Nat.reduceBEq, Nat.reduceBNe, Nat.reduceGT, Int.reduceAdd, Int.reduceSub, Int.reduceMul, Int.reduceNeg, Int.reduceLT, Int.reduceLE, Int.reduceEq, Int.reduceNe, Int.reduceBEq, Int.reduceBNe, Int.reduceToNat, Int.reduceGT, Int.reduceGE, ↓reduceIte, decide_true, decide_false, eq_self, Nat.mul_one, Nat.zero_mul, Nat.one_mul, Int.le_refl, Nat.le_refl, Int.cast_ofNat_Int, hlt, Vial.cs, w1, w2, hv, hm2, hx1, hx2, hx3, hfl, htk, hroom, h99, hn0, hj, TZ.t, Span.t, Span.cs, hg, gm_f, gm_t, gm_uf, gm_ut, w4, hgt]
                      refine hI2 _ ⟨i + 1, by omega⟩ (by simp only; omega) ?_
                      simp (decide := true) (maxSteps := 4000000) only [go_sem, Nat.reduceAdd, Nat.reduceSub, Nat.reduceMul, Nat.reduceDiv, Nat.reduceMod, Nat.reduceLT, Nat.reduceLeDiff, Nat.reduceEqDiff, Nat.reduceBEq, Nat.reduceBNe, Nat.reduceGT, Int.reduceAdd, Int.reduceSub, Int.reduceMul, Int.reduceNeg, Int.reduceLT, Int.reduceLE, Int.reduceEq, Int.reduceNe, Int.reduceBEq, Int.reduceBNe, Int.reduceToNat, Int.reduceGT, Int.reduceGE, ↓reduceIte, decide_true, decide_false, hc1, hd1, Vial.cs, Span.cs, hs, hg]
              · have hie : i = (2 * v.marks + 1).toNat := by omega
                subst hie
                have hge : gainTo v (l.map mid) false (2 * v.marks + 1).toNat = gainOf v (l.map mid) false := rfl
                simp (decide := true) (maxSteps := 4000000) only [go_sem, Nat.reduceAdd, Nat.reduceSub, Nat.reduceMul, Nat.reduceDiv, Nat.reduceMod, Nat.reduceLT, Nat.reduceLeDiff, Nat.reduceEqDiff, Nat.reduceBEq, Nat.reduceBNe, Nat.reduceGT, Int.reduceAdd, Int.reduceSub, Int.reduceMul, Int.reduceNeg, Int.reduceLT, Int.reduceLE, Int.reduceEq, Int.reduceNe, Int.reduceBEq, Int.reduceBNe, Int.reduceToNat, Int.reduceGT, Int.reduceGE, ↓reduceIte, decide_true, decide_false, hlt]
                refine hQ2 _ _ ?_
                simp (decide := true) (maxSteps := 4000000) only [go_sem, Nat.reduceAdd, Nat.reduceSub, Nat.reduceMul, Nat.reduceDiv, Nat.reduceMod, Nat.reduceLT, Nat.reduceLeDiff, Nat.reduceEqDiff, Nat.reduceBEq, Nat.reduceBNe, Nat.reduceGT, Int.reduceAdd, Int.reduceSub, Int.reduceMul, Int.reduceNeg, Int.reduceLT, Int.reduceLE, Int.reduceEq, Int.reduceNe, Int.reduceBEq, Int.reduceBNe, Int.reduceToNat, Int.reduceGT, Int.reduceGE, ↓reduceIte, decide_true, decide_false, Vial.cs, Span.cs, hge]
                refine hI1 _ ⟨0 + 1, by omega⟩ (by simp) ?_
                simp (decide := true) (maxSteps := 4000000) only [go_sem, Nat.reduceAdd, Nat.reduceSub, Nat.reduceMul, Nat.reduceDiv, Nat.reduceMod, Nat.reduceLT, Nat.reduceLeDiff, Nat.reduceEqDiff, Nat.reduceBEq, Nat.reduceBNe, Nat.reduceGT, Int.reduceAdd, Int.reduceSub, Int.reduceMul, Int.reduceNeg, Int.reduceLT, Int.reduceLE, Int.reduceEq, Int.reduceNe, Int.reduceBEq, Int.reduceBNe, Int.reduceToNat, Int.reduceGT, Int.reduceGE, ↓reduceIte, decide_true, decide_false, Vial.cs, Span.cs]
          · simp (decide := true) (maxSteps := 4000000) only [go_sem, Nat.reduceAdd, Nat.reduceSub, Nat.reduceMul, Nat.reduceDiv, Nat.reduceMod, Nat.reduceLT, Nat.reduceLeDiff, Nat.reduceEqDiff, Nat.reduceBEq, Nat.reduceBNe, Nat.reduceGT, Int.reduceAdd, Int.reduceSub, Int.reduceMul, Int.reduceNeg, Int.reduceLT, Int.reduceLE, Int.reduceEq, Int.reduceNe, Int.reduceBEq, Int.reduceBNe, Int.reduceToNat, Int.reduceGT, Int.reduceGE, ↓reduceIte, decide_true, decide_false, Vial.cs, Span.cs, w1, w2]
            refine pwpC_loopQ (A := { i : Nat // i ≤ (2 * v.marks + 1).toNat }) (fun i => { env := [(59, .t (.int .i64 i.1)), (58, .t (.int .i64 (2 * v.marks + 1))), (14, .t (.bool true)), (51, .t (.int .i64 1)), (50, .t (.agg [.bool false, .bool true])), (12, .mapr 4), (7, .ptr 1 0), (8, .t (.sl ((l.map mid).flatMap Mk.als) l.length false))], heap := [.box (v.cs.map .t), .box (v.cs.map .t), .box ((tilts v (l.map mid)).tilt.cs.map .t), .box ((tilts v (l.map mid)).zero.cs.map .t), .mp 95 (gm (gainOf v (l.map mid) false) (gainTo v (l.map mid) true i.1))] }) (fun i => (2 * v.marks + 1).toNat - i.1) ⟨0, by omega⟩ ?_ (fun i => by rfl) fun Q2 hQ2 ⟨i, hi1⟩ I2 hI2 => ?_
            · simp (decide := true) (maxSteps := 4000000) only [go_sem, Nat.reduceAdd, Nat.reduceSub, Nat.reduceMul, Nat.reduceDiv, Nat.reduceMod, Nat.reduceLT, Nat.reduceLeDiff, Nat.reduceEqDiff, Nat.reduceBEq, Nat.reduceBNe, Nat.reduceGT, Int.reduceAdd, Int.reduceSub, Int.reduceMul, Int.reduceNeg, Int.reduceLT, Int.reduceLE, Int.reduceEq, Int.reduceNe, Int.reduceBEq, Int.reduceBNe, Int.reduceToNat, Int.reduceGT, Int.reduceGE, ↓reduceIte, decide_true, decide_false, Vial.cs, Span.cs, gainTo, range]
            · by_cases hlt : (i : Int) < 2 * v.marks + 1
              · have hc1 : IntKind.i64.wrap (i + 1) = ((i + 1 : Nat) : Int) := by rw [wrap_in (by omega) (by omega)]; omega
                have hd1 : (2 * v.marks + 1).toNat - (i + 1) < (2 * v.marks + 1).toNat - i := by omega
                have hm2 : mksOk (l.map mid ++ [⟨i, true⟩]) = true := by
                  unfold mksOk at hm ⊢
                  rw [List.all_append, hm]
                  simp [inB]; omega
                have hx1 : 1 ≤ (l.map mid ++ [(⟨i, true⟩ : Mk)]).length := by simp
                have hx2 : (l.map mid ++ [(⟨i, true⟩ : Mk)]).length ≤ 100 := by simp; omega
                have hx3 : (l.map mid ++ [(⟨i, true⟩ : Mk)]).length = l.length + 1 := by simp
                have hfl : (List.flatMap Mk.als (l.map mid)).length = l.length := by rw [flat_len Mk.als (n := 1) (fun _ => rfl)]; simp
                have htk : List.take l.length (List.flatMap Mk.als (l.map mid)) = List.flatMap Mk.als (l.map mid) := List.take_of_length_le (by omega)
                have h99 : l.length ≤ 99 := by omega
                have hroom : (l.length + 1) * 16 ≤ 140737488355328 := by omega
                have hn0 : ¬ l.length = 0 := by omega
                have hb := tilts_bound hv hm2
                have hs := gainTo_succ v (l.map mid) true i
                unfold gainStep at hs
                cases hj : (tilts v (l.map mid ++ [⟨i, true⟩])).is with
                | false =>
                  rw [hj] at hs
                  simp (decide := true) (maxSteps := 4000000) only [go_sem, Nat.reduceAdd, Nat.reduceSub, Nat.reduceMul, Nat.reduceDiv, Nat.reduceMod, Nat.reduceLT, Nat.reduceLeDiff, Nat.reduceEqDiff, Nat.reduceBEq, Nat.reduceBNe, Nat.reduceGT, Int.reduceAdd, Int.reduceSub, Int.reduceMul, Int.reduceNeg, Int.reduceLT, Int.reduceLE, Int.reduceEq, Int.reduceNe, Int.reduceBEq, Int.reduceBNe, Int.reduceToNat, Int.reduceGT, Int.reduceGE, ↓reduceIte, decide_true, decide_false, eq_self, Nat.mul_one, Nat.zero_mul, Nat.one_mul, Int.le_refl, Nat.le_refl, Int.cast_ofNat_Int, hlt, Vial.cs, w1, w2, hv, hm2, hx1, hx2, hx3, hfl, htk, hroom, h99, hn0, hj, TZ.t, Span.t, Span.cs]
                  refine hI2 _ ⟨i + 1, by omega⟩ (by simp only; omega) ?_
                  simp (decide := true) (maxSteps := 4000000) only [go_sem, Nat.reduceAdd, Nat.reduceSub, Nat.reduceMul, Nat.reduceDiv, Nat.reduceMod, Nat.reduceLT, Nat.reduceLeDiff, Nat.reduceEqDiff, Nat.reduceBEq, Nat.reduceBNe, Nat.reduceGT, Int.reduceAdd, Int.reduceSub, Int.reduceMul, Int.reduceNeg, Int.reduceLT, Int.reduceLE, Int.reduceEq, Int.reduceNe, Int.reduceBEq, Int.reduceBNe, Int.reduceToNat, Int.reduceGT, Int.reduceGE, ↓reduceIte, decide_true, decide_false, hc1, hd1, Vial.cs, Span.cs, hs]
                | true =>
                  rw [hj] at hs
                  unfold wideT at hs
                  have w4 : IntKind.i64.wrap ((tilts v (l.map mid ++ [⟨i, true⟩])).tilt.hi - (tilts v (l.map mid ++ [⟨i, true⟩])).tilt.lo) = (tilts v (l.map mid ++ [⟨i, true⟩])).tilt.hi - (tilts v (l.map mid ++ [⟨i, true⟩])).tilt.lo := wrap_in (by omega) (by omega)
                  cases hg : gainTo v (l.map mid) true i with
                  | none =>
                    rw [hg] at hs
                    simp (decide := true) (maxSteps := 4000000) only [go_sem, Nat.reduceAdd, Nat.reduceSub, Nat.reduceMul, Nat.reduceDiv, Nat.reduceMod, Nat.reduceLT, Nat.reduceLeDiff, Nat.reduceEqDiff, Nat.reduceBEq, Nat.reduceBNe, Nat.reduceGT, Int.reduceAdd, Int.reduceSub, Int.reduceMul, Int.reduceNeg, Int.reduceLT, Int.reduceLE, Int.reduceEq, Int.reduceNe, Int.reduceBEq, Int.reduceBNe, Int.reduceToNat, Int.reduceGT, Int.reduceGE, ↓reduceIte, decide_true, decide_false, eq_self, Nat.mul_one, Nat.zero_mul, Nat.one_mul, Int.le_refl, Nat.le_refl, Int.cast_ofNat_Int, hlt, Vial.cs, w1, w2, hv, hm2, hx1, hx2, hx3, hfl, htk, hroom, h99, hn0, hj, TZ.t, Span.t, Span.cs, hg, gm_f, gm_t, gm_uf, gm_ut, w4]
                    refine hI2 _ ⟨i + 1, by omega⟩ (by simp only; omega) ?_
                    simp (decide := true) (maxSteps := 4000000) only [go_sem, Nat.reduceAdd, Nat.reduceSub, Nat.reduceMul, Nat.reduceDiv, Nat.reduceMod, Nat.reduceLT, Nat.reduceLeDiff, Nat.reduceEqDiff, Nat.reduceBEq, Nat.reduceBNe, Nat.reduceGT, Int.reduceAdd, Int.reduceSub, Int.reduceMul, Int.reduceNeg, Int.reduceLT, Int.reduceLE, Int.reduceEq, Int.reduceNe, Int.reduceBEq, Int.reduceBNe, Int.reduceToNat, Int.reduceGT, Int.reduceGE, ↓reduceIte, decide_true, decide_false, hc1, hd1, Vial.cs, Span.cs, hs]
                  | some n =>
                    rw [hg] at hs
                    simp only [if_true] at hs
                    by_cases hgt : (tilts v (l.map mid ++ [⟨i, true⟩])).tilt.hi - (tilts v (l.map mid ++ [⟨i, true⟩])).tilt.lo > n
                    · have hmx : max n ((tilts v (l.map mid ++ [⟨i, true⟩])).tilt.hi - (tilts v (l.map mid ++ [⟨i, true⟩])).tilt.lo) = (tilts v (l.map mid ++ [⟨i, true⟩])).tilt.hi - (tilts v (l.map mid ++ [⟨i, true⟩])).tilt.lo := by omega
                      rw [hmx] at hs
                      simp (decide := true) (maxSteps := 4000000) only [go_sem, Nat.reduceAdd, Nat.reduceSub, Nat.reduceMul, Nat.reduceDiv, Nat.reduceMod, Nat.reduceLT, Nat.reduceLeDiff, Nat.reduceEqDiff, Nat.reduceBEq, Nat.reduceBNe, Nat.reduceGT, Int.reduceAdd, Int.reduceSub, Int.reduceMul, Int.reduceNeg, Int.reduceLT, Int.reduceLE, Int.reduceEq, Int.reduceNe, Int.reduceBEq, Int.reduceBNe, Int.reduceToNat, Int.reduceGT, Int.reduceGE, ↓reduceIte, decide_true, decide_false, eq_self, Nat.mul_one, Nat.zero_mul, Nat.one_mul, Int.le_refl, Nat.le_refl, Int.cast_ofNat_Int, hlt, Vial.cs, w1, w2, hv, hm2, hx1, hx2, hx3, hfl, htk, hroom, h99, hn0, hj, TZ.t, Span.t, Span.cs, hg, gm_f, gm_t, gm_uf, gm_ut, w4, hgt]
                      refine hI2 _ ⟨i + 1, by omega⟩ (by simp only; omega) ?_
                      simp (decide := true) (maxSteps := 4000000) only [go_sem, Nat.reduceAdd, Nat.reduceSub, Nat.reduceMul, Nat.reduceDiv, Nat.reduceMod, Nat.reduceLT, Nat.reduceLeDiff, Nat.reduceEqDiff, Nat.reduceBEq, Nat.reduceBNe, Nat.reduceGT, Int.reduceAdd, Int.reduceSub, Int.reduceMul, Int.reduceNeg, Int.reduceLT, Int.reduceLE, Int.reduceEq, Int.reduceNe, Int.reduceBEq, Int.reduceBNe, Int.reduceToNat, Int.reduceGT, Int.reduceGE, ↓reduceIte, decide_true, decide_false, hc1, hd1, Vial.cs, Span.cs, hs]
                    · have hmx : max n ((tilts v (l.map mid ++ [⟨i, true⟩])).tilt.hi - (tilts v (l.map mid ++ [⟨i, true⟩])).tilt.lo) = n := by omega
                      rw [hmx] at hs
                      simp (decide := true) (maxSteps := 4000000) only [go_sem, Nat.reduceAdd, Nat.reduceSub, Nat.reduceMul, Nat.reduceDiv, Nat.reduceMod, Nat.reduceLT, Nat.reduceLeDiff, Nat.reduceEqDiff, Nat.reduceBEq, Nat.reduceBNe, Nat.reduceGT, Int.reduceAdd, Int.reduceSub, Int.reduceMul, Int.reduceNeg, Int.reduceLT, Int.reduceLE, Int.reduceEq, Int.reduceNe, Int.reduceBEq, Int.reduceBNe, Int.reduceToNat, Int.reduceGT, Int.reduceGE, ↓reduceIte, decide_true, decide_false, eq_self, Nat.mul_one, Nat.zero_mul, Nat.one_mul, Int.le_refl, Nat.le_refl, Int.cast_ofNat_Int, hlt, Vial.cs, w1, w2, hv, hm2, hx1, hx2, hx3, hfl, htk, hroom, h99, hn0, hj, TZ.t, Span.t, Span.cs, hg, gm_f, gm_t, gm_uf, gm_ut, w4, hgt]
                      refine hI2 _ ⟨i + 1, by omega⟩ (by simp only; omega) ?_
                      simp (decide := true) (maxSteps := 4000000) only [go_sem, Nat.reduceAdd, Nat.reduceSub, Nat.reduceMul, Nat.reduceDiv, Nat.reduceMod, Nat.reduceLT, Nat.reduceLeDiff, Nat.reduceEqDiff, Nat.reduceBEq, Nat.reduceBNe, Nat.reduceGT, Int.reduceAdd, Int.reduceSub, Int.reduceMul, Int.reduceNeg, Int.reduceLT, Int.reduceLE, Int.reduceEq, Int.reduceNe, Int.reduceBEq, Int.reduceBNe, Int.reduceToNat, Int.reduceGT, Int.reduceGE, ↓reduceIte, decide_true, decide_false, hc1, hd1, Vial.cs, Span.cs, hs, hg]
              · have hie : i = (2 * v.marks + 1).toNat := by omega
                subst hie
                have hge : gainTo v (l.map mid) true (2 * v.marks + 1).toNat = gainOf v (l.map mid) true := rfl
                simp (decide := true) (maxSteps := 4000000) only [go_sem, Nat.reduceAdd, Nat.reduceSub, Nat.reduceMul, Nat.reduceDiv, Nat.reduceMod, Nat.reduceLT, Nat.reduceLeDiff, Nat.reduceEqDiff, Nat.reduceBEq, Nat.reduceBNe, Nat.reduceGT, Int.reduceAdd, Int.reduceSub, Int.reduceMul, Int.reduceNeg, Int.reduceLT, Int.reduceLE, Int.reduceEq, Int.reduceNe, Int.reduceBEq, Int.reduceBNe, Int.reduceToNat, Int.reduceGT, Int.reduceGE, ↓reduceIte, decide_true, decide_false, hlt]
                refine hQ2 _ _ ?_
                simp (decide := true) (maxSteps := 4000000) only [go_sem, Nat.reduceAdd, Nat.reduceSub, Nat.reduceMul, Nat.reduceDiv, Nat.reduceMod, Nat.reduceLT, Nat.reduceLeDiff, Nat.reduceEqDiff, Nat.reduceBEq, Nat.reduceBNe, Nat.reduceGT, Int.reduceAdd, Int.reduceSub, Int.reduceMul, Int.reduceNeg, Int.reduceLT, Int.reduceLE, Int.reduceEq, Int.reduceNe, Int.reduceBEq, Int.reduceBNe, Int.reduceToNat, Int.reduceGT, Int.reduceGE, ↓reduceIte, decide_true, decide_false, Vial.cs, Span.cs, hge]
                refine hI1 _ ⟨1 + 1, by omega⟩ (by simp) ?_
                simp (decide := true) (maxSteps := 4000000) only [go_sem, Nat.reduceAdd, Nat.reduceSub, Nat.reduceMul, Nat.reduceDiv, Nat.reduceMod, Nat.reduceLT, Nat.reduceLeDiff, Nat.reduceEqDiff, Nat.reduceBEq, Nat.reduceBNe, Nat.reduceGT, Int.reduceAdd, Int.reduceSub, Int.reduceMul, Int.reduceNeg, Int.reduceLT, Int.reduceLE, Int.reduceEq, Int.reduceNe, Int.reduceBEq, Int.reduceBNe, Int.reduceToNat, Int.reduceGT, Int.reduceGE, ↓reduceIte, decide_true, decide_false, Vial.cs, Span.cs]
          · simp (decide := true) (maxSteps := 4000000) only [go_sem, Nat.reduceAdd, Nat.reduceSub, Nat.reduceMul, Nat.reduceDiv, Nat.reduceMod, Nat.reduceLT, Nat.reduceLeDiff, Nat.reduceEqDiff, Nat.reduceBEq, Nat.reduceBNe, Nat.reduceGT, Int.reduceAdd, Int.reduceSub, Int.reduceMul, Int.reduceNeg, Int.reduceLT, Int.reduceLE, Int.reduceEq, Int.reduceNe, Int.reduceBEq, Int.reduceBNe, Int.reduceToNat, Int.reduceGT, Int.reduceGE, ↓reduceIte, decide_true, decide_false]
            refine hQ1 _ _ ?_
            cases hd : gainOf v (l.map mid) false <;> cases ht : gainOf v (l.map mid) true
            · simp (decide := true) (maxSteps := 4000000) only [go_sem, Nat.reduceAdd, Nat.reduceSub, Nat.reduceMul, Nat.reduceDiv, Nat.reduceMod, Nat.reduceLT, Nat.reduceLeDiff, Nat.reduceEqDiff, Nat.reduceBEq, Nat.reduceBNe, Nat.reduceGT, Int.reduceAdd, Int.reduceSub, Int.reduceMul, Int.reduceNeg, Int.reduceLT, Int.reduceLE, Int.reduceEq, Int.reduceNe, Int.reduceBEq, Int.reduceBNe, Int.reduceToNat, Int.reduceGT, Int.reduceGE, ↓reduceIte, decide_true, decide_false, Vial.cs, Span.cs, hd, ht, gm_f, gm_t]
            · simp (decide := true) (maxSteps := 4000000) only [go_sem, Nat.reduceAdd, Nat.reduceSub, Nat.reduceMul, Nat.reduceDiv, Nat.reduceMod, Nat.reduceLT, Nat.reduceLeDiff, Nat.reduceEqDiff, Nat.reduceBEq, Nat.reduceBNe, Nat.reduceGT, Int.reduceAdd, Int.reduceSub, Int.reduceMul, Int.reduceNeg, Int.reduceLT, Int.reduceLE, Int.reduceEq, Int.reduceNe, Int.reduceBEq, Int.reduceBNe, Int.reduceToNat, Int.reduceGT, Int.reduceGE, ↓reduceIte, decide_true, decide_false, Vial.cs, Span.cs, hd, ht, gm_f, gm_t]
            · simp (decide := true) (maxSteps := 4000000) only [go_sem, Nat.reduceAdd, Nat.reduceSub, Nat.reduceMul, Nat.reduceDiv, Nat.reduceMod, Nat.reduceLT, Nat.reduceLeDiff, Nat.reduceEqDiff, Nat.reduceBEq, Nat.reduceBNe, Nat.reduceGT, Int.reduceAdd, Int.reduceSub, Int.reduceMul, Int.reduceNeg, Int.reduceLT, Int.reduceLE, Int.reduceEq, Int.reduceNe, Int.reduceBEq, Int.reduceBNe, Int.reduceToNat, Int.reduceGT, Int.reduceGE, ↓reduceIte, decide_true, decide_false, Vial.cs, Span.cs, hd, ht, gm_f, gm_t]
            · rename_i d t
              by_cases hlt : t < d <;> simp (decide := true) (maxSteps := 4000000) only [go_sem, Nat.reduceAdd, Nat.reduceSub, Nat.reduceMul, Nat.reduceDiv, Nat.reduceMod, Nat.reduceLT, Nat.reduceLeDiff, Nat.reduceEqDiff, Nat.reduceBEq, Nat.reduceBNe, Nat.reduceGT, Int.reduceAdd, Int.reduceSub, Int.reduceMul, Int.reduceNeg, Int.reduceLT, Int.reduceLE, Int.reduceEq, Int.reduceNe, Int.reduceBEq, Int.reduceBNe, Int.reduceToNat, Int.reduceGT, Int.reduceGE, ↓reduceIte, decide_true, decide_false, Vial.cs, Span.cs, hd, ht, gm_f, gm_t, hlt]
  · obtain ⟨u, ho⟩ := openedT_no hk
    have hk' : (asked v l != 0) = true := by simpa using hk
    rcases hs with ⟨rfl, rfl⟩ | ⟨full, rfl⟩ <;> simp (decide := true) (maxSteps := 4000000) only [go_sem, Nat.reduceAdd, Nat.reduceSub, Nat.reduceMul, Nat.reduceDiv, Nat.reduceMod, Nat.reduceLT, Nat.reduceLeDiff, Nat.reduceEqDiff, Nat.reduceBEq, Nat.reduceBNe, Nat.reduceGT, Int.reduceAdd, Int.reduceSub, Int.reduceMul, Int.reduceNeg, Int.reduceLT, Int.reduceLE, Int.reduceEq, Int.reduceNe, Int.reduceBEq, Int.reduceBNe, Int.reduceToNat, Int.reduceGT, Int.reduceGE, ↓reduceIte, decide_true, decide_false, Try.f26, Vial.t, Vial.cs, unRds, hl, ho, hk, hk']
end Go.Proofs.Ytgofljmnlfnlnaa
