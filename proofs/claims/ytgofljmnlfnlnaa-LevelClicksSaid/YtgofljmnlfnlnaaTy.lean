/- What the pure machine asks of the types of this dump: closed facts, printed by types.py. -/
import Derived.Test.YtgofljmnlfnlnaaRows
import Derived.Test.YtgofljmnlfnlnaaQmZ
namespace Go.Proofs.Ytgofljmnlfnlnaa
open Go.Pm
@[go_sem] theorem Try.agg1 : aggO Try.prog 1 = some false := by kernel_rfl
@[go_sem] theorem Try.pln1 : plainO Try.prog 1 = some true := by kernel_rfl
@[go_sem] theorem Try.sz1 : szO Try.prog 1 = some 1 := by kernel_rfl
@[go_sem] theorem Try.zero1 : zeroL Try.prog 1 = some [.nilFn] := by kernel_rfl
@[go_sem] theorem Try.small1 : smallO Try.prog 1 = some (1, 8) := by kernel_rfl
@[go_sem] theorem Try.zt1 : zeroT Try.prog 1 = some (.nilFn) := by kernel_rfl
@[go_sem] theorem Try.agg2 : aggO Try.prog 2 = some false := by kernel_rfl
@[go_sem] theorem Try.pln2 : plainO Try.prog 2 = some true := by kernel_rfl
@[go_sem] theorem Try.sz2 : szO Try.prog 2 = some 1 := by kernel_rfl
@[go_sem] theorem Try.zero2 : zeroL Try.prog 2 = some [.int .i64 0] := by kernel_rfl
@[go_sem] theorem Try.small2 : smallO Try.prog 2 = some (1, 8) := by kernel_rfl
@[go_sem] theorem Try.zt2 : zeroT Try.prog 2 = some (.int .i64 0) := by kernel_rfl
@[go_sem] theorem Try.knd2 : kindO Try.prog 2 = some .i64 := by kernel_rfl
@[go_sem] theorem Try.und2 : Program.underlying Try.prog 2 = some (.int .i64) := by kernel_rfl
@[go_sem] theorem Try.agg3 : aggO Try.prog 3 = some false := by kernel_rfl
@[go_sem] theorem Try.pln3 : plainO Try.prog 3 = some true := by kernel_rfl
@[go_sem] theorem Try.sz3 : szO Try.prog 3 = some 1 := by kernel_rfl
@[go_sem] theorem Try.zero3 : zeroL Try.prog 3 = some [.int .i64 0] := by kernel_rfl
@[go_sem] theorem Try.small3 : smallO Try.prog 3 = some (1, 8) := by kernel_rfl
@[go_sem] theorem Try.zt3 : zeroT Try.prog 3 = some (.int .i64 0) := by kernel_rfl
@[go_sem] theorem Try.knd3 : kindO Try.prog 3 = some .i64 := by kernel_rfl
@[go_sem] theorem Try.und3 : Program.underlying Try.prog 3 = some (.int .i64) := by kernel_rfl
@[go_sem] theorem Try.agg4 : aggO Try.prog 4 = some false := by kernel_rfl
@[go_sem] theorem Try.pln4 : plainO Try.prog 4 = some true := by kernel_rfl
@[go_sem] theorem Try.sz4 : szO Try.prog 4 = some 1 := by kernel_rfl
@[go_sem] theorem Try.zero4 : zeroL Try.prog 4 = some [.bool false] := by kernel_rfl
@[go_sem] theorem Try.small4 : smallO Try.prog 4 = some (1, 1) := by kernel_rfl
@[go_sem] theorem Try.zt4 : zeroT Try.prog 4 = some (.bool false) := by kernel_rfl
@[go_sem] theorem Try.und4 : Program.underlying Try.prog 4 = some .bool := by kernel_rfl
@[go_sem] theorem Try.agg5 : aggO Try.prog 5 = some false := by kernel_rfl
@[go_sem] theorem Try.pln5 : plainO Try.prog 5 = some true := by kernel_rfl
@[go_sem] theorem Try.sz5 : szO Try.prog 5 = some 1 := by kernel_rfl
@[go_sem] theorem Try.zero5 : zeroL Try.prog 5 = some [.int .u8 0] := by kernel_rfl
@[go_sem] theorem Try.small5 : smallO Try.prog 5 = some (1, 1) := by kernel_rfl
@[go_sem] theorem Try.zt5 : zeroT Try.prog 5 = some (.int .u8 0) := by kernel_rfl
@[go_sem] theorem Try.knd5 : kindO Try.prog 5 = some .u8 := by kernel_rfl
@[go_sem] theorem Try.und5 : Program.underlying Try.prog 5 = some (.int .u8) := by kernel_rfl
@[go_sem] theorem Try.agg7 : aggO Try.prog 7 = some true := by kernel_rfl
@[go_sem] theorem Try.pln7 : plainO Try.prog 7 = some true := by kernel_rfl
@[go_sem] theorem Try.sz7 : szO Try.prog 7 = some 4 := by kernel_rfl
@[go_sem] theorem Try.zero7 : zeroL Try.prog 7 = some [.int .i64 0, .int .i64 0, .bool false, .int .u8 0] := by kernel_rfl
@[go_sem] theorem Try.small7 : smallO Try.prog 7 = some (4, 24) := by kernel_rfl
@[go_sem] theorem Try.zt7 : zeroT Try.prog 7 = some (.agg [.int .i64 0, .int .i64 0, .bool false, .int .u8 0]) := by kernel_rfl
@[go_sem] theorem Try.fld7_0 : fieldO Try.prog 7 0 = some (0, 2) := by kernel_rfl
@[go_sem] theorem Try.fld7_1 : fieldO Try.prog 7 1 = some (1, 3) := by kernel_rfl
@[go_sem] theorem Try.fld7_2 : fieldO Try.prog 7 2 = some (2, 4) := by kernel_rfl
@[go_sem] theorem Try.fld7_3 : fieldO Try.prog 7 3 = some (3, 6) := by kernel_rfl
@[go_sem] theorem Try.bld7 (parts : List (Nat × TV)) : buildO Try.prog 7 parts = (fillT (fun i => ([(0, 1), (1, 1), (2, 1), (3, 1)] : List (Nat × Nat))[i]?) [.int .i64 0, .int .i64 0, .bool false, .int .u8 0] parts).map .agg := by kernel_rfl
@[go_sem] theorem Try.eqg7 : Program.eqGuardType Try.prog (Program.depth Try.prog) 7 = false := by kernel_rfl
@[go_sem] theorem Try.agg9 : aggO Try.prog 9 = some false := by kernel_rfl
@[go_sem] theorem Try.pln9 : plainO Try.prog 9 = some true := by kernel_rfl
@[go_sem] theorem Try.sz9 : szO Try.prog 9 = some 1 := by kernel_rfl
@[go_sem] theorem Try.zero9 : zeroL Try.prog 9 = some [.str ⟨#[]⟩] := by kernel_rfl
@[go_sem] theorem Try.small9 : smallO Try.prog 9 = some (1, 16) := by kernel_rfl
@[go_sem] theorem Try.zt9 : zeroT Try.prog 9 = some (.str ⟨#[]⟩) := by kernel_rfl
@[go_sem] theorem Try.und9 : Program.underlying Try.prog 9 = some .string := by kernel_rfl
@[go_sem] theorem Try.agg12 : aggO Try.prog 12 = some false := by kernel_rfl
@[go_sem] theorem Try.pln12 : plainO Try.prog 12 = some true := by kernel_rfl
@[go_sem] theorem Try.sz12 : szO Try.prog 12 = some 1 := by kernel_rfl
@[go_sem] theorem Try.zero12 : zeroL Try.prog 12 = some [.int .u64 0] := by kernel_rfl
@[go_sem] theorem Try.small12 : smallO Try.prog 12 = some (1, 8) := by kernel_rfl
@[go_sem] theorem Try.zt12 : zeroT Try.prog 12 = some (.int .u64 0) := by kernel_rfl
@[go_sem] theorem Try.knd12 : kindO Try.prog 12 = some .u64 := by kernel_rfl
@[go_sem] theorem Try.und12 : Program.underlying Try.prog 12 = some (.int .u64) := by kernel_rfl
@[go_sem] theorem Try.agg13 : aggO Try.prog 13 = some true := by kernel_rfl
@[go_sem] theorem Try.pln13 : plainO Try.prog 13 = some true := by kernel_rfl
@[go_sem] theorem Try.sz13 : szO Try.prog 13 = some 2 := by kernel_rfl
@[go_sem] theorem Try.zero13 : zeroL Try.prog 13 = some [.str ⟨#[]⟩, .int .u64 0] := by kernel_rfl
@[go_sem] theorem Try.small13 : smallO Try.prog 13 = some (2, 24) := by kernel_rfl
@[go_sem] theorem Try.zt13 : zeroT Try.prog 13 = some (.agg [.str ⟨#[]⟩, .int .u64 0]) := by kernel_rfl
@[go_sem] theorem Try.fld13_0 : fieldO Try.prog 13 0 = some (0, 9) := by kernel_rfl
@[go_sem] theorem Try.fld13_1 : fieldO Try.prog 13 1 = some (1, 12) := by kernel_rfl
@[go_sem] theorem Try.bld13 (parts : List (Nat × TV)) : buildO Try.prog 13 parts = (fillT (fun i => ([(0, 1), (1, 1)] : List (Nat × Nat))[i]?) [.str ⟨#[]⟩, .int .u64 0] parts).map .agg := by kernel_rfl
@[go_sem] theorem Try.eqg13 : Program.eqGuardType Try.prog (Program.depth Try.prog) 13 = false := by kernel_rfl
@[go_sem] theorem Try.agg15 : aggO Try.prog 15 = some false := by kernel_rfl
@[go_sem] theorem Try.pln15 : plainO Try.prog 15 = some true := by kernel_rfl
@[go_sem] theorem Try.sz15 : szO Try.prog 15 = some 1 := by kernel_rfl
@[go_sem] theorem Try.zero15 : zeroL Try.prog 15 = some [.nilPtr] := by kernel_rfl
@[go_sem] theorem Try.small15 : smallO Try.prog 15 = some (1, 8) := by kernel_rfl
@[go_sem] theorem Try.zt15 : zeroT Try.prog 15 = some (.nilPtr) := by kernel_rfl
@[go_sem] theorem Try.agg16 : aggO Try.prog 16 = some false := by kernel_rfl
@[go_sem] theorem Try.pln16 : plainO Try.prog 16 = some true := by kernel_rfl
@[go_sem] theorem Try.sz16 : szO Try.prog 16 = some 1 := by kernel_rfl
@[go_sem] theorem Try.zero16 : zeroL Try.prog 16 = some [.nilPtr] := by kernel_rfl
@[go_sem] theorem Try.small16 : smallO Try.prog 16 = some (1, 8) := by kernel_rfl
@[go_sem] theorem Try.zt16 : zeroT Try.prog 16 = some (.nilPtr) := by kernel_rfl
@[go_sem] theorem Try.agg17 : aggO Try.prog 17 = some false := by kernel_rfl
@[go_sem] theorem Try.pln17 : plainO Try.prog 17 = some true := by kernel_rfl
@[go_sem] theorem Try.sz17 : szO Try.prog 17 = some 1 := by kernel_rfl
@[go_sem] theorem Try.zero17 : zeroL Try.prog 17 = some [.nilPtr] := by kernel_rfl
@[go_sem] theorem Try.small17 : smallO Try.prog 17 = some (1, 8) := by kernel_rfl
@[go_sem] theorem Try.zt17 : zeroT Try.prog 17 = some (.nilPtr) := by kernel_rfl
@[go_sem] theorem Try.agg18 : aggO Try.prog 18 = some true := by kernel_rfl
@[go_sem] theorem Try.pln18 : plainO Try.prog 18 = some true := by kernel_rfl
@[go_sem] theorem Try.sz18 : szO Try.prog 18 = some 1 := by kernel_rfl
@[go_sem] theorem Try.zero18 : zeroL Try.prog 18 = some [.nilPtr] := by kernel_rfl
@[go_sem] theorem Try.small18 : smallO Try.prog 18 = some (1, 8) := by kernel_rfl
@[go_sem] theorem Try.zt18 : zeroT Try.prog 18 = some (.agg [.nilPtr]) := by kernel_rfl
@[go_sem] theorem Try.fld18_0 : fieldO Try.prog 18 0 = some (0, 17) := by kernel_rfl
@[go_sem] theorem Try.bld18 (parts : List (Nat × TV)) : buildO Try.prog 18 parts = (fillT (fun i => ([(0, 1)] : List (Nat × Nat))[i]?) [.nilPtr] parts).map .agg := by kernel_rfl
@[go_sem] theorem Try.eqg18 : Program.eqGuardType Try.prog (Program.depth Try.prog) 18 = false := by kernel_rfl
@[go_sem] theorem Try.agg20 : aggO Try.prog 20 = some false := by kernel_rfl
@[go_sem] theorem Try.pln20 : plainO Try.prog 20 = some false := by kernel_rfl
@[go_sem] theorem Try.sz20 : szO Try.prog 20 = some 1 := by kernel_rfl
@[go_sem] theorem Try.zero20 : zeroL Try.prog 20 = some [.nilIf] := by kernel_rfl
@[go_sem] theorem Try.small20 : smallO Try.prog 20 = some (1, 16) := by kernel_rfl
@[go_sem] theorem Try.zt20 : zeroT Try.prog 20 = some (.nilIf) := by kernel_rfl
@[go_sem] theorem Try.agg21 : aggO Try.prog 21 = some false := by kernel_rfl
@[go_sem] theorem Try.pln21 : plainO Try.prog 21 = some true := by kernel_rfl
@[go_sem] theorem Try.sz21 : szO Try.prog 21 = some 1 := by kernel_rfl
@[go_sem] theorem Try.zero21 : zeroL Try.prog 21 = some [.int .i32 0] := by kernel_rfl
@[go_sem] theorem Try.small21 : smallO Try.prog 21 = some (1, 4) := by kernel_rfl
@[go_sem] theorem Try.zt21 : zeroT Try.prog 21 = some (.int .i32 0) := by kernel_rfl
@[go_sem] theorem Try.knd21 : kindO Try.prog 21 = some .i32 := by kernel_rfl
@[go_sem] theorem Try.und21 : Program.underlying Try.prog 21 = some (.int .i32) := by kernel_rfl
@[go_sem] theorem Try.agg22 : aggO Try.prog 22 = some true := by kernel_rfl
@[go_sem] theorem Try.pln22 : plainO Try.prog 22 = some true := by kernel_rfl
@[go_sem] theorem Try.sz22 : szO Try.prog 22 = some 2 := by kernel_rfl
@[go_sem] theorem Try.zero22 : zeroL Try.prog 22 = some [.int .i64 0, .int .i64 0] := by kernel_rfl
@[go_sem] theorem Try.small22 : smallO Try.prog 22 = some (2, 16) := by kernel_rfl
@[go_sem] theorem Try.zt22 : zeroT Try.prog 22 = some (.agg [.int .i64 0, .int .i64 0]) := by kernel_rfl
@[go_sem] theorem Try.fld22_0 : fieldO Try.prog 22 0 = some (0, 3) := by kernel_rfl
@[go_sem] theorem Try.fld22_1 : fieldO Try.prog 22 1 = some (1, 3) := by kernel_rfl
@[go_sem] theorem Try.bld22 (parts : List (Nat × TV)) : buildO Try.prog 22 parts = (fillT (fun i => ([(0, 1), (1, 1)] : List (Nat × Nat))[i]?) [.int .i64 0, .int .i64 0] parts).map .agg := by kernel_rfl
@[go_sem] theorem Try.eqg22 : Program.eqGuardType Try.prog (Program.depth Try.prog) 22 = false := by kernel_rfl
@[go_sem] theorem Try.agg23 : aggO Try.prog 23 = some true := by kernel_rfl
@[go_sem] theorem Try.pln23 : plainO Try.prog 23 = some true := by kernel_rfl
@[go_sem] theorem Try.sz23 : szO Try.prog 23 = some 2 := by kernel_rfl
@[go_sem] theorem Try.zero23 : zeroL Try.prog 23 = some [.int .i64 0, .int .i64 0] := by kernel_rfl
@[go_sem] theorem Try.small23 : smallO Try.prog 23 = some (2, 16) := by kernel_rfl
@[go_sem] theorem Try.zt23 : zeroT Try.prog 23 = some (.agg [.int .i64 0, .int .i64 0]) := by kernel_rfl
@[go_sem] theorem Try.fld23_0 : fieldO Try.prog 23 0 = some (0, 3) := by kernel_rfl
@[go_sem] theorem Try.fld23_1 : fieldO Try.prog 23 1 = some (1, 3) := by kernel_rfl
@[go_sem] theorem Try.bld23 (parts : List (Nat × TV)) : buildO Try.prog 23 parts = (fillT (fun i => ([(0, 1), (1, 1)] : List (Nat × Nat))[i]?) [.int .i64 0, .int .i64 0] parts).map .agg := by kernel_rfl
@[go_sem] theorem Try.eq23 (a0 b0 : Int) (a1 b1 : Int) : eqT Try.prog 20 23 (.agg [.int .i64 a0, .int .i64 a1]) (.agg [.int .i64 b0, .int .i64 b1]) = some ((a0 == b0) && ((a1 == b1) && true)) := by kernel_rfl
@[go_sem] theorem Try.eqg23 : Program.eqGuardType Try.prog (Program.depth Try.prog) 23 = false := by kernel_rfl
@[go_sem] theorem Try.agg24 : aggO Try.prog 24 = some true := by kernel_rfl
@[go_sem] theorem Try.pln24 : plainO Try.prog 24 = some true := by kernel_rfl
@[go_sem] theorem Try.sz24 : szO Try.prog 24 = some 8 := by kernel_rfl
@[go_sem] theorem Try.zero24 : zeroL Try.prog 24 = some [.int .i64 0, .int .i64 0, .int .i64 0, .int .i64 0, .int .i64 0, .int .i64 0, .int .i64 0, .int .i64 0] := by kernel_rfl
@[go_sem] theorem Try.small24 : smallO Try.prog 24 = some (8, 64) := by kernel_rfl
@[go_sem] theorem Try.zt24 : zeroT Try.prog 24 = some (.agg [.int .i64 0, .int .i64 0, .int .i64 0, .int .i64 0, .int .i64 0, .int .i64 0, .int .i64 0, .int .i64 0]) := by kernel_rfl
@[go_sem] theorem Try.fld24_0 : fieldO Try.prog 24 0 = some (0, 3) := by kernel_rfl
@[go_sem] theorem Try.fld24_1 : fieldO Try.prog 24 1 = some (1, 23) := by kernel_rfl
@[go_sem] theorem Try.fld24_2 : fieldO Try.prog 24 2 = some (3, 23) := by kernel_rfl
@[go_sem] theorem Try.fld24_3 : fieldO Try.prog 24 3 = some (5, 23) := by kernel_rfl
@[go_sem] theorem Try.fld24_4 : fieldO Try.prog 24 4 = some (7, 3) := by kernel_rfl
@[go_sem] theorem Try.bld24 (parts : List (Nat × TV)) : buildO Try.prog 24 parts = (fillT (fun i => ([(0, 1), (1, 2), (3, 2), (5, 2), (7, 1)] : List (Nat × Nat))[i]?) [.int .i64 0, .int .i64 0, .int .i64 0, .int .i64 0, .int .i64 0, .int .i64 0, .int .i64 0, .int .i64 0] parts).map .agg := by kernel_rfl
@[go_sem] theorem Try.eqg24 : Program.eqGuardType Try.prog (Program.depth Try.prog) 24 = false := by kernel_rfl
@[go_sem] theorem Try.agg25 : aggO Try.prog 25 = some true := by kernel_rfl
@[go_sem] theorem Try.pln25 : plainO Try.prog 25 = some true := by kernel_rfl
@[go_sem] theorem Try.sz25 : szO Try.prog 25 = some 8 := by kernel_rfl
@[go_sem] theorem Try.zero25 : zeroL Try.prog 25 = some [.int .i64 0, .int .i64 0, .int .i64 0, .int .i64 0, .int .i64 0, .int .i64 0, .int .i64 0, .int .i64 0] := by kernel_rfl
@[go_sem] theorem Try.small25 : smallO Try.prog 25 = some (8, 64) := by kernel_rfl
@[go_sem] theorem Try.zt25 : zeroT Try.prog 25 = some (.agg [.int .i64 0, .int .i64 0, .int .i64 0, .int .i64 0, .int .i64 0, .int .i64 0, .int .i64 0, .int .i64 0]) := by kernel_rfl
@[go_sem] theorem Try.fld25_0 : fieldO Try.prog 25 0 = some (0, 3) := by kernel_rfl
@[go_sem] theorem Try.fld25_1 : fieldO Try.prog 25 1 = some (1, 23) := by kernel_rfl
@[go_sem] theorem Try.fld25_2 : fieldO Try.prog 25 2 = some (3, 23) := by kernel_rfl
@[go_sem] theorem Try.fld25_3 : fieldO Try.prog 25 3 = some (5, 23) := by kernel_rfl
@[go_sem] theorem Try.fld25_4 : fieldO Try.prog 25 4 = some (7, 3) := by kernel_rfl
@[go_sem] theorem Try.bld25 (parts : List (Nat × TV)) : buildO Try.prog 25 parts = (fillT (fun i => ([(0, 1), (1, 2), (3, 2), (5, 2), (7, 1)] : List (Nat × Nat))[i]?) [.int .i64 0, .int .i64 0, .int .i64 0, .int .i64 0, .int .i64 0, .int .i64 0, .int .i64 0, .int .i64 0] parts).map .agg := by kernel_rfl
@[go_sem] theorem Try.eq25 (a0 b0 : Int) (a1 b1 : Int) (a2 b2 : Int) (a3 b3 : Int) (a4 b4 : Int) (a5 b5 : Int) (a6 b6 : Int) (a7 b7 : Int) : eqT Try.prog 20 25 (.agg [.int .i64 a0, .int .i64 a1, .int .i64 a2, .int .i64 a3, .int .i64 a4, .int .i64 a5, .int .i64 a6, .int .i64 a7]) (.agg [.int .i64 b0, .int .i64 b1, .int .i64 b2, .int .i64 b3, .int .i64 b4, .int .i64 b5, .int .i64 b6, .int .i64 b7]) = some ((a0 == b0) && (((a1 == b1) && ((a2 == b2) && true)) && (((a3 == b3) && ((a4 == b4) && true)) && (((a5 == b5) && ((a6 == b6) && true)) && ((a7 == b7) && true))))) := by kernel_rfl
@[go_sem] theorem Try.eqg25 : Program.eqGuardType Try.prog (Program.depth Try.prog) 25 = false := by kernel_rfl
@[go_sem] theorem Try.agg26 : aggO Try.prog 26 = some false := by kernel_rfl
@[go_sem] theorem Try.pln26 : plainO Try.prog 26 = some true := by kernel_rfl
@[go_sem] theorem Try.sz26 : szO Try.prog 26 = some 1 := by kernel_rfl
@[go_sem] theorem Try.zero26 : zeroL Try.prog 26 = some [.nilSl] := by kernel_rfl
@[go_sem] theorem Try.small26 : smallO Try.prog 26 = some (1, 24) := by kernel_rfl
@[go_sem] theorem Try.zt26 : zeroT Try.prog 26 = some (.nilSl) := by kernel_rfl
@[go_sem] theorem Try.sl26 : sliceO Try.prog 26 = some 57 := by kernel_rfl
@[go_sem] theorem Try.und26 : Program.underlying Try.prog 26 = some (.slice 57) := by kernel_rfl
@[go_sem] theorem Try.agg27 : aggO Try.prog 27 = some true := by kernel_rfl
@[go_sem] theorem Try.pln27 : plainO Try.prog 27 = some true := by kernel_rfl
@[go_sem] theorem Try.sz27 : szO Try.prog 27 = some 3 := by kernel_rfl
@[go_sem] theorem Try.zero27 : zeroL Try.prog 27 = some [.int .i64 0, .int .i64 0, .int .i64 0] := by kernel_rfl
@[go_sem] theorem Try.small27 : smallO Try.prog 27 = some (3, 24) := by kernel_rfl
@[go_sem] theorem Try.zt27 : zeroT Try.prog 27 = some (.agg [.int .i64 0, .int .i64 0, .int .i64 0]) := by kernel_rfl
@[go_sem] theorem Try.fld27_0 : fieldO Try.prog 27 0 = some (0, 3) := by kernel_rfl
@[go_sem] theorem Try.fld27_1 : fieldO Try.prog 27 1 = some (1, 3) := by kernel_rfl
@[go_sem] theorem Try.fld27_2 : fieldO Try.prog 27 2 = some (2, 3) := by kernel_rfl
@[go_sem] theorem Try.bld27 (parts : List (Nat × TV)) : buildO Try.prog 27 parts = (fillT (fun i => ([(0, 1), (1, 1), (2, 1)] : List (Nat × Nat))[i]?) [.int .i64 0, .int .i64 0, .int .i64 0] parts).map .agg := by kernel_rfl
@[go_sem] theorem Try.eqg27 : Program.eqGuardType Try.prog (Program.depth Try.prog) 27 = false := by kernel_rfl
@[go_sem] theorem Try.agg28 : aggO Try.prog 28 = some true := by kernel_rfl
@[go_sem] theorem Try.pln28 : plainO Try.prog 28 = some true := by kernel_rfl
@[go_sem] theorem Try.sz28 : szO Try.prog 28 = some 3 := by kernel_rfl
@[go_sem] theorem Try.zero28 : zeroL Try.prog 28 = some [.int .i64 0, .int .i64 0, .int .i64 0] := by kernel_rfl
@[go_sem] theorem Try.small28 : smallO Try.prog 28 = some (3, 24) := by kernel_rfl
@[go_sem] theorem Try.zt28 : zeroT Try.prog 28 = some (.agg [.int .i64 0, .int .i64 0, .int .i64 0]) := by kernel_rfl
@[go_sem] theorem Try.fld28_0 : fieldO Try.prog 28 0 = some (0, 3) := by kernel_rfl
@[go_sem] theorem Try.fld28_1 : fieldO Try.prog 28 1 = some (1, 3) := by kernel_rfl
@[go_sem] theorem Try.fld28_2 : fieldO Try.prog 28 2 = some (2, 3) := by kernel_rfl
@[go_sem] theorem Try.bld28 (parts : List (Nat × TV)) : buildO Try.prog 28 parts = (fillT (fun i => ([(0, 1), (1, 1), (2, 1)] : List (Nat × Nat))[i]?) [.int .i64 0, .int .i64 0, .int .i64 0] parts).map .agg := by kernel_rfl
@[go_sem] theorem Try.eq28 (a0 b0 : Int) (a1 b1 : Int) (a2 b2 : Int) : eqT Try.prog 20 28 (.agg [.int .i64 a0, .int .i64 a1, .int .i64 a2]) (.agg [.int .i64 b0, .int .i64 b1, .int .i64 b2]) = some ((a0 == b0) && ((a1 == b1) && ((a2 == b2) && true))) := by kernel_rfl
@[go_sem] theorem Try.eqg28 : Program.eqGuardType Try.prog (Program.depth Try.prog) 28 = false := by kernel_rfl
@[go_sem] theorem Try.agg29 : aggO Try.prog 29 = some false := by kernel_rfl
@[go_sem] theorem Try.pln29 : plainO Try.prog 29 = some true := by kernel_rfl
@[go_sem] theorem Try.sz29 : szO Try.prog 29 = some 1 := by kernel_rfl
@[go_sem] theorem Try.zero29 : zeroL Try.prog 29 = some [.int .i64 0] := by kernel_rfl
@[go_sem] theorem Try.small29 : smallO Try.prog 29 = some (1, 8) := by kernel_rfl
@[go_sem] theorem Try.zt29 : zeroT Try.prog 29 = some (.int .i64 0) := by kernel_rfl
@[go_sem] theorem Try.knd29 : kindO Try.prog 29 = some .i64 := by kernel_rfl
@[go_sem] theorem Try.und29 : Program.underlying Try.prog 29 = some (.int .i64) := by kernel_rfl
@[go_sem] theorem Try.agg31 : aggO Try.prog 31 = some false := by kernel_rfl
@[go_sem] theorem Try.pln31 : plainO Try.prog 31 = some true := by kernel_rfl
@[go_sem] theorem Try.sz31 : szO Try.prog 31 = some 1 := by kernel_rfl
@[go_sem] theorem Try.zero31 : zeroL Try.prog 31 = some [.nilFn] := by kernel_rfl
@[go_sem] theorem Try.small31 : smallO Try.prog 31 = some (1, 8) := by kernel_rfl
@[go_sem] theorem Try.zt31 : zeroT Try.prog 31 = some (.nilFn) := by kernel_rfl
@[go_sem] theorem Try.agg32 : aggO Try.prog 32 = some false := by kernel_rfl
@[go_sem] theorem Try.pln32 : plainO Try.prog 32 = some true := by kernel_rfl
@[go_sem] theorem Try.sz32 : szO Try.prog 32 = some 1 := by kernel_rfl
@[go_sem] theorem Try.zero32 : zeroL Try.prog 32 = some [.nilFn] := by kernel_rfl
@[go_sem] theorem Try.small32 : smallO Try.prog 32 = some (1, 8) := by kernel_rfl
@[go_sem] theorem Try.zt32 : zeroT Try.prog 32 = some (.nilFn) := by kernel_rfl
@[go_sem] theorem Try.agg34 : aggO Try.prog 34 = some false := by kernel_rfl
@[go_sem] theorem Try.pln34 : plainO Try.prog 34 = some true := by kernel_rfl
@[go_sem] theorem Try.sz34 : szO Try.prog 34 = some 1 := by kernel_rfl
@[go_sem] theorem Try.zero34 : zeroL Try.prog 34 = some [.nilFn] := by kernel_rfl
@[go_sem] theorem Try.small34 : smallO Try.prog 34 = some (1, 8) := by kernel_rfl
@[go_sem] theorem Try.zt34 : zeroT Try.prog 34 = some (.nilFn) := by kernel_rfl
@[go_sem] theorem Try.agg35 : aggO Try.prog 35 = some false := by kernel_rfl
@[go_sem] theorem Try.pln35 : plainO Try.prog 35 = some true := by kernel_rfl
@[go_sem] theorem Try.sz35 : szO Try.prog 35 = some 1 := by kernel_rfl
@[go_sem] theorem Try.zero35 : zeroL Try.prog 35 = some [.nilFn] := by kernel_rfl
@[go_sem] theorem Try.small35 : smallO Try.prog 35 = some (1, 8) := by kernel_rfl
@[go_sem] theorem Try.zt35 : zeroT Try.prog 35 = some (.nilFn) := by kernel_rfl
@[go_sem] theorem Try.agg36 : aggO Try.prog 36 = some false := by kernel_rfl
@[go_sem] theorem Try.pln36 : plainO Try.prog 36 = some true := by kernel_rfl
@[go_sem] theorem Try.sz36 : szO Try.prog 36 = some 1 := by kernel_rfl
@[go_sem] theorem Try.zero36 : zeroL Try.prog 36 = some [.nilFn] := by kernel_rfl
@[go_sem] theorem Try.small36 : smallO Try.prog 36 = some (1, 8) := by kernel_rfl
@[go_sem] theorem Try.zt36 : zeroT Try.prog 36 = some (.nilFn) := by kernel_rfl
@[go_sem] theorem Try.agg37 : aggO Try.prog 37 = some false := by kernel_rfl
@[go_sem] theorem Try.pln37 : plainO Try.prog 37 = some true := by kernel_rfl
@[go_sem] theorem Try.sz37 : szO Try.prog 37 = some 1 := by kernel_rfl
@[go_sem] theorem Try.zero37 : zeroL Try.prog 37 = some [.nilSl] := by kernel_rfl
@[go_sem] theorem Try.small37 : smallO Try.prog 37 = some (1, 24) := by kernel_rfl
@[go_sem] theorem Try.zt37 : zeroT Try.prog 37 = some (.nilSl) := by kernel_rfl
@[go_sem] theorem Try.sl37 : sliceO Try.prog 37 = some 3 := by kernel_rfl
@[go_sem] theorem Try.und37 : Program.underlying Try.prog 37 = some (.slice 3) := by kernel_rfl
@[go_sem] theorem Try.agg39 : aggO Try.prog 39 = some false := by kernel_rfl
@[go_sem] theorem Try.pln39 : plainO Try.prog 39 = some true := by kernel_rfl
@[go_sem] theorem Try.sz39 : szO Try.prog 39 = some 1 := by kernel_rfl
@[go_sem] theorem Try.zero39 : zeroL Try.prog 39 = some [.nilFn] := by kernel_rfl
@[go_sem] theorem Try.small39 : smallO Try.prog 39 = some (1, 8) := by kernel_rfl
@[go_sem] theorem Try.zt39 : zeroT Try.prog 39 = some (.nilFn) := by kernel_rfl
@[go_sem] theorem Try.agg40 : aggO Try.prog 40 = some false := by kernel_rfl
@[go_sem] theorem Try.pln40 : plainO Try.prog 40 = some true := by kernel_rfl
@[go_sem] theorem Try.sz40 : szO Try.prog 40 = some 1 := by kernel_rfl
@[go_sem] theorem Try.zero40 : zeroL Try.prog 40 = some [.nilFn] := by kernel_rfl
@[go_sem] theorem Try.small40 : smallO Try.prog 40 = some (1, 8) := by kernel_rfl
@[go_sem] theorem Try.zt40 : zeroT Try.prog 40 = some (.nilFn) := by kernel_rfl
@[go_sem] theorem Try.agg41 : aggO Try.prog 41 = some false := by kernel_rfl
@[go_sem] theorem Try.pln41 : plainO Try.prog 41 = some true := by kernel_rfl
@[go_sem] theorem Try.sz41 : szO Try.prog 41 = some 1 := by kernel_rfl
@[go_sem] theorem Try.zero41 : zeroL Try.prog 41 = some [.nilFn] := by kernel_rfl
@[go_sem] theorem Try.small41 : smallO Try.prog 41 = some (1, 8) := by kernel_rfl
@[go_sem] theorem Try.zt41 : zeroT Try.prog 41 = some (.nilFn) := by kernel_rfl
@[go_sem] theorem Try.agg43 : aggO Try.prog 43 = some false := by kernel_rfl
@[go_sem] theorem Try.pln43 : plainO Try.prog 43 = some true := by kernel_rfl
@[go_sem] theorem Try.sz43 : szO Try.prog 43 = some 1 := by kernel_rfl
@[go_sem] theorem Try.zero43 : zeroL Try.prog 43 = some [.nilFn] := by kernel_rfl
@[go_sem] theorem Try.small43 : smallO Try.prog 43 = some (1, 8) := by kernel_rfl
@[go_sem] theorem Try.zt43 : zeroT Try.prog 43 = some (.nilFn) := by kernel_rfl
@[go_sem] theorem Try.agg45 : aggO Try.prog 45 = some false := by kernel_rfl
@[go_sem] theorem Try.pln45 : plainO Try.prog 45 = some true := by kernel_rfl
@[go_sem] theorem Try.sz45 : szO Try.prog 45 = some 1 := by kernel_rfl
@[go_sem] theorem Try.zero45 : zeroL Try.prog 45 = some [.nilFn] := by kernel_rfl
@[go_sem] theorem Try.small45 : smallO Try.prog 45 = some (1, 8) := by kernel_rfl
@[go_sem] theorem Try.zt45 : zeroT Try.prog 45 = some (.nilFn) := by kernel_rfl
@[go_sem] theorem Try.agg46 : aggO Try.prog 46 = some false := by kernel_rfl
@[go_sem] theorem Try.pln46 : plainO Try.prog 46 = some true := by kernel_rfl
@[go_sem] theorem Try.sz46 : szO Try.prog 46 = some 1 := by kernel_rfl
@[go_sem] theorem Try.zero46 : zeroL Try.prog 46 = some [.nilFn] := by kernel_rfl
@[go_sem] theorem Try.small46 : smallO Try.prog 46 = some (1, 8) := by kernel_rfl
@[go_sem] theorem Try.zt46 : zeroT Try.prog 46 = some (.nilFn) := by kernel_rfl
@[go_sem] theorem Try.agg47 : aggO Try.prog 47 = some false := by kernel_rfl
@[go_sem] theorem Try.pln47 : plainO Try.prog 47 = some true := by kernel_rfl
@[go_sem] theorem Try.sz47 : szO Try.prog 47 = some 1 := by kernel_rfl
@[go_sem] theorem Try.zero47 : zeroL Try.prog 47 = some [.nilSl] := by kernel_rfl
@[go_sem] theorem Try.small47 : smallO Try.prog 47 = some (1, 24) := by kernel_rfl
@[go_sem] theorem Try.zt47 : zeroT Try.prog 47 = some (.nilSl) := by kernel_rfl
@[go_sem] theorem Try.sl47 : sliceO Try.prog 47 = some 25 := by kernel_rfl
@[go_sem] theorem Try.und47 : Program.underlying Try.prog 47 = some (.slice 25) := by kernel_rfl
@[go_sem] theorem Try.agg48 : aggO Try.prog 48 = some true := by kernel_rfl
@[go_sem] theorem Try.pln48 : plainO Try.prog 48 = some true := by kernel_rfl
@[go_sem] theorem Try.sz48 : szO Try.prog 48 = some 2 := by kernel_rfl
@[go_sem] theorem Try.zero48 : zeroL Try.prog 48 = some [.int .i64 0, .int .i64 0] := by kernel_rfl
@[go_sem] theorem Try.small48 : smallO Try.prog 48 = some (2, 16) := by kernel_rfl
@[go_sem] theorem Try.zt48 : zeroT Try.prog 48 = some (.agg [.int .i64 0, .int .i64 0]) := by kernel_rfl
@[go_sem] theorem Try.fld48_0 : fieldO Try.prog 48 0 = some (0, 3) := by kernel_rfl
@[go_sem] theorem Try.fld48_1 : fieldO Try.prog 48 1 = some (1, 3) := by kernel_rfl
@[go_sem] theorem Try.bld48 (parts : List (Nat × TV)) : buildO Try.prog 48 parts = (fillT (fun i => ([(0, 1), (1, 1)] : List (Nat × Nat))[i]?) [.int .i64 0, .int .i64 0] parts).map .agg := by kernel_rfl
@[go_sem] theorem Try.eqg48 : Program.eqGuardType Try.prog (Program.depth Try.prog) 48 = false := by kernel_rfl
@[go_sem] theorem Try.agg49 : aggO Try.prog 49 = some true := by kernel_rfl
@[go_sem] theorem Try.pln49 : plainO Try.prog 49 = some true := by kernel_rfl
@[go_sem] theorem Try.sz49 : szO Try.prog 49 = some 2 := by kernel_rfl
@[go_sem] theorem Try.zero49 : zeroL Try.prog 49 = some [.int .i64 0, .int .i64 0] := by kernel_rfl
@[go_sem] theorem Try.small49 : smallO Try.prog 49 = some (2, 16) := by kernel_rfl
@[go_sem] theorem Try.zt49 : zeroT Try.prog 49 = some (.agg [.int .i64 0, .int .i64 0]) := by kernel_rfl
@[go_sem] theorem Try.fld49_0 : fieldO Try.prog 49 0 = some (0, 3) := by kernel_rfl
@[go_sem] theorem Try.fld49_1 : fieldO Try.prog 49 1 = some (1, 3) := by kernel_rfl
@[go_sem] theorem Try.bld49 (parts : List (Nat × TV)) : buildO Try.prog 49 parts = (fillT (fun i => ([(0, 1), (1, 1)] : List (Nat × Nat))[i]?) [.int .i64 0, .int .i64 0] parts).map .agg := by kernel_rfl
@[go_sem] theorem Try.eq49 (a0 b0 : Int) (a1 b1 : Int) : eqT Try.prog 20 49 (.agg [.int .i64 a0, .int .i64 a1]) (.agg [.int .i64 b0, .int .i64 b1]) = some ((a0 == b0) && ((a1 == b1) && true)) := by kernel_rfl
@[go_sem] theorem Try.eqg49 : Program.eqGuardType Try.prog (Program.depth Try.prog) 49 = false := by kernel_rfl
@[go_sem] theorem Try.agg50 : aggO Try.prog 50 = some false := by kernel_rfl
@[go_sem] theorem Try.pln50 : plainO Try.prog 50 = some true := by kernel_rfl
@[go_sem] theorem Try.sz50 : szO Try.prog 50 = some 1 := by kernel_rfl
@[go_sem] theorem Try.zero50 : zeroL Try.prog 50 = some [.nilFn] := by kernel_rfl
@[go_sem] theorem Try.small50 : smallO Try.prog 50 = some (1, 8) := by kernel_rfl
@[go_sem] theorem Try.zt50 : zeroT Try.prog 50 = some (.nilFn) := by kernel_rfl
@[go_sem] theorem Try.agg51 : aggO Try.prog 51 = some false := by kernel_rfl
@[go_sem] theorem Try.pln51 : plainO Try.prog 51 = some true := by kernel_rfl
@[go_sem] theorem Try.sz51 : szO Try.prog 51 = some 1 := by kernel_rfl
@[go_sem] theorem Try.zero51 : zeroL Try.prog 51 = some [.nilFn] := by kernel_rfl
@[go_sem] theorem Try.small51 : smallO Try.prog 51 = some (1, 8) := by kernel_rfl
@[go_sem] theorem Try.zt51 : zeroT Try.prog 51 = some (.nilFn) := by kernel_rfl
@[go_sem] theorem Try.agg52 : aggO Try.prog 52 = some false := by kernel_rfl
@[go_sem] theorem Try.pln52 : plainO Try.prog 52 = some true := by kernel_rfl
@[go_sem] theorem Try.sz52 : szO Try.prog 52 = some 1 := by kernel_rfl
@[go_sem] theorem Try.zero52 : zeroL Try.prog 52 = some [.nilFn] := by kernel_rfl
@[go_sem] theorem Try.small52 : smallO Try.prog 52 = some (1, 8) := by kernel_rfl
@[go_sem] theorem Try.zt52 : zeroT Try.prog 52 = some (.nilFn) := by kernel_rfl
@[go_sem] theorem Try.agg53 : aggO Try.prog 53 = some false := by kernel_rfl
@[go_sem] theorem Try.pln53 : plainO Try.prog 53 = some true := by kernel_rfl
@[go_sem] theorem Try.sz53 : szO Try.prog 53 = some 1 := by kernel_rfl
@[go_sem] theorem Try.zero53 : zeroL Try.prog 53 = some [.nilFn] := by kernel_rfl
@[go_sem] theorem Try.small53 : smallO Try.prog 53 = some (1, 8) := by kernel_rfl
@[go_sem] theorem Try.zt53 : zeroT Try.prog 53 = some (.nilFn) := by kernel_rfl
@[go_sem] theorem Try.agg54 : aggO Try.prog 54 = some false := by kernel_rfl
@[go_sem] theorem Try.pln54 : plainO Try.prog 54 = some true := by kernel_rfl
@[go_sem] theorem Try.sz54 : szO Try.prog 54 = some 1 := by kernel_rfl
@[go_sem] theorem Try.zero54 : zeroL Try.prog 54 = some [.nilSl] := by kernel_rfl
@[go_sem] theorem Try.small54 : smallO Try.prog 54 = some (1, 24) := by kernel_rfl
@[go_sem] theorem Try.zt54 : zeroT Try.prog 54 = some (.nilSl) := by kernel_rfl
@[go_sem] theorem Try.sl54 : sliceO Try.prog 54 = some 4 := by kernel_rfl
@[go_sem] theorem Try.und54 : Program.underlying Try.prog 54 = some (.slice 4) := by kernel_rfl
@[go_sem] theorem Try.agg55 : aggO Try.prog 55 = some true := by kernel_rfl
@[go_sem] theorem Try.pln55 : plainO Try.prog 55 = some true := by kernel_rfl
@[go_sem] theorem Try.sz55 : szO Try.prog 55 = some 2 := by kernel_rfl
@[go_sem] theorem Try.zero55 : zeroL Try.prog 55 = some [.int .i64 0, .int .i64 0] := by kernel_rfl
@[go_sem] theorem Try.small55 : smallO Try.prog 55 = some (2, 16) := by kernel_rfl
@[go_sem] theorem Try.zt55 : zeroT Try.prog 55 = some (.agg [.int .i64 0, .int .i64 0]) := by kernel_rfl
@[go_sem] theorem Try.bld55 (parts : List (Nat × TV)) : buildO Try.prog 55 parts = (fillT (fun i => some (i * 1, 1)) [.int .i64 0, .int .i64 0] parts).map .agg := by kernel_rfl
@[go_sem] theorem Try.eq55 (a0 b0 : Int) (a1 b1 : Int) : eqT Try.prog 20 55 (.agg [.int .i64 a0, .int .i64 a1]) (.agg [.int .i64 b0, .int .i64 b1]) = some ((a0 == b0) && ((a1 == b1) && true)) := by kernel_rfl
@[go_sem] theorem Try.eqg55 : Program.eqGuardType Try.prog (Program.depth Try.prog) 55 = false := by kernel_rfl
@[go_sem] theorem Try.arr55 : arrayO Try.prog 55 = some (2, 3) := by kernel_rfl
@[go_sem] theorem Try.und55 : Program.underlying Try.prog 55 = some (.array 2 3) := by kernel_rfl
@[go_sem] theorem Try.agg56 : aggO Try.prog 56 = some true := by kernel_rfl
@[go_sem] theorem Try.pln56 : plainO Try.prog 56 = some true := by kernel_rfl
@[go_sem] theorem Try.sz56 : szO Try.prog 56 = some 3 := by kernel_rfl
@[go_sem] theorem Try.zero56 : zeroL Try.prog 56 = some [.int .i64 0, .int .i64 0, .bool false] := by kernel_rfl
@[go_sem] theorem Try.small56 : smallO Try.prog 56 = some (3, 24) := by kernel_rfl
@[go_sem] theorem Try.zt56 : zeroT Try.prog 56 = some (.agg [.int .i64 0, .int .i64 0, .bool false]) := by kernel_rfl
@[go_sem] theorem Try.fld56_0 : fieldO Try.prog 56 0 = some (0, 3) := by kernel_rfl
@[go_sem] theorem Try.fld56_1 : fieldO Try.prog 56 1 = some (1, 3) := by kernel_rfl
@[go_sem] theorem Try.fld56_2 : fieldO Try.prog 56 2 = some (2, 4) := by kernel_rfl
@[go_sem] theorem Try.bld56 (parts : List (Nat × TV)) : buildO Try.prog 56 parts = (fillT (fun i => ([(0, 1), (1, 1), (2, 1)] : List (Nat × Nat))[i]?) [.int .i64 0, .int .i64 0, .bool false] parts).map .agg := by kernel_rfl
@[go_sem] theorem Try.eqg56 : Program.eqGuardType Try.prog (Program.depth Try.prog) 56 = false := by kernel_rfl
@[go_sem] theorem Try.agg57 : aggO Try.prog 57 = some true := by kernel_rfl
@[go_sem] theorem Try.pln57 : plainO Try.prog 57 = some true := by kernel_rfl
@[go_sem] theorem Try.sz57 : szO Try.prog 57 = some 3 := by kernel_rfl
@[go_sem] theorem Try.zero57 : zeroL Try.prog 57 = some [.int .i64 0, .int .i64 0, .bool false] := by kernel_rfl
@[go_sem] theorem Try.small57 : smallO Try.prog 57 = some (3, 24) := by kernel_rfl
@[go_sem] theorem Try.zt57 : zeroT Try.prog 57 = some (.agg [.int .i64 0, .int .i64 0, .bool false]) := by kernel_rfl
@[go_sem] theorem Try.fld57_0 : fieldO Try.prog 57 0 = some (0, 3) := by kernel_rfl
@[go_sem] theorem Try.fld57_1 : fieldO Try.prog 57 1 = some (1, 3) := by kernel_rfl
@[go_sem] theorem Try.fld57_2 : fieldO Try.prog 57 2 = some (2, 4) := by kernel_rfl
@[go_sem] theorem Try.bld57 (parts : List (Nat × TV)) : buildO Try.prog 57 parts = (fillT (fun i => ([(0, 1), (1, 1), (2, 1)] : List (Nat × Nat))[i]?) [.int .i64 0, .int .i64 0, .bool false] parts).map .agg := by kernel_rfl
@[go_sem] theorem Try.eq57 (a0 b0 : Int) (a1 b1 : Int) (a2 b2 : Bool) : eqT Try.prog 20 57 (.agg [.int .i64 a0, .int .i64 a1, .bool a2]) (.agg [.int .i64 b0, .int .i64 b1, .bool b2]) = some ((a0 == b0) && ((a1 == b1) && ((a2 == b2) && true))) := by kernel_rfl
@[go_sem] theorem Try.eqg57 : Program.eqGuardType Try.prog (Program.depth Try.prog) 57 = false := by kernel_rfl
@[go_sem] theorem Try.agg58 : aggO Try.prog 58 = some false := by kernel_rfl
@[go_sem] theorem Try.pln58 : plainO Try.prog 58 = some true := by kernel_rfl
@[go_sem] theorem Try.sz58 : szO Try.prog 58 = some 1 := by kernel_rfl
@[go_sem] theorem Try.zero58 : zeroL Try.prog 58 = some [.nilFn] := by kernel_rfl
@[go_sem] theorem Try.small58 : smallO Try.prog 58 = some (1, 8) := by kernel_rfl
@[go_sem] theorem Try.zt58 : zeroT Try.prog 58 = some (.nilFn) := by kernel_rfl
@[go_sem] theorem Try.agg59 : aggO Try.prog 59 = some false := by kernel_rfl
@[go_sem] theorem Try.pln59 : plainO Try.prog 59 = some true := by kernel_rfl
@[go_sem] theorem Try.sz59 : szO Try.prog 59 = some 1 := by kernel_rfl
@[go_sem] theorem Try.zero59 : zeroL Try.prog 59 = some [.nilFn] := by kernel_rfl
@[go_sem] theorem Try.small59 : smallO Try.prog 59 = some (1, 8) := by kernel_rfl
@[go_sem] theorem Try.zt59 : zeroT Try.prog 59 = some (.nilFn) := by kernel_rfl
@[go_sem] theorem Try.agg60 : aggO Try.prog 60 = some false := by kernel_rfl
@[go_sem] theorem Try.pln60 : plainO Try.prog 60 = some true := by kernel_rfl
@[go_sem] theorem Try.sz60 : szO Try.prog 60 = some 1 := by kernel_rfl
@[go_sem] theorem Try.zero60 : zeroL Try.prog 60 = some [.nilFn] := by kernel_rfl
@[go_sem] theorem Try.small60 : smallO Try.prog 60 = some (1, 8) := by kernel_rfl
@[go_sem] theorem Try.zt60 : zeroT Try.prog 60 = some (.nilFn) := by kernel_rfl
@[go_sem] theorem Try.agg62 : aggO Try.prog 62 = some false := by kernel_rfl
@[go_sem] theorem Try.pln62 : plainO Try.prog 62 = some true := by kernel_rfl
@[go_sem] theorem Try.sz62 : szO Try.prog 62 = some 1 := by kernel_rfl
@[go_sem] theorem Try.zero62 : zeroL Try.prog 62 = some [.nilFn] := by kernel_rfl
@[go_sem] theorem Try.small62 : smallO Try.prog 62 = some (1, 8) := by kernel_rfl
@[go_sem] theorem Try.zt62 : zeroT Try.prog 62 = some (.nilFn) := by kernel_rfl
@[go_sem] theorem Try.agg63 : aggO Try.prog 63 = some false := by kernel_rfl
@[go_sem] theorem Try.pln63 : plainO Try.prog 63 = some true := by kernel_rfl
@[go_sem] theorem Try.sz63 : szO Try.prog 63 = some 1 := by kernel_rfl
@[go_sem] theorem Try.zero63 : zeroL Try.prog 63 = some [.nilFn] := by kernel_rfl
@[go_sem] theorem Try.small63 : smallO Try.prog 63 = some (1, 8) := by kernel_rfl
@[go_sem] theorem Try.zt63 : zeroT Try.prog 63 = some (.nilFn) := by kernel_rfl
@[go_sem] theorem Try.agg64 : aggO Try.prog 64 = some false := by kernel_rfl
@[go_sem] theorem Try.pln64 : plainO Try.prog 64 = some true := by kernel_rfl
@[go_sem] theorem Try.sz64 : szO Try.prog 64 = some 1 := by kernel_rfl
@[go_sem] theorem Try.zero64 : zeroL Try.prog 64 = some [.nilFn] := by kernel_rfl
@[go_sem] theorem Try.small64 : smallO Try.prog 64 = some (1, 8) := by kernel_rfl
@[go_sem] theorem Try.zt64 : zeroT Try.prog 64 = some (.nilFn) := by kernel_rfl
@[go_sem] theorem Try.agg65 : aggO Try.prog 65 = some false := by kernel_rfl
@[go_sem] theorem Try.pln65 : plainO Try.prog 65 = some true := by kernel_rfl
@[go_sem] theorem Try.sz65 : szO Try.prog 65 = some 1 := by kernel_rfl
@[go_sem] theorem Try.zero65 : zeroL Try.prog 65 = some [.nilFn] := by kernel_rfl
@[go_sem] theorem Try.small65 : smallO Try.prog 65 = some (1, 8) := by kernel_rfl
@[go_sem] theorem Try.zt65 : zeroT Try.prog 65 = some (.nilFn) := by kernel_rfl
@[go_sem] theorem Try.agg66 : aggO Try.prog 66 = some false := by kernel_rfl
@[go_sem] theorem Try.pln66 : plainO Try.prog 66 = some true := by kernel_rfl
@[go_sem] theorem Try.sz66 : szO Try.prog 66 = some 1 := by kernel_rfl
@[go_sem] theorem Try.zero66 : zeroL Try.prog 66 = some [.nilFn] := by kernel_rfl
@[go_sem] theorem Try.small66 : smallO Try.prog 66 = some (1, 8) := by kernel_rfl
@[go_sem] theorem Try.zt66 : zeroT Try.prog 66 = some (.nilFn) := by kernel_rfl
@[go_sem] theorem Try.agg67 : aggO Try.prog 67 = some false := by kernel_rfl
@[go_sem] theorem Try.pln67 : plainO Try.prog 67 = some true := by kernel_rfl
@[go_sem] theorem Try.sz67 : szO Try.prog 67 = some 1 := by kernel_rfl
@[go_sem] theorem Try.zero67 : zeroL Try.prog 67 = some [.nilFn] := by kernel_rfl
@[go_sem] theorem Try.small67 : smallO Try.prog 67 = some (1, 8) := by kernel_rfl
@[go_sem] theorem Try.zt67 : zeroT Try.prog 67 = some (.nilFn) := by kernel_rfl
@[go_sem] theorem Try.agg68 : aggO Try.prog 68 = some false := by kernel_rfl
@[go_sem] theorem Try.pln68 : plainO Try.prog 68 = some true := by kernel_rfl
@[go_sem] theorem Try.sz68 : szO Try.prog 68 = some 1 := by kernel_rfl
@[go_sem] theorem Try.zero68 : zeroL Try.prog 68 = some [.nilFn] := by kernel_rfl
@[go_sem] theorem Try.small68 : smallO Try.prog 68 = some (1, 8) := by kernel_rfl
@[go_sem] theorem Try.zt68 : zeroT Try.prog 68 = some (.nilFn) := by kernel_rfl
@[go_sem] theorem Try.agg69 : aggO Try.prog 69 = some true := by kernel_rfl
@[go_sem] theorem Try.pln69 : plainO Try.prog 69 = some true := by kernel_rfl
@[go_sem] theorem Try.sz69 : szO Try.prog 69 = some 5 := by kernel_rfl
@[go_sem] theorem Try.zero69 : zeroL Try.prog 69 = some [.int .i64 0, .int .i64 0, .int .i64 0, .int .i64 0, .int .i64 0] := by kernel_rfl
@[go_sem] theorem Try.small69 : smallO Try.prog 69 = some (5, 40) := by kernel_rfl
@[go_sem] theorem Try.zt69 : zeroT Try.prog 69 = some (.agg [.int .i64 0, .int .i64 0, .int .i64 0, .int .i64 0, .int .i64 0]) := by kernel_rfl
@[go_sem] theorem Try.bld69 (parts : List (Nat × TV)) : buildO Try.prog 69 parts = (fillT (fun i => some (i * 1, 1)) [.int .i64 0, .int .i64 0, .int .i64 0, .int .i64 0, .int .i64 0] parts).map .agg := by kernel_rfl
@[go_sem] theorem Try.eq69 (a0 b0 : Int) (a1 b1 : Int) (a2 b2 : Int) (a3 b3 : Int) (a4 b4 : Int) : eqT Try.prog 20 69 (.agg [.int .i64 a0, .int .i64 a1, .int .i64 a2, .int .i64 a3, .int .i64 a4]) (.agg [.int .i64 b0, .int .i64 b1, .int .i64 b2, .int .i64 b3, .int .i64 b4]) = some ((a0 == b0) && ((a1 == b1) && ((a2 == b2) && ((a3 == b3) && ((a4 == b4) && true))))) := by kernel_rfl
@[go_sem] theorem Try.eqg69 : Program.eqGuardType Try.prog (Program.depth Try.prog) 69 = false := by kernel_rfl
@[go_sem] theorem Try.arr69 : arrayO Try.prog 69 = some (5, 3) := by kernel_rfl
@[go_sem] theorem Try.und69 : Program.underlying Try.prog 69 = some (.array 5 3) := by kernel_rfl
@[go_sem] theorem Try.agg70 : aggO Try.prog 70 = some false := by kernel_rfl
@[go_sem] theorem Try.pln70 : plainO Try.prog 70 = some true := by kernel_rfl
@[go_sem] theorem Try.sz70 : szO Try.prog 70 = some 1 := by kernel_rfl
@[go_sem] theorem Try.zero70 : zeroL Try.prog 70 = some [.nilFn] := by kernel_rfl
@[go_sem] theorem Try.small70 : smallO Try.prog 70 = some (1, 8) := by kernel_rfl
@[go_sem] theorem Try.zt70 : zeroT Try.prog 70 = some (.nilFn) := by kernel_rfl
@[go_sem] theorem Try.agg71 : aggO Try.prog 71 = some false := by kernel_rfl
@[go_sem] theorem Try.pln71 : plainO Try.prog 71 = some true := by kernel_rfl
@[go_sem] theorem Try.sz71 : szO Try.prog 71 = some 1 := by kernel_rfl
@[go_sem] theorem Try.zero71 : zeroL Try.prog 71 = some [.nilFn] := by kernel_rfl
@[go_sem] theorem Try.small71 : smallO Try.prog 71 = some (1, 8) := by kernel_rfl
@[go_sem] theorem Try.zt71 : zeroT Try.prog 71 = some (.nilFn) := by kernel_rfl
@[go_sem] theorem Try.agg72 : aggO Try.prog 72 = some false := by kernel_rfl
@[go_sem] theorem Try.pln72 : plainO Try.prog 72 = some true := by kernel_rfl
@[go_sem] theorem Try.sz72 : szO Try.prog 72 = some 1 := by kernel_rfl
@[go_sem] theorem Try.zero72 : zeroL Try.prog 72 = some [.nilFn] := by kernel_rfl
@[go_sem] theorem Try.small72 : smallO Try.prog 72 = some (1, 8) := by kernel_rfl
@[go_sem] theorem Try.zt72 : zeroT Try.prog 72 = some (.nilFn) := by kernel_rfl
@[go_sem] theorem Try.agg73 : aggO Try.prog 73 = some false := by kernel_rfl
@[go_sem] theorem Try.pln73 : plainO Try.prog 73 = some true := by kernel_rfl
@[go_sem] theorem Try.sz73 : szO Try.prog 73 = some 1 := by kernel_rfl
@[go_sem] theorem Try.zero73 : zeroL Try.prog 73 = some [.nilFn] := by kernel_rfl
@[go_sem] theorem Try.small73 : smallO Try.prog 73 = some (1, 8) := by kernel_rfl
@[go_sem] theorem Try.zt73 : zeroT Try.prog 73 = some (.nilFn) := by kernel_rfl
@[go_sem] theorem Try.agg74 : aggO Try.prog 74 = some false := by kernel_rfl
@[go_sem] theorem Try.pln74 : plainO Try.prog 74 = some true := by kernel_rfl
@[go_sem] theorem Try.sz74 : szO Try.prog 74 = some 1 := by kernel_rfl
@[go_sem] theorem Try.zero74 : zeroL Try.prog 74 = some [.nilSl] := by kernel_rfl
@[go_sem] theorem Try.small74 : smallO Try.prog 74 = some (1, 24) := by kernel_rfl
@[go_sem] theorem Try.zt74 : zeroT Try.prog 74 = some (.nilSl) := by kernel_rfl
@[go_sem] theorem Try.sl74 : sliceO Try.prog 74 = some 26 := by kernel_rfl
@[go_sem] theorem Try.und74 : Program.underlying Try.prog 74 = some (.slice 26) := by kernel_rfl
@[go_sem] theorem Try.agg75 : aggO Try.prog 75 = some false := by kernel_rfl
@[go_sem] theorem Try.pln75 : plainO Try.prog 75 = some true := by kernel_rfl
@[go_sem] theorem Try.sz75 : szO Try.prog 75 = some 1 := by kernel_rfl
@[go_sem] theorem Try.zero75 : zeroL Try.prog 75 = some [.nilFn] := by kernel_rfl
@[go_sem] theorem Try.small75 : smallO Try.prog 75 = some (1, 8) := by kernel_rfl
@[go_sem] theorem Try.zt75 : zeroT Try.prog 75 = some (.nilFn) := by kernel_rfl
@[go_sem] theorem Try.agg76 : aggO Try.prog 76 = some true := by kernel_rfl
@[go_sem] theorem Try.pln76 : plainO Try.prog 76 = some true := by kernel_rfl
@[go_sem] theorem Try.sz76 : szO Try.prog 76 = some 8 := by kernel_rfl
@[go_sem] theorem Try.zero76 : zeroL Try.prog 76 = some [.int .i64 0, .int .i64 0, .int .i64 0, .int .i64 0, .int .i64 0, .int .i64 0, .int .i64 0, .int .i64 0] := by kernel_rfl
@[go_sem] theorem Try.small76 : smallO Try.prog 76 = some (8, 64) := by kernel_rfl
@[go_sem] theorem Try.zt76 : zeroT Try.prog 76 = some (.agg [.int .i64 0, .int .i64 0, .int .i64 0, .int .i64 0, .int .i64 0, .int .i64 0, .int .i64 0, .int .i64 0]) := by kernel_rfl
@[go_sem] theorem Try.fld76_0 : fieldO Try.prog 76 0 = some (0, 25) := by kernel_rfl
@[go_sem] theorem Try.bld76 (parts : List (Nat × TV)) : buildO Try.prog 76 parts = (fillT (fun i => ([(0, 8)] : List (Nat × Nat))[i]?) [.int .i64 0, .int .i64 0, .int .i64 0, .int .i64 0, .int .i64 0, .int .i64 0, .int .i64 0, .int .i64 0] parts).map .agg := by kernel_rfl
@[go_sem] theorem Try.eqg76 : Program.eqGuardType Try.prog (Program.depth Try.prog) 76 = false := by kernel_rfl
@[go_sem] theorem Try.agg77 : aggO Try.prog 77 = some true := by kernel_rfl
@[go_sem] theorem Try.pln77 : plainO Try.prog 77 = some true := by kernel_rfl
@[go_sem] theorem Try.sz77 : szO Try.prog 77 = some 8 := by kernel_rfl
@[go_sem] theorem Try.zero77 : zeroL Try.prog 77 = some [.int .i64 0, .int .i64 0, .int .i64 0, .int .i64 0, .int .i64 0, .int .i64 0, .int .i64 0, .int .i64 0] := by kernel_rfl
@[go_sem] theorem Try.small77 : smallO Try.prog 77 = some (8, 64) := by kernel_rfl
@[go_sem] theorem Try.zt77 : zeroT Try.prog 77 = some (.agg [.int .i64 0, .int .i64 0, .int .i64 0, .int .i64 0, .int .i64 0, .int .i64 0, .int .i64 0, .int .i64 0]) := by kernel_rfl
@[go_sem] theorem Try.fld77_0 : fieldO Try.prog 77 0 = some (0, 25) := by kernel_rfl
@[go_sem] theorem Try.bld77 (parts : List (Nat × TV)) : buildO Try.prog 77 parts = (fillT (fun i => ([(0, 8)] : List (Nat × Nat))[i]?) [.int .i64 0, .int .i64 0, .int .i64 0, .int .i64 0, .int .i64 0, .int .i64 0, .int .i64 0, .int .i64 0] parts).map .agg := by kernel_rfl
@[go_sem] theorem Try.eq77 (a0 b0 : Int) (a1 b1 : Int) (a2 b2 : Int) (a3 b3 : Int) (a4 b4 : Int) (a5 b5 : Int) (a6 b6 : Int) (a7 b7 : Int) : eqT Try.prog 20 77 (.agg [.int .i64 a0, .int .i64 a1, .int .i64 a2, .int .i64 a3, .int .i64 a4, .int .i64 a5, .int .i64 a6, .int .i64 a7]) (.agg [.int .i64 b0, .int .i64 b1, .int .i64 b2, .int .i64 b3, .int .i64 b4, .int .i64 b5, .int .i64 b6, .int .i64 b7]) = some (((a0 == b0) && (((a1 == b1) && ((a2 == b2) && true)) && (((a3 == b3) && ((a4 == b4) && true)) && (((a5 == b5) && ((a6 == b6) && true)) && ((a7 == b7) && true))))) && true) := by kernel_rfl
@[go_sem] theorem Try.eqg77 : Program.eqGuardType Try.prog (Program.depth Try.prog) 77 = false := by kernel_rfl
@[go_sem] theorem Try.agg78 : aggO Try.prog 78 = some false := by kernel_rfl
@[go_sem] theorem Try.pln78 : plainO Try.prog 78 = some true := by kernel_rfl
@[go_sem] theorem Try.sz78 : szO Try.prog 78 = some 1 := by kernel_rfl
@[go_sem] theorem Try.zero78 : zeroL Try.prog 78 = some [.nilSl] := by kernel_rfl
@[go_sem] theorem Try.small78 : smallO Try.prog 78 = some (1, 24) := by kernel_rfl
@[go_sem] theorem Try.zt78 : zeroT Try.prog 78 = some (.nilSl) := by kernel_rfl
@[go_sem] theorem Try.sl78 : sliceO Try.prog 78 = some 82 := by kernel_rfl
@[go_sem] theorem Try.und78 : Program.underlying Try.prog 78 = some (.slice 82) := by kernel_rfl
@[go_sem] theorem Try.agg80 : aggO Try.prog 80 = some false := by kernel_rfl
@[go_sem] theorem Try.pln80 : plainO Try.prog 80 = some true := by kernel_rfl
@[go_sem] theorem Try.sz80 : szO Try.prog 80 = some 1 := by kernel_rfl
@[go_sem] theorem Try.zero80 : zeroL Try.prog 80 = some [.nilFn] := by kernel_rfl
@[go_sem] theorem Try.small80 : smallO Try.prog 80 = some (1, 8) := by kernel_rfl
@[go_sem] theorem Try.zt80 : zeroT Try.prog 80 = some (.nilFn) := by kernel_rfl
@[go_sem] theorem Try.agg81 : aggO Try.prog 81 = some false := by kernel_rfl
@[go_sem] theorem Try.pln81 : plainO Try.prog 81 = some false := by kernel_rfl
@[go_sem] theorem Try.sz81 : szO Try.prog 81 = some 1 := by kernel_rfl
@[go_sem] theorem Try.zero81 : zeroL Try.prog 81 = some [.nilIf] := by kernel_rfl
@[go_sem] theorem Try.small81 : smallO Try.prog 81 = some (1, 16) := by kernel_rfl
@[go_sem] theorem Try.zt81 : zeroT Try.prog 81 = some (.nilIf) := by kernel_rfl
@[go_sem] theorem Try.agg82 : aggO Try.prog 82 = some false := by kernel_rfl
@[go_sem] theorem Try.pln82 : plainO Try.prog 82 = some false := by kernel_rfl
@[go_sem] theorem Try.sz82 : szO Try.prog 82 = some 1 := by kernel_rfl
@[go_sem] theorem Try.zero82 : zeroL Try.prog 82 = some [.nilIf] := by kernel_rfl
@[go_sem] theorem Try.small82 : smallO Try.prog 82 = some (1, 16) := by kernel_rfl
@[go_sem] theorem Try.zt82 : zeroT Try.prog 82 = some (.nilIf) := by kernel_rfl
@[go_sem] theorem Try.agg83 : aggO Try.prog 83 = some false := by kernel_rfl
@[go_sem] theorem Try.pln83 : plainO Try.prog 83 = some true := by kernel_rfl
@[go_sem] theorem Try.sz83 : szO Try.prog 83 = some 1 := by kernel_rfl
@[go_sem] theorem Try.zero83 : zeroL Try.prog 83 = some [.nilFn] := by kernel_rfl
@[go_sem] theorem Try.small83 : smallO Try.prog 83 = some (1, 8) := by kernel_rfl
@[go_sem] theorem Try.zt83 : zeroT Try.prog 83 = some (.nilFn) := by kernel_rfl
@[go_sem] theorem Try.agg85 : aggO Try.prog 85 = some false := by kernel_rfl
@[go_sem] theorem Try.pln85 : plainO Try.prog 85 = some true := by kernel_rfl
@[go_sem] theorem Try.sz85 : szO Try.prog 85 = some 1 := by kernel_rfl
@[go_sem] theorem Try.zero85 : zeroL Try.prog 85 = some [.nilFn] := by kernel_rfl
@[go_sem] theorem Try.small85 : smallO Try.prog 85 = some (1, 8) := by kernel_rfl
@[go_sem] theorem Try.zt85 : zeroT Try.prog 85 = some (.nilFn) := by kernel_rfl
@[go_sem] theorem Try.agg86 : aggO Try.prog 86 = some false := by kernel_rfl
@[go_sem] theorem Try.pln86 : plainO Try.prog 86 = some true := by kernel_rfl
@[go_sem] theorem Try.sz86 : szO Try.prog 86 = some 1 := by kernel_rfl
@[go_sem] theorem Try.zero86 : zeroL Try.prog 86 = some [.nilSl] := by kernel_rfl
@[go_sem] theorem Try.small86 : smallO Try.prog 86 = some (1, 24) := by kernel_rfl
@[go_sem] theorem Try.zt86 : zeroT Try.prog 86 = some (.nilSl) := by kernel_rfl
@[go_sem] theorem Try.sl86 : sliceO Try.prog 86 = some 114 := by kernel_rfl
@[go_sem] theorem Try.und86 : Program.underlying Try.prog 86 = some (.slice 114) := by kernel_rfl
@[go_sem] theorem Try.agg87 : aggO Try.prog 87 = some false := by kernel_rfl
@[go_sem] theorem Try.pln87 : plainO Try.prog 87 = some true := by kernel_rfl
@[go_sem] theorem Try.sz87 : szO Try.prog 87 = some 1 := by kernel_rfl
@[go_sem] theorem Try.zero87 : zeroL Try.prog 87 = some [.nilFn] := by kernel_rfl
@[go_sem] theorem Try.small87 : smallO Try.prog 87 = some (1, 8) := by kernel_rfl
@[go_sem] theorem Try.zt87 : zeroT Try.prog 87 = some (.nilFn) := by kernel_rfl
@[go_sem] theorem Try.agg89 : aggO Try.prog 89 = some false := by kernel_rfl
@[go_sem] theorem Try.pln89 : plainO Try.prog 89 = some true := by kernel_rfl
@[go_sem] theorem Try.sz89 : szO Try.prog 89 = some 1 := by kernel_rfl
@[go_sem] theorem Try.zero89 : zeroL Try.prog 89 = some [.nilFn] := by kernel_rfl
@[go_sem] theorem Try.small89 : smallO Try.prog 89 = some (1, 8) := by kernel_rfl
@[go_sem] theorem Try.zt89 : zeroT Try.prog 89 = some (.nilFn) := by kernel_rfl
@[go_sem] theorem Try.agg90 : aggO Try.prog 90 = some false := by kernel_rfl
@[go_sem] theorem Try.pln90 : plainO Try.prog 90 = some true := by kernel_rfl
@[go_sem] theorem Try.sz90 : szO Try.prog 90 = some 1 := by kernel_rfl
@[go_sem] theorem Try.zero90 : zeroL Try.prog 90 = some [.nilFn] := by kernel_rfl
@[go_sem] theorem Try.small90 : smallO Try.prog 90 = some (1, 8) := by kernel_rfl
@[go_sem] theorem Try.zt90 : zeroT Try.prog 90 = some (.nilFn) := by kernel_rfl
@[go_sem] theorem Try.agg91 : aggO Try.prog 91 = some false := by kernel_rfl
@[go_sem] theorem Try.pln91 : plainO Try.prog 91 = some true := by kernel_rfl
@[go_sem] theorem Try.sz91 : szO Try.prog 91 = some 1 := by kernel_rfl
@[go_sem] theorem Try.zero91 : zeroL Try.prog 91 = some [.nilFn] := by kernel_rfl
@[go_sem] theorem Try.small91 : smallO Try.prog 91 = some (1, 8) := by kernel_rfl
@[go_sem] theorem Try.zt91 : zeroT Try.prog 91 = some (.nilFn) := by kernel_rfl
@[go_sem] theorem Try.agg92 : aggO Try.prog 92 = some true := by kernel_rfl
@[go_sem] theorem Try.pln92 : plainO Try.prog 92 = some true := by kernel_rfl
@[go_sem] theorem Try.sz92 : szO Try.prog 92 = some 8 := by kernel_rfl
@[go_sem] theorem Try.zero92 : zeroL Try.prog 92 = some [.bool false, .bool false, .bool false, .bool false, .bool false, .bool false, .bool false, .bool false] := by kernel_rfl
@[go_sem] theorem Try.small92 : smallO Try.prog 92 = some (8, 8) := by kernel_rfl
@[go_sem] theorem Try.zt92 : zeroT Try.prog 92 = some (.agg [.bool false, .bool false, .bool false, .bool false, .bool false, .bool false, .bool false, .bool false]) := by kernel_rfl
@[go_sem] theorem Try.bld92 (parts : List (Nat × TV)) : buildO Try.prog 92 parts = (fillT (fun i => some (i * 1, 1)) [.bool false, .bool false, .bool false, .bool false, .bool false, .bool false, .bool false, .bool false] parts).map .agg := by kernel_rfl
@[go_sem] theorem Try.eq92 (a0 b0 : Bool) (a1 b1 : Bool) (a2 b2 : Bool) (a3 b3 : Bool) (a4 b4 : Bool) (a5 b5 : Bool) (a6 b6 : Bool) (a7 b7 : Bool) : eqT Try.prog 20 92 (.agg [.bool a0, .bool a1, .bool a2, .bool a3, .bool a4, .bool a5, .bool a6, .bool a7]) (.agg [.bool b0, .bool b1, .bool b2, .bool b3, .bool b4, .bool b5, .bool b6, .bool b7]) = some ((a0 == b0) && ((a1 == b1) && ((a2 == b2) && ((a3 == b3) && ((a4 == b4) && ((a5 == b5) && ((a6 == b6) && ((a7 == b7) && true)))))))) := by kernel_rfl
@[go_sem] theorem Try.eqg92 : Program.eqGuardType Try.prog (Program.depth Try.prog) 92 = false := by kernel_rfl
@[go_sem] theorem Try.arr92 : arrayO Try.prog 92 = some (8, 4) := by kernel_rfl
@[go_sem] theorem Try.und92 : Program.underlying Try.prog 92 = some (.array 8 4) := by kernel_rfl
@[go_sem] theorem Try.agg93 : aggO Try.prog 93 = some true := by kernel_rfl
@[go_sem] theorem Try.pln93 : plainO Try.prog 93 = some true := by kernel_rfl
@[go_sem] theorem Try.sz93 : szO Try.prog 93 = some 8 := by kernel_rfl
@[go_sem] theorem Try.zero93 : zeroL Try.prog 93 = some [.bool false, .bool false, .bool false, .bool false, .bool false, .bool false, .bool false, .bool false] := by kernel_rfl
@[go_sem] theorem Try.small93 : smallO Try.prog 93 = some (8, 8) := by kernel_rfl
@[go_sem] theorem Try.zt93 : zeroT Try.prog 93 = some (.agg [.bool false, .bool false, .bool false, .bool false, .bool false, .bool false, .bool false, .bool false]) := by kernel_rfl
@[go_sem] theorem Try.bld93 (parts : List (Nat × TV)) : buildO Try.prog 93 parts = (fillT (fun i => some (i * 1, 1)) [.bool false, .bool false, .bool false, .bool false, .bool false, .bool false, .bool false, .bool false] parts).map .agg := by kernel_rfl
@[go_sem] theorem Try.eq93 (a0 b0 : Bool) (a1 b1 : Bool) (a2 b2 : Bool) (a3 b3 : Bool) (a4 b4 : Bool) (a5 b5 : Bool) (a6 b6 : Bool) (a7 b7 : Bool) : eqT Try.prog 20 93 (.agg [.bool a0, .bool a1, .bool a2, .bool a3, .bool a4, .bool a5, .bool a6, .bool a7]) (.agg [.bool b0, .bool b1, .bool b2, .bool b3, .bool b4, .bool b5, .bool b6, .bool b7]) = some ((a0 == b0) && ((a1 == b1) && ((a2 == b2) && ((a3 == b3) && ((a4 == b4) && ((a5 == b5) && ((a6 == b6) && ((a7 == b7) && true)))))))) := by kernel_rfl
@[go_sem] theorem Try.eqg93 : Program.eqGuardType Try.prog (Program.depth Try.prog) 93 = false := by kernel_rfl
@[go_sem] theorem Try.arr93 : arrayO Try.prog 93 = some (8, 4) := by kernel_rfl
@[go_sem] theorem Try.und93 : Program.underlying Try.prog 93 = some (.array 8 4) := by kernel_rfl
@[go_sem] theorem Try.agg94 : aggO Try.prog 94 = some false := by kernel_rfl
@[go_sem] theorem Try.pln94 : plainO Try.prog 94 = some true := by kernel_rfl
@[go_sem] theorem Try.sz94 : szO Try.prog 94 = some 1 := by kernel_rfl
@[go_sem] theorem Try.zero94 : zeroL Try.prog 94 = some [.nilFn] := by kernel_rfl
@[go_sem] theorem Try.small94 : smallO Try.prog 94 = some (1, 8) := by kernel_rfl
@[go_sem] theorem Try.zt94 : zeroT Try.prog 94 = some (.nilFn) := by kernel_rfl
@[go_sem] theorem Try.agg95 : aggO Try.prog 95 = some false := by kernel_rfl
@[go_sem] theorem Try.pln95 : plainO Try.prog 95 = some true := by kernel_rfl
@[go_sem] theorem Try.sz95 : szO Try.prog 95 = some 1 := by kernel_rfl
@[go_sem] theorem Try.zero95 : zeroL Try.prog 95 = some [.nilMap] := by kernel_rfl
@[go_sem] theorem Try.small95 : smallO Try.prog 95 = some (1, 8) := by kernel_rfl
@[go_sem] theorem Try.map95 : mapO Try.prog 95 = some (4, 3) := by kernel_rfl
@[go_sem] theorem Try.und95 : Program.underlying Try.prog 95 = some (.map 4 3) := by kernel_rfl
@[go_sem] theorem Try.zt95 : zeroT Try.prog 95 = some (.nilMap) := by kernel_rfl
@[go_sem] theorem Try.agg96 : aggO Try.prog 96 = some true := by kernel_rfl
@[go_sem] theorem Try.pln96 : plainO Try.prog 96 = some true := by kernel_rfl
@[go_sem] theorem Try.sz96 : szO Try.prog 96 = some 2 := by kernel_rfl
@[go_sem] theorem Try.zero96 : zeroL Try.prog 96 = some [.bool false, .bool false] := by kernel_rfl
@[go_sem] theorem Try.small96 : smallO Try.prog 96 = some (2, 2) := by kernel_rfl
@[go_sem] theorem Try.zt96 : zeroT Try.prog 96 = some (.agg [.bool false, .bool false]) := by kernel_rfl
@[go_sem] theorem Try.bld96 (parts : List (Nat × TV)) : buildO Try.prog 96 parts = (fillT (fun i => some (i * 1, 1)) [.bool false, .bool false] parts).map .agg := by kernel_rfl
@[go_sem] theorem Try.eq96 (a0 b0 : Bool) (a1 b1 : Bool) : eqT Try.prog 20 96 (.agg [.bool a0, .bool a1]) (.agg [.bool b0, .bool b1]) = some ((a0 == b0) && ((a1 == b1) && true)) := by kernel_rfl
@[go_sem] theorem Try.eqg96 : Program.eqGuardType Try.prog (Program.depth Try.prog) 96 = false := by kernel_rfl
@[go_sem] theorem Try.arr96 : arrayO Try.prog 96 = some (2, 4) := by kernel_rfl
@[go_sem] theorem Try.und96 : Program.underlying Try.prog 96 = some (.array 2 4) := by kernel_rfl
@[go_sem] theorem Try.agg97 : aggO Try.prog 97 = some true := by kernel_rfl
@[go_sem] theorem Try.pln97 : plainO Try.prog 97 = some true := by kernel_rfl
@[go_sem] theorem Try.sz97 : szO Try.prog 97 = some 2 := by kernel_rfl
@[go_sem] theorem Try.zero97 : zeroL Try.prog 97 = some [.int .i64 0, .nilFn] := by kernel_rfl
@[go_sem] theorem Try.small97 : smallO Try.prog 97 = some (2, 16) := by kernel_rfl
@[go_sem] theorem Try.zt97 : zeroT Try.prog 97 = some (.agg [.int .i64 0, .nilFn]) := by kernel_rfl
@[go_sem] theorem Try.fld97_0 : fieldO Try.prog 97 0 = some (0, 3) := by kernel_rfl
@[go_sem] theorem Try.fld97_1 : fieldO Try.prog 97 1 = some (1, 58) := by kernel_rfl
@[go_sem] theorem Try.bld97 (parts : List (Nat × TV)) : buildO Try.prog 97 parts = (fillT (fun i => ([(0, 1), (1, 1)] : List (Nat × Nat))[i]?) [.int .i64 0, .nilFn] parts).map .agg := by kernel_rfl
@[go_sem] theorem Try.eqg97 : Program.eqGuardType Try.prog (Program.depth Try.prog) 97 = false := by kernel_rfl
@[go_sem] theorem Try.agg98 : aggO Try.prog 98 = some true := by kernel_rfl
@[go_sem] theorem Try.pln98 : plainO Try.prog 98 = some true := by kernel_rfl
@[go_sem] theorem Try.sz98 : szO Try.prog 98 = some 2 := by kernel_rfl
@[go_sem] theorem Try.zero98 : zeroL Try.prog 98 = some [.int .i64 0, .nilFn] := by kernel_rfl
@[go_sem] theorem Try.small98 : smallO Try.prog 98 = some (2, 16) := by kernel_rfl
@[go_sem] theorem Try.zt98 : zeroT Try.prog 98 = some (.agg [.int .i64 0, .nilFn]) := by kernel_rfl
@[go_sem] theorem Try.fld98_0 : fieldO Try.prog 98 0 = some (0, 3) := by kernel_rfl
@[go_sem] theorem Try.fld98_1 : fieldO Try.prog 98 1 = some (1, 58) := by kernel_rfl
@[go_sem] theorem Try.bld98 (parts : List (Nat × TV)) : buildO Try.prog 98 parts = (fillT (fun i => ([(0, 1), (1, 1)] : List (Nat × Nat))[i]?) [.int .i64 0, .nilFn] parts).map .agg := by kernel_rfl
@[go_sem] theorem Try.eqg98 : Program.eqGuardType Try.prog (Program.depth Try.prog) 98 = false := by kernel_rfl
@[go_sem] theorem Try.agg99 : aggO Try.prog 99 = some false := by kernel_rfl
@[go_sem] theorem Try.pln99 : plainO Try.prog 99 = some true := by kernel_rfl
@[go_sem] theorem Try.sz99 : szO Try.prog 99 = some 1 := by kernel_rfl
@[go_sem] theorem Try.zero99 : zeroL Try.prog 99 = some [.nilFn] := by kernel_rfl
@[go_sem] theorem Try.small99 : smallO Try.prog 99 = some (1, 8) := by kernel_rfl
@[go_sem] theorem Try.zt99 : zeroT Try.prog 99 = some (.nilFn) := by kernel_rfl
@[go_sem] theorem Try.agg101 : aggO Try.prog 101 = some false := by kernel_rfl
@[go_sem] theorem Try.pln101 : plainO Try.prog 101 = some true := by kernel_rfl
@[go_sem] theorem Try.sz101 : szO Try.prog 101 = some 1 := by kernel_rfl
@[go_sem] theorem Try.zero101 : zeroL Try.prog 101 = some [.nilFn] := by kernel_rfl
@[go_sem] theorem Try.small101 : smallO Try.prog 101 = some (1, 8) := by kernel_rfl
@[go_sem] theorem Try.zt101 : zeroT Try.prog 101 = some (.nilFn) := by kernel_rfl
@[go_sem] theorem Try.agg102 : aggO Try.prog 102 = some false := by kernel_rfl
@[go_sem] theorem Try.pln102 : plainO Try.prog 102 = some true := by kernel_rfl
@[go_sem] theorem Try.sz102 : szO Try.prog 102 = some 1 := by kernel_rfl
@[go_sem] theorem Try.zero102 : zeroL Try.prog 102 = some [.nilFn] := by kernel_rfl
@[go_sem] theorem Try.small102 : smallO Try.prog 102 = some (1, 8) := by kernel_rfl
@[go_sem] theorem Try.zt102 : zeroT Try.prog 102 = some (.nilFn) := by kernel_rfl
@[go_sem] theorem Try.agg103 : aggO Try.prog 103 = some false := by kernel_rfl
@[go_sem] theorem Try.pln103 : plainO Try.prog 103 = some true := by kernel_rfl
@[go_sem] theorem Try.sz103 : szO Try.prog 103 = some 1 := by kernel_rfl
@[go_sem] theorem Try.zero103 : zeroL Try.prog 103 = some [.nilFn] := by kernel_rfl
@[go_sem] theorem Try.small103 : smallO Try.prog 103 = some (1, 8) := by kernel_rfl
@[go_sem] theorem Try.zt103 : zeroT Try.prog 103 = some (.nilFn) := by kernel_rfl
@[go_sem] theorem Try.agg104 : aggO Try.prog 104 = some false := by kernel_rfl
@[go_sem] theorem Try.pln104 : plainO Try.prog 104 = some true := by kernel_rfl
@[go_sem] theorem Try.sz104 : szO Try.prog 104 = some 1 := by kernel_rfl
@[go_sem] theorem Try.zero104 : zeroL Try.prog 104 = some [.nilFn] := by kernel_rfl
@[go_sem] theorem Try.small104 : smallO Try.prog 104 = some (1, 8) := by kernel_rfl
@[go_sem] theorem Try.zt104 : zeroT Try.prog 104 = some (.nilFn) := by kernel_rfl
@[go_sem] theorem Try.agg105 : aggO Try.prog 105 = some false := by kernel_rfl
@[go_sem] theorem Try.pln105 : plainO Try.prog 105 = some true := by kernel_rfl
@[go_sem] theorem Try.sz105 : szO Try.prog 105 = some 1 := by kernel_rfl
@[go_sem] theorem Try.zero105 : zeroL Try.prog 105 = some [.nilSl] := by kernel_rfl
@[go_sem] theorem Try.small105 : smallO Try.prog 105 = some (1, 24) := by kernel_rfl
@[go_sem] theorem Try.zt105 : zeroT Try.prog 105 = some (.nilSl) := by kernel_rfl
@[go_sem] theorem Try.sl105 : sliceO Try.prog 105 = some 107 := by kernel_rfl
@[go_sem] theorem Try.und105 : Program.underlying Try.prog 105 = some (.slice 107) := by kernel_rfl
@[go_sem] theorem Try.agg106 : aggO Try.prog 106 = some true := by kernel_rfl
@[go_sem] theorem Try.pln106 : plainO Try.prog 106 = some true := by kernel_rfl
@[go_sem] theorem Try.sz106 : szO Try.prog 106 = some 10 := by kernel_rfl
@[go_sem] theorem Try.zero106 : zeroL Try.prog 106 = some [.int .i64 0, .int .i64 0, .int .i64 0, .int .i64 0, .int .i64 0, .int .i64 0, .int .i64 0, .int .i64 0, .int .i64 0, .int .i64 0] := by kernel_rfl
@[go_sem] theorem Try.small106 : smallO Try.prog 106 = some (10, 80) := by kernel_rfl
@[go_sem] theorem Try.zt106 : zeroT Try.prog 106 = some (.agg [.int .i64 0, .int .i64 0, .int .i64 0, .int .i64 0, .int .i64 0, .int .i64 0, .int .i64 0, .int .i64 0, .int .i64 0, .int .i64 0]) := by kernel_rfl
@[go_sem] theorem Try.fld106_0 : fieldO Try.prog 106 0 = some (0, 77) := by kernel_rfl
@[go_sem] theorem Try.fld106_1 : fieldO Try.prog 106 1 = some (8, 3) := by kernel_rfl
@[go_sem] theorem Try.fld106_2 : fieldO Try.prog 106 2 = some (9, 3) := by kernel_rfl
@[go_sem] theorem Try.bld106 (parts : List (Nat × TV)) : buildO Try.prog 106 parts = (fillT (fun i => ([(0, 8), (8, 1), (9, 1)] : List (Nat × Nat))[i]?) [.int .i64 0, .int .i64 0, .int .i64 0, .int .i64 0, .int .i64 0, .int .i64 0, .int .i64 0, .int .i64 0, .int .i64 0, .int .i64 0] parts).map .agg := by kernel_rfl
@[go_sem] theorem Try.eqg106 : Program.eqGuardType Try.prog (Program.depth Try.prog) 106 = false := by kernel_rfl
@[go_sem] theorem Try.agg107 : aggO Try.prog 107 = some true := by kernel_rfl
@[go_sem] theorem Try.pln107 : plainO Try.prog 107 = some true := by kernel_rfl
@[go_sem] theorem Try.sz107 : szO Try.prog 107 = some 10 := by kernel_rfl
@[go_sem] theorem Try.zero107 : zeroL Try.prog 107 = some [.int .i64 0, .int .i64 0, .int .i64 0, .int .i64 0, .int .i64 0, .int .i64 0, .int .i64 0, .int .i64 0, .int .i64 0, .int .i64 0] := by kernel_rfl
@[go_sem] theorem Try.small107 : smallO Try.prog 107 = some (10, 80) := by kernel_rfl
@[go_sem] theorem Try.zt107 : zeroT Try.prog 107 = some (.agg [.int .i64 0, .int .i64 0, .int .i64 0, .int .i64 0, .int .i64 0, .int .i64 0, .int .i64 0, .int .i64 0, .int .i64 0, .int .i64 0]) := by kernel_rfl
@[go_sem] theorem Try.fld107_0 : fieldO Try.prog 107 0 = some (0, 77) := by kernel_rfl
@[go_sem] theorem Try.fld107_1 : fieldO Try.prog 107 1 = some (8, 3) := by kernel_rfl
@[go_sem] theorem Try.fld107_2 : fieldO Try.prog 107 2 = some (9, 3) := by kernel_rfl
@[go_sem] theorem Try.bld107 (parts : List (Nat × TV)) : buildO Try.prog 107 parts = (fillT (fun i => ([(0, 8), (8, 1), (9, 1)] : List (Nat × Nat))[i]?) [.int .i64 0, .int .i64 0, .int .i64 0, .int .i64 0, .int .i64 0, .int .i64 0, .int .i64 0, .int .i64 0, .int .i64 0, .int .i64 0] parts).map .agg := by kernel_rfl
@[go_sem] theorem Try.eq107 (a0 b0 : Int) (a1 b1 : Int) (a2 b2 : Int) (a3 b3 : Int) (a4 b4 : Int) (a5 b5 : Int) (a6 b6 : Int) (a7 b7 : Int) (a8 b8 : Int) (a9 b9 : Int) : eqT Try.prog 20 107 (.agg [.int .i64 a0, .int .i64 a1, .int .i64 a2, .int .i64 a3, .int .i64 a4, .int .i64 a5, .int .i64 a6, .int .i64 a7, .int .i64 a8, .int .i64 a9]) (.agg [.int .i64 b0, .int .i64 b1, .int .i64 b2, .int .i64 b3, .int .i64 b4, .int .i64 b5, .int .i64 b6, .int .i64 b7, .int .i64 b8, .int .i64 b9]) = some ((((a0 == b0) && (((a1 == b1) && ((a2 == b2) && true)) && (((a3 == b3) && ((a4 == b4) && true)) && (((a5 == b5) && ((a6 == b6) && true)) && ((a7 == b7) && true))))) && true) && ((a8 == b8) && ((a9 == b9) && true))) := by kernel_rfl
@[go_sem] theorem Try.eqg107 : Program.eqGuardType Try.prog (Program.depth Try.prog) 107 = false := by kernel_rfl
@[go_sem] theorem Try.agg109 : aggO Try.prog 109 = some false := by kernel_rfl
@[go_sem] theorem Try.pln109 : plainO Try.prog 109 = some true := by kernel_rfl
@[go_sem] theorem Try.sz109 : szO Try.prog 109 = some 1 := by kernel_rfl
@[go_sem] theorem Try.zero109 : zeroL Try.prog 109 = some [.nilFn] := by kernel_rfl
@[go_sem] theorem Try.small109 : smallO Try.prog 109 = some (1, 8) := by kernel_rfl
@[go_sem] theorem Try.zt109 : zeroT Try.prog 109 = some (.nilFn) := by kernel_rfl
@[go_sem] theorem Try.agg110 : aggO Try.prog 110 = some false := by kernel_rfl
@[go_sem] theorem Try.pln110 : plainO Try.prog 110 = some true := by kernel_rfl
@[go_sem] theorem Try.sz110 : szO Try.prog 110 = some 1 := by kernel_rfl
@[go_sem] theorem Try.zero110 : zeroL Try.prog 110 = some [.nilFn] := by kernel_rfl
@[go_sem] theorem Try.small110 : smallO Try.prog 110 = some (1, 8) := by kernel_rfl
@[go_sem] theorem Try.zt110 : zeroT Try.prog 110 = some (.nilFn) := by kernel_rfl
@[go_sem] theorem Try.agg111 : aggO Try.prog 111 = some false := by kernel_rfl
@[go_sem] theorem Try.pln111 : plainO Try.prog 111 = some true := by kernel_rfl
@[go_sem] theorem Try.sz111 : szO Try.prog 111 = some 1 := by kernel_rfl
@[go_sem] theorem Try.zero111 : zeroL Try.prog 111 = some [.nilFn] := by kernel_rfl
@[go_sem] theorem Try.small111 : smallO Try.prog 111 = some (1, 8) := by kernel_rfl
@[go_sem] theorem Try.zt111 : zeroT Try.prog 111 = some (.nilFn) := by kernel_rfl
@[go_sem] theorem Try.agg112 : aggO Try.prog 112 = some false := by kernel_rfl
@[go_sem] theorem Try.pln112 : plainO Try.prog 112 = some true := by kernel_rfl
@[go_sem] theorem Try.sz112 : szO Try.prog 112 = some 1 := by kernel_rfl
@[go_sem] theorem Try.zero112 : zeroL Try.prog 112 = some [.nilFn] := by kernel_rfl
@[go_sem] theorem Try.small112 : smallO Try.prog 112 = some (1, 8) := by kernel_rfl
@[go_sem] theorem Try.zt112 : zeroT Try.prog 112 = some (.nilFn) := by kernel_rfl
@[go_sem] theorem Try.agg113 : aggO Try.prog 113 = some true := by kernel_rfl
@[go_sem] theorem Try.pln113 : plainO Try.prog 113 = some true := by kernel_rfl
@[go_sem] theorem Try.sz113 : szO Try.prog 113 = some 2 := by kernel_rfl
@[go_sem] theorem Try.zero113 : zeroL Try.prog 113 = some [.int .i64 0, .bool false] := by kernel_rfl
@[go_sem] theorem Try.small113 : smallO Try.prog 113 = some (2, 16) := by kernel_rfl
@[go_sem] theorem Try.zt113 : zeroT Try.prog 113 = some (.agg [.int .i64 0, .bool false]) := by kernel_rfl
@[go_sem] theorem Try.fld113_0 : fieldO Try.prog 113 0 = some (0, 3) := by kernel_rfl
@[go_sem] theorem Try.fld113_1 : fieldO Try.prog 113 1 = some (1, 4) := by kernel_rfl
@[go_sem] theorem Try.bld113 (parts : List (Nat × TV)) : buildO Try.prog 113 parts = (fillT (fun i => ([(0, 1), (1, 1)] : List (Nat × Nat))[i]?) [.int .i64 0, .bool false] parts).map .agg := by kernel_rfl
@[go_sem] theorem Try.eqg113 : Program.eqGuardType Try.prog (Program.depth Try.prog) 113 = false := by kernel_rfl
@[go_sem] theorem Try.agg114 : aggO Try.prog 114 = some true := by kernel_rfl
@[go_sem] theorem Try.pln114 : plainO Try.prog 114 = some true := by kernel_rfl
@[go_sem] theorem Try.sz114 : szO Try.prog 114 = some 2 := by kernel_rfl
@[go_sem] theorem Try.zero114 : zeroL Try.prog 114 = some [.int .i64 0, .bool false] := by kernel_rfl
@[go_sem] theorem Try.small114 : smallO Try.prog 114 = some (2, 16) := by kernel_rfl
@[go_sem] theorem Try.zt114 : zeroT Try.prog 114 = some (.agg [.int .i64 0, .bool false]) := by kernel_rfl
@[go_sem] theorem Try.fld114_0 : fieldO Try.prog 114 0 = some (0, 3) := by kernel_rfl
@[go_sem] theorem Try.fld114_1 : fieldO Try.prog 114 1 = some (1, 4) := by kernel_rfl
@[go_sem] theorem Try.bld114 (parts : List (Nat × TV)) : buildO Try.prog 114 parts = (fillT (fun i => ([(0, 1), (1, 1)] : List (Nat × Nat))[i]?) [.int .i64 0, .bool false] parts).map .agg := by kernel_rfl
@[go_sem] theorem Try.eq114 (a0 b0 : Int) (a1 b1 : Bool) : eqT Try.prog 20 114 (.agg [.int .i64 a0, .bool a1]) (.agg [.int .i64 b0, .bool b1]) = some ((a0 == b0) && ((a1 == b1) && true)) := by kernel_rfl
@[go_sem] theorem Try.eqg114 : Program.eqGuardType Try.prog (Program.depth Try.prog) 114 = false := by kernel_rfl
@[go_sem] theorem Try.agg115 : aggO Try.prog 115 = some false := by kernel_rfl
@[go_sem] theorem Try.pln115 : plainO Try.prog 115 = some true := by kernel_rfl
@[go_sem] theorem Try.sz115 : szO Try.prog 115 = some 1 := by kernel_rfl
@[go_sem] theorem Try.zero115 : zeroL Try.prog 115 = some [.nilFn] := by kernel_rfl
@[go_sem] theorem Try.small115 : smallO Try.prog 115 = some (1, 8) := by kernel_rfl
@[go_sem] theorem Try.zt115 : zeroT Try.prog 115 = some (.nilFn) := by kernel_rfl
@[go_sem] theorem Try.agg116 : aggO Try.prog 116 = some false := by kernel_rfl
@[go_sem] theorem Try.pln116 : plainO Try.prog 116 = some true := by kernel_rfl
@[go_sem] theorem Try.sz116 : szO Try.prog 116 = some 1 := by kernel_rfl
@[go_sem] theorem Try.zero116 : zeroL Try.prog 116 = some [.nilFn] := by kernel_rfl
@[go_sem] theorem Try.small116 : smallO Try.prog 116 = some (1, 8) := by kernel_rfl
@[go_sem] theorem Try.zt116 : zeroT Try.prog 116 = some (.nilFn) := by kernel_rfl
@[go_sem] theorem Try.agg117 : aggO Try.prog 117 = some false := by kernel_rfl
@[go_sem] theorem Try.pln117 : plainO Try.prog 117 = some true := by kernel_rfl
@[go_sem] theorem Try.sz117 : szO Try.prog 117 = some 1 := by kernel_rfl
@[go_sem] theorem Try.zero117 : zeroL Try.prog 117 = some [.nilFn] := by kernel_rfl
@[go_sem] theorem Try.small117 : smallO Try.prog 117 = some (1, 8) := by kernel_rfl
@[go_sem] theorem Try.zt117 : zeroT Try.prog 117 = some (.nilFn) := by kernel_rfl
@[go_sem] theorem Try.agg118 : aggO Try.prog 118 = some false := by kernel_rfl
@[go_sem] theorem Try.pln118 : plainO Try.prog 118 = some true := by kernel_rfl
@[go_sem] theorem Try.sz118 : szO Try.prog 118 = some 1 := by kernel_rfl
@[go_sem] theorem Try.zero118 : zeroL Try.prog 118 = some [.nilFn] := by kernel_rfl
@[go_sem] theorem Try.small118 : smallO Try.prog 118 = some (1, 8) := by kernel_rfl
@[go_sem] theorem Try.zt118 : zeroT Try.prog 118 = some (.nilFn) := by kernel_rfl
@[go_sem] theorem Try.agg119 : aggO Try.prog 119 = some false := by kernel_rfl
@[go_sem] theorem Try.pln119 : plainO Try.prog 119 = some true := by kernel_rfl
@[go_sem] theorem Try.sz119 : szO Try.prog 119 = some 1 := by kernel_rfl
@[go_sem] theorem Try.zero119 : zeroL Try.prog 119 = some [.nilFn] := by kernel_rfl
@[go_sem] theorem Try.small119 : smallO Try.prog 119 = some (1, 8) := by kernel_rfl
@[go_sem] theorem Try.zt119 : zeroT Try.prog 119 = some (.nilFn) := by kernel_rfl
@[go_sem] theorem Try.agg120 : aggO Try.prog 120 = some false := by kernel_rfl
@[go_sem] theorem Try.pln120 : plainO Try.prog 120 = some true := by kernel_rfl
@[go_sem] theorem Try.sz120 : szO Try.prog 120 = some 1 := by kernel_rfl
@[go_sem] theorem Try.zero120 : zeroL Try.prog 120 = some [.nilFn] := by kernel_rfl
@[go_sem] theorem Try.small120 : smallO Try.prog 120 = some (1, 8) := by kernel_rfl
@[go_sem] theorem Try.zt120 : zeroT Try.prog 120 = some (.nilFn) := by kernel_rfl
@[go_sem] theorem Try.agg121 : aggO Try.prog 121 = some false := by kernel_rfl
@[go_sem] theorem Try.pln121 : plainO Try.prog 121 = some true := by kernel_rfl
@[go_sem] theorem Try.sz121 : szO Try.prog 121 = some 1 := by kernel_rfl
@[go_sem] theorem Try.zero121 : zeroL Try.prog 121 = some [.nilFn] := by kernel_rfl
@[go_sem] theorem Try.small121 : smallO Try.prog 121 = some (1, 8) := by kernel_rfl
@[go_sem] theorem Try.zt121 : zeroT Try.prog 121 = some (.nilFn) := by kernel_rfl
@[go_sem] theorem Try.agg122 : aggO Try.prog 122 = some false := by kernel_rfl
@[go_sem] theorem Try.pln122 : plainO Try.prog 122 = some true := by kernel_rfl
@[go_sem] theorem Try.sz122 : szO Try.prog 122 = some 1 := by kernel_rfl
@[go_sem] theorem Try.zero122 : zeroL Try.prog 122 = some [.nilFn] := by kernel_rfl
@[go_sem] theorem Try.small122 : smallO Try.prog 122 = some (1, 8) := by kernel_rfl
@[go_sem] theorem Try.zt122 : zeroT Try.prog 122 = some (.nilFn) := by kernel_rfl
@[go_sem] theorem Try.agg123 : aggO Try.prog 123 = some true := by kernel_rfl
@[go_sem] theorem Try.pln123 : plainO Try.prog 123 = some true := by kernel_rfl
@[go_sem] theorem Try.sz123 : szO Try.prog 123 = some 4 := by kernel_rfl
@[go_sem] theorem Try.zero123 : zeroL Try.prog 123 = some [.nilPtr, .nilPtr, .nilPtr, .str ⟨#[]⟩] := by kernel_rfl
@[go_sem] theorem Try.small123 : smallO Try.prog 123 = some (4, 40) := by kernel_rfl
@[go_sem] theorem Try.zt123 : zeroT Try.prog 123 = some (.agg [.nilPtr, .nilPtr, .nilPtr, .str ⟨#[]⟩]) := by kernel_rfl
@[go_sem] theorem Try.fld123_0 : fieldO Try.prog 123 0 = some (0, 17) := by kernel_rfl
@[go_sem] theorem Try.fld123_1 : fieldO Try.prog 123 1 = some (1, 17) := by kernel_rfl
@[go_sem] theorem Try.fld123_2 : fieldO Try.prog 123 2 = some (2, 17) := by kernel_rfl
@[go_sem] theorem Try.fld123_3 : fieldO Try.prog 123 3 = some (3, 9) := by kernel_rfl
@[go_sem] theorem Try.bld123 (parts : List (Nat × TV)) : buildO Try.prog 123 parts = (fillT (fun i => ([(0, 1), (1, 1), (2, 1), (3, 1)] : List (Nat × Nat))[i]?) [.nilPtr, .nilPtr, .nilPtr, .str ⟨#[]⟩] parts).map .agg := by kernel_rfl
@[go_sem] theorem Try.eqg123 : Program.eqGuardType Try.prog (Program.depth Try.prog) 123 = false := by kernel_rfl
@[go_sem] theorem Try.agg125 : aggO Try.prog 125 = some true := by kernel_rfl
@[go_sem] theorem Try.pln125 : plainO Try.prog 125 = some true := by kernel_rfl
@[go_sem] theorem Try.sz125 : szO Try.prog 125 = some 0 := by kernel_rfl
@[go_sem] theorem Try.zero125 : zeroL Try.prog 125 = some [] := by kernel_rfl
@[go_sem] theorem Try.zt125 : zeroT Try.prog 125 = some (.agg []) := by kernel_rfl
@[go_sem] theorem Try.arr125 : arrayO Try.prog 125 = some (0, 16) := by kernel_rfl
@[go_sem] theorem Try.und125 : Program.underlying Try.prog 125 = some (.array 0 16) := by kernel_rfl
@[go_sem] theorem Try.agg126 : aggO Try.prog 126 = some true := by kernel_rfl
@[go_sem] theorem Try.pln126 : plainO Try.prog 126 = some true := by kernel_rfl
@[go_sem] theorem Try.sz126 : szO Try.prog 126 = some 0 := by kernel_rfl
@[go_sem] theorem Try.zero126 : zeroL Try.prog 126 = some [] := by kernel_rfl
@[go_sem] theorem Try.zt126 : zeroT Try.prog 126 = some (.agg []) := by kernel_rfl
@[go_sem] theorem Try.fld126_0 : fieldO Try.prog 126 0 = some (0, 125) := by kernel_rfl
@[go_sem] theorem Try.agg128 : aggO Try.prog 128 = some false := by kernel_rfl
@[go_sem] theorem Try.pln128 : plainO Try.prog 128 = some true := by kernel_rfl
@[go_sem] theorem Try.sz128 : szO Try.prog 128 = some 1 := by kernel_rfl
@[go_sem] theorem Try.zero128 : zeroL Try.prog 128 = some [.int .u32 0] := by kernel_rfl
@[go_sem] theorem Try.small128 : smallO Try.prog 128 = some (1, 4) := by kernel_rfl
@[go_sem] theorem Try.zt128 : zeroT Try.prog 128 = some (.int .u32 0) := by kernel_rfl
@[go_sem] theorem Try.knd128 : kindO Try.prog 128 = some .u32 := by kernel_rfl
@[go_sem] theorem Try.und128 : Program.underlying Try.prog 128 = some (.int .u32) := by kernel_rfl
@[go_sem] theorem Try.agg131 : aggO Try.prog 131 = some false := by kernel_rfl
@[go_sem] theorem Try.pln131 : plainO Try.prog 131 = some true := by kernel_rfl
@[go_sem] theorem Try.sz131 : szO Try.prog 131 = some 1 := by kernel_rfl
@[go_sem] theorem Try.zero131 : zeroL Try.prog 131 = some [.nilFn] := by kernel_rfl
@[go_sem] theorem Try.small131 : smallO Try.prog 131 = some (1, 8) := by kernel_rfl
@[go_sem] theorem Try.zt131 : zeroT Try.prog 131 = some (.nilFn) := by kernel_rfl
@[go_sem] theorem Try.agg132 : aggO Try.prog 132 = some false := by kernel_rfl
@[go_sem] theorem Try.pln132 : plainO Try.prog 132 = some true := by kernel_rfl
@[go_sem] theorem Try.sz132 : szO Try.prog 132 = some 1 := by kernel_rfl
@[go_sem] theorem Try.zero132 : zeroL Try.prog 132 = some [.nilPtr] := by kernel_rfl
@[go_sem] theorem Try.small132 : smallO Try.prog 132 = some (1, 8) := by kernel_rfl
@[go_sem] theorem Try.zt132 : zeroT Try.prog 132 = some (.nilPtr) := by kernel_rfl
@[go_sem] theorem Try.agg135 : aggO Try.prog 135 = some true := by kernel_rfl
@[go_sem] theorem Try.pln135 : plainO Try.prog 135 = some true := by kernel_rfl
@[go_sem] theorem Try.sz135 : szO Try.prog 135 = some 11 := by kernel_rfl
@[go_sem] theorem Try.zero135 : zeroL Try.prog 135 = some [.int .u64 0, .int .u64 0, .int .u32 0, .int .u8 0, .int .u8 0, .int .u8 0, .int .u8 0, .nilFn, .nilPtr, .int .i32 0, .int .i32 0] := by kernel_rfl
@[go_sem] theorem Try.small135 : smallO Try.prog 135 = some (11, 48) := by kernel_rfl
@[go_sem] theorem Try.zt135 : zeroT Try.prog 135 = some (.agg [.int .u64 0, .int .u64 0, .int .u32 0, .int .u8 0, .int .u8 0, .int .u8 0, .int .u8 0, .nilFn, .nilPtr, .int .i32 0, .int .i32 0]) := by kernel_rfl
@[go_sem] theorem Try.fld135_0 : fieldO Try.prog 135 0 = some (0, 12) := by kernel_rfl
@[go_sem] theorem Try.fld135_1 : fieldO Try.prog 135 1 = some (1, 12) := by kernel_rfl
@[go_sem] theorem Try.fld135_2 : fieldO Try.prog 135 2 = some (2, 128) := by kernel_rfl
@[go_sem] theorem Try.fld135_3 : fieldO Try.prog 135 3 = some (3, 129) := by kernel_rfl
@[go_sem] theorem Try.fld135_4 : fieldO Try.prog 135 4 = some (4, 5) := by kernel_rfl
@[go_sem] theorem Try.fld135_5 : fieldO Try.prog 135 5 = some (5, 5) := by kernel_rfl
@[go_sem] theorem Try.fld135_6 : fieldO Try.prog 135 6 = some (6, 130) := by kernel_rfl
@[go_sem] theorem Try.fld135_7 : fieldO Try.prog 135 7 = some (7, 131) := by kernel_rfl
@[go_sem] theorem Try.fld135_8 : fieldO Try.prog 135 8 = some (8, 132) := by kernel_rfl
@[go_sem] theorem Try.fld135_9 : fieldO Try.prog 135 9 = some (9, 133) := by kernel_rfl
@[go_sem] theorem Try.fld135_10 : fieldO Try.prog 135 10 = some (10, 134) := by kernel_rfl
@[go_sem] theorem Try.bld135 (parts : List (Nat × TV)) : buildO Try.prog 135 parts = (fillT (fun i => ([(0, 1), (1, 1), (2, 1), (3, 1), (4, 1), (5, 1), (6, 1), (7, 1), (8, 1), (9, 1), (10, 1)] : List (Nat × Nat))[i]?) [.int .u64 0, .int .u64 0, .int .u32 0, .int .u8 0, .int .u8 0, .int .u8 0, .int .u8 0, .nilFn, .nilPtr, .int .i32 0, .int .i32 0] parts).map .agg := by kernel_rfl
@[go_sem] theorem Try.eqg135 : Program.eqGuardType Try.prog (Program.depth Try.prog) 135 = false := by kernel_rfl
theorem Try.mixes : Try.prog.follows .mixedOrders = true := by kernel_rfl
end Go.Proofs.Ytgofljmnlfnlnaa
