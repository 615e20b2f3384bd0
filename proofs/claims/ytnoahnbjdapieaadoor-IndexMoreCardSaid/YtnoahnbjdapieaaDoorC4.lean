/- What the claim leans on, text 4. -/
import Derived.Test.YtnoahnbjdapieaaDoorRows
import Derived.Test.YtnoahnbjdapieaaDoorC3
set_option linter.unusedSimpArgs false
set_option linter.unusedVariables false

/- Part Ty. -/
namespace Go.Proofs.YtnoahnbjdapieaaDoor
open Go.Pm
@[go_sem] theorem Tryd.agg1 : aggO Tryd.prog 1 = some false := by kernel_rfl
@[go_sem] theorem Tryd.pln1 : plainO Tryd.prog 1 = some true := by kernel_rfl
@[go_sem] theorem Tryd.sz1 : szO Tryd.prog 1 = some 1 := by kernel_rfl
@[go_sem] theorem Tryd.zero1 : zeroL Tryd.prog 1 = some [.nilFn] := by kernel_rfl
@[go_sem] theorem Tryd.small1 : smallO Tryd.prog 1 = some (1, 8) := by kernel_rfl
@[go_sem] theorem Tryd.zt1 : zeroT Tryd.prog 1 = some (.nilFn) := by kernel_rfl
@[go_sem] theorem Tryd.agg2 : aggO Tryd.prog 2 = some false := by kernel_rfl
@[go_sem] theorem Tryd.pln2 : plainO Tryd.prog 2 = some true := by kernel_rfl
@[go_sem] theorem Tryd.sz2 : szO Tryd.prog 2 = some 1 := by kernel_rfl
@[go_sem] theorem Tryd.zero2 : zeroL Tryd.prog 2 = some [.int .i64 0] := by kernel_rfl
@[go_sem] theorem Tryd.small2 : smallO Tryd.prog 2 = some (1, 8) := by kernel_rfl
@[go_sem] theorem Tryd.zt2 : zeroT Tryd.prog 2 = some (.int .i64 0) := by kernel_rfl
@[go_sem] theorem Tryd.knd2 : kindO Tryd.prog 2 = some .i64 := by kernel_rfl
@[go_sem] theorem Tryd.und2 : Program.underlying Tryd.prog 2 = some (.int .i64) := by kernel_rfl
@[go_sem] theorem Tryd.agg3 : aggO Tryd.prog 3 = some false := by kernel_rfl
@[go_sem] theorem Tryd.pln3 : plainO Tryd.prog 3 = some true := by kernel_rfl
@[go_sem] theorem Tryd.sz3 : szO Tryd.prog 3 = some 1 := by kernel_rfl
@[go_sem] theorem Tryd.zero3 : zeroL Tryd.prog 3 = some [.int .i64 0] := by kernel_rfl
@[go_sem] theorem Tryd.small3 : smallO Tryd.prog 3 = some (1, 8) := by kernel_rfl
@[go_sem] theorem Tryd.zt3 : zeroT Tryd.prog 3 = some (.int .i64 0) := by kernel_rfl
@[go_sem] theorem Tryd.knd3 : kindO Tryd.prog 3 = some .i64 := by kernel_rfl
@[go_sem] theorem Tryd.und3 : Program.underlying Tryd.prog 3 = some (.int .i64) := by kernel_rfl
@[go_sem] theorem Tryd.agg4 : aggO Tryd.prog 4 = some false := by kernel_rfl
@[go_sem] theorem Tryd.pln4 : plainO Tryd.prog 4 = some true := by kernel_rfl
@[go_sem] theorem Tryd.sz4 : szO Tryd.prog 4 = some 1 := by kernel_rfl
@[go_sem] theorem Tryd.zero4 : zeroL Tryd.prog 4 = some [.bool false] := by kernel_rfl
@[go_sem] theorem Tryd.small4 : smallO Tryd.prog 4 = some (1, 1) := by kernel_rfl
@[go_sem] theorem Tryd.zt4 : zeroT Tryd.prog 4 = some (.bool false) := by kernel_rfl
@[go_sem] theorem Tryd.eq4 (a b : Bool) : eqT Tryd.prog 20 4 (.bool a) (.bool b) = some (a == b) := by kernel_rfl
@[go_sem] theorem Tryd.und4 : Program.underlying Tryd.prog 4 = some .bool := by kernel_rfl
@[go_sem] theorem Tryd.agg5 : aggO Tryd.prog 5 = some false := by kernel_rfl
@[go_sem] theorem Tryd.pln5 : plainO Tryd.prog 5 = some true := by kernel_rfl
@[go_sem] theorem Tryd.sz5 : szO Tryd.prog 5 = some 1 := by kernel_rfl
@[go_sem] theorem Tryd.zero5 : zeroL Tryd.prog 5 = some [.int .u8 0] := by kernel_rfl
@[go_sem] theorem Tryd.small5 : smallO Tryd.prog 5 = some (1, 1) := by kernel_rfl
@[go_sem] theorem Tryd.zt5 : zeroT Tryd.prog 5 = some (.int .u8 0) := by kernel_rfl
@[go_sem] theorem Tryd.knd5 : kindO Tryd.prog 5 = some .u8 := by kernel_rfl
@[go_sem] theorem Tryd.und5 : Program.underlying Tryd.prog 5 = some (.int .u8) := by kernel_rfl
@[go_sem] theorem Tryd.agg7 : aggO Tryd.prog 7 = some true := by kernel_rfl
@[go_sem] theorem Tryd.pln7 : plainO Tryd.prog 7 = some true := by kernel_rfl
@[go_sem] theorem Tryd.sz7 : szO Tryd.prog 7 = some 4 := by kernel_rfl
@[go_sem] theorem Tryd.zero7 : zeroL Tryd.prog 7 = some [.int .i64 0, .int .i64 0, .bool false, .int .u8 0] := by kernel_rfl
@[go_sem] theorem Tryd.small7 : smallO Tryd.prog 7 = some (4, 24) := by kernel_rfl
@[go_sem] theorem Tryd.zt7 : zeroT Tryd.prog 7 = some (.agg [.int .i64 0, .int .i64 0, .bool false, .int .u8 0]) := by kernel_rfl
@[go_sem] theorem Tryd.fld7_0 : fieldO Tryd.prog 7 0 = some (0, 2) := by kernel_rfl
@[go_sem] theorem Tryd.fld7_1 : fieldO Tryd.prog 7 1 = some (1, 3) := by kernel_rfl
@[go_sem] theorem Tryd.fld7_2 : fieldO Tryd.prog 7 2 = some (2, 4) := by kernel_rfl
@[go_sem] theorem Tryd.fld7_3 : fieldO Tryd.prog 7 3 = some (3, 6) := by kernel_rfl
@[go_sem] theorem Tryd.bld7 (parts : List (Nat × TV)) : buildO Tryd.prog 7 parts = (fillT (fun i => ([(0, 1), (1, 1), (2, 1), (3, 1)] : List (Nat × Nat))[i]?) [.int .i64 0, .int .i64 0, .bool false, .int .u8 0] parts).map .agg := by kernel_rfl
@[go_sem] theorem Tryd.eqg7 : Program.eqGuardType Tryd.prog (Program.depth Tryd.prog) 7 = false := by kernel_rfl
@[go_sem] theorem Tryd.agg9 : aggO Tryd.prog 9 = some false := by kernel_rfl
@[go_sem] theorem Tryd.pln9 : plainO Tryd.prog 9 = some true := by kernel_rfl
@[go_sem] theorem Tryd.sz9 : szO Tryd.prog 9 = some 1 := by kernel_rfl
@[go_sem] theorem Tryd.zero9 : zeroL Tryd.prog 9 = some [.str ⟨#[]⟩] := by kernel_rfl
@[go_sem] theorem Tryd.small9 : smallO Tryd.prog 9 = some (1, 16) := by kernel_rfl
@[go_sem] theorem Tryd.zt9 : zeroT Tryd.prog 9 = some (.str ⟨#[]⟩) := by kernel_rfl
@[go_sem] theorem Tryd.eq9 (a b : ByteArray) : eqT Tryd.prog 20 9 (.str a) (.str b) = some (a.toList == b.toList) := by kernel_rfl
@[go_sem] theorem Tryd.und9 : Program.underlying Tryd.prog 9 = some .string := by kernel_rfl
@[go_sem] theorem Tryd.agg12 : aggO Tryd.prog 12 = some false := by kernel_rfl
@[go_sem] theorem Tryd.pln12 : plainO Tryd.prog 12 = some true := by kernel_rfl
@[go_sem] theorem Tryd.sz12 : szO Tryd.prog 12 = some 1 := by kernel_rfl
@[go_sem] theorem Tryd.zero12 : zeroL Tryd.prog 12 = some [.int .u64 0] := by kernel_rfl
@[go_sem] theorem Tryd.small12 : smallO Tryd.prog 12 = some (1, 8) := by kernel_rfl
@[go_sem] theorem Tryd.zt12 : zeroT Tryd.prog 12 = some (.int .u64 0) := by kernel_rfl
@[go_sem] theorem Tryd.knd12 : kindO Tryd.prog 12 = some .u64 := by kernel_rfl
@[go_sem] theorem Tryd.und12 : Program.underlying Tryd.prog 12 = some (.int .u64) := by kernel_rfl
@[go_sem] theorem Tryd.agg13 : aggO Tryd.prog 13 = some true := by kernel_rfl
@[go_sem] theorem Tryd.pln13 : plainO Tryd.prog 13 = some true := by kernel_rfl
@[go_sem] theorem Tryd.sz13 : szO Tryd.prog 13 = some 2 := by kernel_rfl
@[go_sem] theorem Tryd.zero13 : zeroL Tryd.prog 13 = some [.str ⟨#[]⟩, .int .u64 0] := by kernel_rfl
@[go_sem] theorem Tryd.small13 : smallO Tryd.prog 13 = some (2, 24) := by kernel_rfl
@[go_sem] theorem Tryd.zt13 : zeroT Tryd.prog 13 = some (.agg [.str ⟨#[]⟩, .int .u64 0]) := by kernel_rfl
@[go_sem] theorem Tryd.fld13_0 : fieldO Tryd.prog 13 0 = some (0, 9) := by kernel_rfl
@[go_sem] theorem Tryd.fld13_1 : fieldO Tryd.prog 13 1 = some (1, 12) := by kernel_rfl
@[go_sem] theorem Tryd.bld13 (parts : List (Nat × TV)) : buildO Tryd.prog 13 parts = (fillT (fun i => ([(0, 1), (1, 1)] : List (Nat × Nat))[i]?) [.str ⟨#[]⟩, .int .u64 0] parts).map .agg := by kernel_rfl
@[go_sem] theorem Tryd.eqg13 : Program.eqGuardType Tryd.prog (Program.depth Tryd.prog) 13 = false := by kernel_rfl
@[go_sem] theorem Tryd.agg15 : aggO Tryd.prog 15 = some false := by kernel_rfl
@[go_sem] theorem Tryd.pln15 : plainO Tryd.prog 15 = some true := by kernel_rfl
@[go_sem] theorem Tryd.sz15 : szO Tryd.prog 15 = some 1 := by kernel_rfl
@[go_sem] theorem Tryd.zero15 : zeroL Tryd.prog 15 = some [.nilPtr] := by kernel_rfl
@[go_sem] theorem Tryd.small15 : smallO Tryd.prog 15 = some (1, 8) := by kernel_rfl
@[go_sem] theorem Tryd.zt15 : zeroT Tryd.prog 15 = some (.nilPtr) := by kernel_rfl
@[go_sem] theorem Tryd.agg16 : aggO Tryd.prog 16 = some false := by kernel_rfl
@[go_sem] theorem Tryd.pln16 : plainO Tryd.prog 16 = some true := by kernel_rfl
@[go_sem] theorem Tryd.sz16 : szO Tryd.prog 16 = some 1 := by kernel_rfl
@[go_sem] theorem Tryd.zero16 : zeroL Tryd.prog 16 = some [.nilPtr] := by kernel_rfl
@[go_sem] theorem Tryd.small16 : smallO Tryd.prog 16 = some (1, 8) := by kernel_rfl
@[go_sem] theorem Tryd.zt16 : zeroT Tryd.prog 16 = some (.nilPtr) := by kernel_rfl
@[go_sem] theorem Tryd.agg17 : aggO Tryd.prog 17 = some false := by kernel_rfl
@[go_sem] theorem Tryd.pln17 : plainO Tryd.prog 17 = some true := by kernel_rfl
@[go_sem] theorem Tryd.sz17 : szO Tryd.prog 17 = some 1 := by kernel_rfl
@[go_sem] theorem Tryd.zero17 : zeroL Tryd.prog 17 = some [.nilPtr] := by kernel_rfl
@[go_sem] theorem Tryd.small17 : smallO Tryd.prog 17 = some (1, 8) := by kernel_rfl
@[go_sem] theorem Tryd.zt17 : zeroT Tryd.prog 17 = some (.nilPtr) := by kernel_rfl
@[go_sem] theorem Tryd.agg18 : aggO Tryd.prog 18 = some true := by kernel_rfl
@[go_sem] theorem Tryd.pln18 : plainO Tryd.prog 18 = some true := by kernel_rfl
@[go_sem] theorem Tryd.sz18 : szO Tryd.prog 18 = some 1 := by kernel_rfl
@[go_sem] theorem Tryd.zero18 : zeroL Tryd.prog 18 = some [.nilPtr] := by kernel_rfl
@[go_sem] theorem Tryd.small18 : smallO Tryd.prog 18 = some (1, 8) := by kernel_rfl
@[go_sem] theorem Tryd.zt18 : zeroT Tryd.prog 18 = some (.agg [.nilPtr]) := by kernel_rfl
@[go_sem] theorem Tryd.fld18_0 : fieldO Tryd.prog 18 0 = some (0, 17) := by kernel_rfl
@[go_sem] theorem Tryd.bld18 (parts : List (Nat × TV)) : buildO Tryd.prog 18 parts = (fillT (fun i => ([(0, 1)] : List (Nat × Nat))[i]?) [.nilPtr] parts).map .agg := by kernel_rfl
@[go_sem] theorem Tryd.bldp18 (parts : List (Nat × PV)) : buildP Tryd.prog 18 parts = fillP (fun i => ([(0, 1)] : List (Nat × Nat))[i]?) [.t (.nilPtr)] parts := by kernel_rfl
@[go_sem] theorem Tryd.eqg18 : Program.eqGuardType Tryd.prog (Program.depth Tryd.prog) 18 = false := by kernel_rfl
@[go_sem] theorem Tryd.agg20 : aggO Tryd.prog 20 = some false := by kernel_rfl
@[go_sem] theorem Tryd.pln20 : plainO Tryd.prog 20 = some false := by kernel_rfl
@[go_sem] theorem Tryd.sz20 : szO Tryd.prog 20 = some 1 := by kernel_rfl
@[go_sem] theorem Tryd.zero20 : zeroL Tryd.prog 20 = some [.nilIf] := by kernel_rfl
@[go_sem] theorem Tryd.small20 : smallO Tryd.prog 20 = some (1, 16) := by kernel_rfl
@[go_sem] theorem Tryd.zt20 : zeroT Tryd.prog 20 = some (.nilIf) := by kernel_rfl
@[go_sem] theorem Tryd.agg21 : aggO Tryd.prog 21 = some false := by kernel_rfl
@[go_sem] theorem Tryd.pln21 : plainO Tryd.prog 21 = some true := by kernel_rfl
@[go_sem] theorem Tryd.sz21 : szO Tryd.prog 21 = some 1 := by kernel_rfl
@[go_sem] theorem Tryd.zero21 : zeroL Tryd.prog 21 = some [.int .i32 0] := by kernel_rfl
@[go_sem] theorem Tryd.small21 : smallO Tryd.prog 21 = some (1, 4) := by kernel_rfl
@[go_sem] theorem Tryd.zt21 : zeroT Tryd.prog 21 = some (.int .i32 0) := by kernel_rfl
@[go_sem] theorem Tryd.knd21 : kindO Tryd.prog 21 = some .i32 := by kernel_rfl
@[go_sem] theorem Tryd.und21 : Program.underlying Tryd.prog 21 = some (.int .i32) := by kernel_rfl
@[go_sem] theorem Tryd.agg22 : aggO Tryd.prog 22 = some false := by kernel_rfl
@[go_sem] theorem Tryd.pln22 : plainO Tryd.prog 22 = some true := by kernel_rfl
@[go_sem] theorem Tryd.sz22 : szO Tryd.prog 22 = some 1 := by kernel_rfl
@[go_sem] theorem Tryd.zero22 : zeroL Tryd.prog 22 = some [.nilSl] := by kernel_rfl
@[go_sem] theorem Tryd.small22 : smallO Tryd.prog 22 = some (1, 24) := by kernel_rfl
@[go_sem] theorem Tryd.zt22 : zeroT Tryd.prog 22 = some (.nilSl) := by kernel_rfl
@[go_sem] theorem Tryd.eqn22 : eqT Tryd.prog 20 22 .nilSl .nilSl = some true := by kernel_rfl
@[go_sem] theorem Tryd.eqs22 (cs : List TV) (n : Nat) (f : Bool) : eqT Tryd.prog 20 22 (.sl cs n f) .nilSl = some false := by kernel_rfl
@[go_sem] theorem Tryd.eqt22 (cs : List TV) (n : Nat) (f : Bool) : eqT Tryd.prog 20 22 .nilSl (.sl cs n f) = some false := by kernel_rfl
@[go_sem] theorem Tryd.sl22 : sliceO Tryd.prog 22 = some 3 := by kernel_rfl
@[go_sem] theorem Tryd.und22 : Program.underlying Tryd.prog 22 = some (.slice 3) := by kernel_rfl
@[go_sem] theorem Tryd.agg23 : aggO Tryd.prog 23 = some true := by kernel_rfl
@[go_sem] theorem Tryd.pln23 : plainO Tryd.prog 23 = some true := by kernel_rfl
@[go_sem] theorem Tryd.sz23 : szO Tryd.prog 23 = some 2 := by kernel_rfl
@[go_sem] theorem Tryd.zero23 : zeroL Tryd.prog 23 = some [.int .i64 0, .nilSl] := by kernel_rfl
@[go_sem] theorem Tryd.small23 : smallO Tryd.prog 23 = some (2, 32) := by kernel_rfl
@[go_sem] theorem Tryd.zt23 : zeroT Tryd.prog 23 = some (.agg [.int .i64 0, .nilSl]) := by kernel_rfl
@[go_sem] theorem Tryd.fld23_0 : fieldO Tryd.prog 23 0 = some (0, 3) := by kernel_rfl
@[go_sem] theorem Tryd.fld23_1 : fieldO Tryd.prog 23 1 = some (1, 22) := by kernel_rfl
@[go_sem] theorem Tryd.bld23 (parts : List (Nat × TV)) : buildO Tryd.prog 23 parts = (fillT (fun i => ([(0, 1), (1, 1)] : List (Nat × Nat))[i]?) [.int .i64 0, .nilSl] parts).map .agg := by kernel_rfl
@[go_sem] theorem Tryd.bldp23 (parts : List (Nat × PV)) : buildP Tryd.prog 23 parts = fillP (fun i => ([(0, 1), (1, 1)] : List (Nat × Nat))[i]?) [.t (.int .i64 0), .t (.nilSl)] parts := by kernel_rfl
@[go_sem] theorem Tryd.eqg23 : Program.eqGuardType Tryd.prog (Program.depth Tryd.prog) 23 = false := by kernel_rfl
@[go_sem] theorem Tryd.agg24 : aggO Tryd.prog 24 = some true := by kernel_rfl
@[go_sem] theorem Tryd.pln24 : plainO Tryd.prog 24 = some true := by kernel_rfl
@[go_sem] theorem Tryd.sz24 : szO Tryd.prog 24 = some 2 := by kernel_rfl
@[go_sem] theorem Tryd.zero24 : zeroL Tryd.prog 24 = some [.int .i64 0, .nilSl] := by kernel_rfl
@[go_sem] theorem Tryd.small24 : smallO Tryd.prog 24 = some (2, 32) := by kernel_rfl
@[go_sem] theorem Tryd.zt24 : zeroT Tryd.prog 24 = some (.agg [.int .i64 0, .nilSl]) := by kernel_rfl
@[go_sem] theorem Tryd.fld24_0 : fieldO Tryd.prog 24 0 = some (0, 3) := by kernel_rfl
@[go_sem] theorem Tryd.fld24_1 : fieldO Tryd.prog 24 1 = some (1, 22) := by kernel_rfl
@[go_sem] theorem Tryd.bld24 (parts : List (Nat × TV)) : buildO Tryd.prog 24 parts = (fillT (fun i => ([(0, 1), (1, 1)] : List (Nat × Nat))[i]?) [.int .i64 0, .nilSl] parts).map .agg := by kernel_rfl
@[go_sem] theorem Tryd.bldp24 (parts : List (Nat × PV)) : buildP Tryd.prog 24 parts = fillP (fun i => ([(0, 1), (1, 1)] : List (Nat × Nat))[i]?) [.t (.int .i64 0), .t (.nilSl)] parts := by kernel_rfl
@[go_sem] theorem Tryd.eqg24 : Program.eqGuardType Tryd.prog (Program.depth Tryd.prog) 24 = false := by kernel_rfl
@[go_sem] theorem Tryd.agg25 : aggO Tryd.prog 25 = some false := by kernel_rfl
@[go_sem] theorem Tryd.pln25 : plainO Tryd.prog 25 = some true := by kernel_rfl
@[go_sem] theorem Tryd.sz25 : szO Tryd.prog 25 = some 1 := by kernel_rfl
@[go_sem] theorem Tryd.zero25 : zeroL Tryd.prog 25 = some [.nilSl] := by kernel_rfl
@[go_sem] theorem Tryd.small25 : smallO Tryd.prog 25 = some (1, 24) := by kernel_rfl
@[go_sem] theorem Tryd.zt25 : zeroT Tryd.prog 25 = some (.nilSl) := by kernel_rfl
@[go_sem] theorem Tryd.eqn25 : eqT Tryd.prog 20 25 .nilSl .nilSl = some true := by kernel_rfl
@[go_sem] theorem Tryd.eqs25 (cs : List TV) (n : Nat) (f : Bool) : eqT Tryd.prog 20 25 (.sl cs n f) .nilSl = some false := by kernel_rfl
@[go_sem] theorem Tryd.eqt25 (cs : List TV) (n : Nat) (f : Bool) : eqT Tryd.prog 20 25 .nilSl (.sl cs n f) = some false := by kernel_rfl
@[go_sem] theorem Tryd.sl25 : sliceO Tryd.prog 25 = some 50 := by kernel_rfl
@[go_sem] theorem Tryd.und25 : Program.underlying Tryd.prog 25 = some (.slice 50) := by kernel_rfl
@[go_sem] theorem Tryd.agg26 : aggO Tryd.prog 26 = some false := by kernel_rfl
@[go_sem] theorem Tryd.pln26 : plainO Tryd.prog 26 = some true := by kernel_rfl
@[go_sem] theorem Tryd.sz26 : szO Tryd.prog 26 = some 1 := by kernel_rfl
@[go_sem] theorem Tryd.zero26 : zeroL Tryd.prog 26 = some [.int .i64 0] := by kernel_rfl
@[go_sem] theorem Tryd.small26 : smallO Tryd.prog 26 = some (1, 8) := by kernel_rfl
@[go_sem] theorem Tryd.zt26 : zeroT Tryd.prog 26 = some (.int .i64 0) := by kernel_rfl
@[go_sem] theorem Tryd.knd26 : kindO Tryd.prog 26 = some .i64 := by kernel_rfl
@[go_sem] theorem Tryd.und26 : Program.underlying Tryd.prog 26 = some (.int .i64) := by kernel_rfl
@[go_sem] theorem Tryd.agg28 : aggO Tryd.prog 28 = some false := by kernel_rfl
@[go_sem] theorem Tryd.pln28 : plainO Tryd.prog 28 = some true := by kernel_rfl
@[go_sem] theorem Tryd.sz28 : szO Tryd.prog 28 = some 1 := by kernel_rfl
@[go_sem] theorem Tryd.zero28 : zeroL Tryd.prog 28 = some [.nilFn] := by kernel_rfl
@[go_sem] theorem Tryd.small28 : smallO Tryd.prog 28 = some (1, 8) := by kernel_rfl
@[go_sem] theorem Tryd.zt28 : zeroT Tryd.prog 28 = some (.nilFn) := by kernel_rfl
@[go_sem] theorem Tryd.agg29 : aggO Tryd.prog 29 = some false := by kernel_rfl
@[go_sem] theorem Tryd.pln29 : plainO Tryd.prog 29 = some true := by kernel_rfl
@[go_sem] theorem Tryd.sz29 : szO Tryd.prog 29 = some 1 := by kernel_rfl
@[go_sem] theorem Tryd.zero29 : zeroL Tryd.prog 29 = some [.nilFn] := by kernel_rfl
@[go_sem] theorem Tryd.small29 : smallO Tryd.prog 29 = some (1, 8) := by kernel_rfl
@[go_sem] theorem Tryd.zt29 : zeroT Tryd.prog 29 = some (.nilFn) := by kernel_rfl
@[go_sem] theorem Tryd.agg30 : aggO Tryd.prog 30 = some false := by kernel_rfl
@[go_sem] theorem Tryd.pln30 : plainO Tryd.prog 30 = some true := by kernel_rfl
@[go_sem] theorem Tryd.sz30 : szO Tryd.prog 30 = some 1 := by kernel_rfl
@[go_sem] theorem Tryd.zero30 : zeroL Tryd.prog 30 = some [.nilFn] := by kernel_rfl
@[go_sem] theorem Tryd.small30 : smallO Tryd.prog 30 = some (1, 8) := by kernel_rfl
@[go_sem] theorem Tryd.zt30 : zeroT Tryd.prog 30 = some (.nilFn) := by kernel_rfl
@[go_sem] theorem Tryd.agg31 : aggO Tryd.prog 31 = some true := by kernel_rfl
@[go_sem] theorem Tryd.pln31 : plainO Tryd.prog 31 = some true := by kernel_rfl
@[go_sem] theorem Tryd.sz31 : szO Tryd.prog 31 = some 4 := by kernel_rfl
@[go_sem] theorem Tryd.zero31 : zeroL Tryd.prog 31 = some [.int .i64 0, .int .i64 0, .int .i64 0, .int .i64 0] := by kernel_rfl
@[go_sem] theorem Tryd.small31 : smallO Tryd.prog 31 = some (4, 32) := by kernel_rfl
@[go_sem] theorem Tryd.zt31 : zeroT Tryd.prog 31 = some (.agg [.int .i64 0, .int .i64 0, .int .i64 0, .int .i64 0]) := by kernel_rfl
@[go_sem] theorem Tryd.fld31_0 : fieldO Tryd.prog 31 0 = some (0, 3) := by kernel_rfl
@[go_sem] theorem Tryd.fld31_1 : fieldO Tryd.prog 31 1 = some (1, 3) := by kernel_rfl
@[go_sem] theorem Tryd.fld31_2 : fieldO Tryd.prog 31 2 = some (2, 3) := by kernel_rfl
@[go_sem] theorem Tryd.fld31_3 : fieldO Tryd.prog 31 3 = some (3, 3) := by kernel_rfl
@[go_sem] theorem Tryd.bld31 (parts : List (Nat × TV)) : buildO Tryd.prog 31 parts = (fillT (fun i => ([(0, 1), (1, 1), (2, 1), (3, 1)] : List (Nat × Nat))[i]?) [.int .i64 0, .int .i64 0, .int .i64 0, .int .i64 0] parts).map .agg := by kernel_rfl
@[go_sem] theorem Tryd.eqg31 : Program.eqGuardType Tryd.prog (Program.depth Tryd.prog) 31 = false := by kernel_rfl
@[go_sem] theorem Tryd.agg32 : aggO Tryd.prog 32 = some true := by kernel_rfl
@[go_sem] theorem Tryd.pln32 : plainO Tryd.prog 32 = some true := by kernel_rfl
@[go_sem] theorem Tryd.sz32 : szO Tryd.prog 32 = some 4 := by kernel_rfl
@[go_sem] theorem Tryd.zero32 : zeroL Tryd.prog 32 = some [.int .i64 0, .int .i64 0, .int .i64 0, .int .i64 0] := by kernel_rfl
@[go_sem] theorem Tryd.small32 : smallO Tryd.prog 32 = some (4, 32) := by kernel_rfl
@[go_sem] theorem Tryd.zt32 : zeroT Tryd.prog 32 = some (.agg [.int .i64 0, .int .i64 0, .int .i64 0, .int .i64 0]) := by kernel_rfl
@[go_sem] theorem Tryd.fld32_0 : fieldO Tryd.prog 32 0 = some (0, 3) := by kernel_rfl
@[go_sem] theorem Tryd.fld32_1 : fieldO Tryd.prog 32 1 = some (1, 3) := by kernel_rfl
@[go_sem] theorem Tryd.fld32_2 : fieldO Tryd.prog 32 2 = some (2, 3) := by kernel_rfl
@[go_sem] theorem Tryd.fld32_3 : fieldO Tryd.prog 32 3 = some (3, 3) := by kernel_rfl
@[go_sem] theorem Tryd.bld32 (parts : List (Nat × TV)) : buildO Tryd.prog 32 parts = (fillT (fun i => ([(0, 1), (1, 1), (2, 1), (3, 1)] : List (Nat × Nat))[i]?) [.int .i64 0, .int .i64 0, .int .i64 0, .int .i64 0] parts).map .agg := by kernel_rfl
@[go_sem] theorem Tryd.eq32 (a0 b0 : Int) (a1 b1 : Int) (a2 b2 : Int) (a3 b3 : Int) : eqT Tryd.prog 20 32 (.agg [.int .i64 a0, .int .i64 a1, .int .i64 a2, .int .i64 a3]) (.agg [.int .i64 b0, .int .i64 b1, .int .i64 b2, .int .i64 b3]) = some ((a0 == b0) && ((a1 == b1) && ((a2 == b2) && ((a3 == b3) && true)))) := by kernel_rfl
@[go_sem] theorem Tryd.eqg32 : Program.eqGuardType Tryd.prog (Program.depth Tryd.prog) 32 = false := by kernel_rfl
@[go_sem] theorem Tryd.agg34 : aggO Tryd.prog 34 = some false := by kernel_rfl
@[go_sem] theorem Tryd.pln34 : plainO Tryd.prog 34 = some true := by kernel_rfl
@[go_sem] theorem Tryd.sz34 : szO Tryd.prog 34 = some 1 := by kernel_rfl
@[go_sem] theorem Tryd.zero34 : zeroL Tryd.prog 34 = some [.nilFn] := by kernel_rfl
@[go_sem] theorem Tryd.small34 : smallO Tryd.prog 34 = some (1, 8) := by kernel_rfl
@[go_sem] theorem Tryd.zt34 : zeroT Tryd.prog 34 = some (.nilFn) := by kernel_rfl
@[go_sem] theorem Tryd.agg35 : aggO Tryd.prog 35 = some false := by kernel_rfl
@[go_sem] theorem Tryd.pln35 : plainO Tryd.prog 35 = some true := by kernel_rfl
@[go_sem] theorem Tryd.sz35 : szO Tryd.prog 35 = some 1 := by kernel_rfl
@[go_sem] theorem Tryd.zero35 : zeroL Tryd.prog 35 = some [.nilFn] := by kernel_rfl
@[go_sem] theorem Tryd.small35 : smallO Tryd.prog 35 = some (1, 8) := by kernel_rfl
@[go_sem] theorem Tryd.zt35 : zeroT Tryd.prog 35 = some (.nilFn) := by kernel_rfl
@[go_sem] theorem Tryd.agg36 : aggO Tryd.prog 36 = some false := by kernel_rfl
@[go_sem] theorem Tryd.pln36 : plainO Tryd.prog 36 = some true := by kernel_rfl
@[go_sem] theorem Tryd.sz36 : szO Tryd.prog 36 = some 1 := by kernel_rfl
@[go_sem] theorem Tryd.zero36 : zeroL Tryd.prog 36 = some [.nilFn] := by kernel_rfl
@[go_sem] theorem Tryd.small36 : smallO Tryd.prog 36 = some (1, 8) := by kernel_rfl
@[go_sem] theorem Tryd.zt36 : zeroT Tryd.prog 36 = some (.nilFn) := by kernel_rfl
@[go_sem] theorem Tryd.agg38 : aggO Tryd.prog 38 = some false := by kernel_rfl
@[go_sem] theorem Tryd.pln38 : plainO Tryd.prog 38 = some true := by kernel_rfl
@[go_sem] theorem Tryd.sz38 : szO Tryd.prog 38 = some 1 := by kernel_rfl
@[go_sem] theorem Tryd.zero38 : zeroL Tryd.prog 38 = some [.nilFn] := by kernel_rfl
@[go_sem] theorem Tryd.small38 : smallO Tryd.prog 38 = some (1, 8) := by kernel_rfl
@[go_sem] theorem Tryd.zt38 : zeroT Tryd.prog 38 = some (.nilFn) := by kernel_rfl
@[go_sem] theorem Tryd.agg39 : aggO Tryd.prog 39 = some false := by kernel_rfl
@[go_sem] theorem Tryd.pln39 : plainO Tryd.prog 39 = some true := by kernel_rfl
@[go_sem] theorem Tryd.sz39 : szO Tryd.prog 39 = some 1 := by kernel_rfl
@[go_sem] theorem Tryd.zero39 : zeroL Tryd.prog 39 = some [.nilFn] := by kernel_rfl
@[go_sem] theorem Tryd.small39 : smallO Tryd.prog 39 = some (1, 8) := by kernel_rfl
@[go_sem] theorem Tryd.zt39 : zeroT Tryd.prog 39 = some (.nilFn) := by kernel_rfl
@[go_sem] theorem Tryd.agg41 : aggO Tryd.prog 41 = some false := by kernel_rfl
@[go_sem] theorem Tryd.pln41 : plainO Tryd.prog 41 = some true := by kernel_rfl
@[go_sem] theorem Tryd.sz41 : szO Tryd.prog 41 = some 1 := by kernel_rfl
@[go_sem] theorem Tryd.zero41 : zeroL Tryd.prog 41 = some [.nilFn] := by kernel_rfl
@[go_sem] theorem Tryd.small41 : smallO Tryd.prog 41 = some (1, 8) := by kernel_rfl
@[go_sem] theorem Tryd.zt41 : zeroT Tryd.prog 41 = some (.nilFn) := by kernel_rfl
@[go_sem] theorem Tryd.agg42 : aggO Tryd.prog 42 = some false := by kernel_rfl
@[go_sem] theorem Tryd.pln42 : plainO Tryd.prog 42 = some true := by kernel_rfl
@[go_sem] theorem Tryd.sz42 : szO Tryd.prog 42 = some 1 := by kernel_rfl
@[go_sem] theorem Tryd.zero42 : zeroL Tryd.prog 42 = some [.nilFn] := by kernel_rfl
@[go_sem] theorem Tryd.small42 : smallO Tryd.prog 42 = some (1, 8) := by kernel_rfl
@[go_sem] theorem Tryd.zt42 : zeroT Tryd.prog 42 = some (.nilFn) := by kernel_rfl
@[go_sem] theorem Tryd.agg43 : aggO Tryd.prog 43 = some true := by kernel_rfl
@[go_sem] theorem Tryd.pln43 : plainO Tryd.prog 43 = some true := by kernel_rfl
@[go_sem] theorem Tryd.sz43 : szO Tryd.prog 43 = some 2 := by kernel_rfl
@[go_sem] theorem Tryd.zero43 : zeroL Tryd.prog 43 = some [.int .i64 0, .int .i64 0] := by kernel_rfl
@[go_sem] theorem Tryd.small43 : smallO Tryd.prog 43 = some (2, 16) := by kernel_rfl
@[go_sem] theorem Tryd.zt43 : zeroT Tryd.prog 43 = some (.agg [.int .i64 0, .int .i64 0]) := by kernel_rfl
@[go_sem] theorem Tryd.bld43 (parts : List (Nat × TV)) : buildO Tryd.prog 43 parts = (fillT (fun i => some (i * 1, 1)) [.int .i64 0, .int .i64 0] parts).map .agg := by kernel_rfl
@[go_sem] theorem Tryd.eq43 (a0 b0 : Int) (a1 b1 : Int) : eqT Tryd.prog 20 43 (.agg [.int .i64 a0, .int .i64 a1]) (.agg [.int .i64 b0, .int .i64 b1]) = some ((a0 == b0) && ((a1 == b1) && true)) := by kernel_rfl
@[go_sem] theorem Tryd.eqg43 : Program.eqGuardType Tryd.prog (Program.depth Tryd.prog) 43 = false := by kernel_rfl
@[go_sem] theorem Tryd.arr43 : arrayO Tryd.prog 43 = some (2, 3) := by kernel_rfl
@[go_sem] theorem Tryd.und43 : Program.underlying Tryd.prog 43 = some (.array 2 3) := by kernel_rfl
@[go_sem] theorem Tryd.agg44 : aggO Tryd.prog 44 = some true := by kernel_rfl
@[go_sem] theorem Tryd.pln44 : plainO Tryd.prog 44 = some true := by kernel_rfl
@[go_sem] theorem Tryd.sz44 : szO Tryd.prog 44 = some 4 := by kernel_rfl
@[go_sem] theorem Tryd.zero44 : zeroL Tryd.prog 44 = some [.int .i64 0, .int .i64 0, .int .i64 0, .int .i64 0] := by kernel_rfl
@[go_sem] theorem Tryd.small44 : smallO Tryd.prog 44 = some (4, 32) := by kernel_rfl
@[go_sem] theorem Tryd.zt44 : zeroT Tryd.prog 44 = some (.agg [.int .i64 0, .int .i64 0, .int .i64 0, .int .i64 0]) := by kernel_rfl
@[go_sem] theorem Tryd.fld44_0 : fieldO Tryd.prog 44 0 = some (0, 3) := by kernel_rfl
@[go_sem] theorem Tryd.fld44_1 : fieldO Tryd.prog 44 1 = some (1, 3) := by kernel_rfl
@[go_sem] theorem Tryd.fld44_2 : fieldO Tryd.prog 44 2 = some (2, 3) := by kernel_rfl
@[go_sem] theorem Tryd.fld44_3 : fieldO Tryd.prog 44 3 = some (3, 3) := by kernel_rfl
@[go_sem] theorem Tryd.bld44 (parts : List (Nat × TV)) : buildO Tryd.prog 44 parts = (fillT (fun i => ([(0, 1), (1, 1), (2, 1), (3, 1)] : List (Nat × Nat))[i]?) [.int .i64 0, .int .i64 0, .int .i64 0, .int .i64 0] parts).map .agg := by kernel_rfl
@[go_sem] theorem Tryd.eqg44 : Program.eqGuardType Tryd.prog (Program.depth Tryd.prog) 44 = false := by kernel_rfl
@[go_sem] theorem Tryd.agg45 : aggO Tryd.prog 45 = some true := by kernel_rfl
@[go_sem] theorem Tryd.pln45 : plainO Tryd.prog 45 = some true := by kernel_rfl
@[go_sem] theorem Tryd.sz45 : szO Tryd.prog 45 = some 4 := by kernel_rfl
@[go_sem] theorem Tryd.zero45 : zeroL Tryd.prog 45 = some [.int .i64 0, .int .i64 0, .int .i64 0, .int .i64 0] := by kernel_rfl
@[go_sem] theorem Tryd.small45 : smallO Tryd.prog 45 = some (4, 32) := by kernel_rfl
@[go_sem] theorem Tryd.zt45 : zeroT Tryd.prog 45 = some (.agg [.int .i64 0, .int .i64 0, .int .i64 0, .int .i64 0]) := by kernel_rfl
@[go_sem] theorem Tryd.fld45_0 : fieldO Tryd.prog 45 0 = some (0, 3) := by kernel_rfl
@[go_sem] theorem Tryd.fld45_1 : fieldO Tryd.prog 45 1 = some (1, 3) := by kernel_rfl
@[go_sem] theorem Tryd.fld45_2 : fieldO Tryd.prog 45 2 = some (2, 3) := by kernel_rfl
@[go_sem] theorem Tryd.fld45_3 : fieldO Tryd.prog 45 3 = some (3, 3) := by kernel_rfl
@[go_sem] theorem Tryd.bld45 (parts : List (Nat × TV)) : buildO Tryd.prog 45 parts = (fillT (fun i => ([(0, 1), (1, 1), (2, 1), (3, 1)] : List (Nat × Nat))[i]?) [.int .i64 0, .int .i64 0, .int .i64 0, .int .i64 0] parts).map .agg := by kernel_rfl
@[go_sem] theorem Tryd.eq45 (a0 b0 : Int) (a1 b1 : Int) (a2 b2 : Int) (a3 b3 : Int) : eqT Tryd.prog 20 45 (.agg [.int .i64 a0, .int .i64 a1, .int .i64 a2, .int .i64 a3]) (.agg [.int .i64 b0, .int .i64 b1, .int .i64 b2, .int .i64 b3]) = some ((a0 == b0) && ((a1 == b1) && ((a2 == b2) && ((a3 == b3) && true)))) := by kernel_rfl
@[go_sem] theorem Tryd.eqg45 : Program.eqGuardType Tryd.prog (Program.depth Tryd.prog) 45 = false := by kernel_rfl
@[go_sem] theorem Tryd.agg47 : aggO Tryd.prog 47 = some false := by kernel_rfl
@[go_sem] theorem Tryd.pln47 : plainO Tryd.prog 47 = some true := by kernel_rfl
@[go_sem] theorem Tryd.sz47 : szO Tryd.prog 47 = some 1 := by kernel_rfl
@[go_sem] theorem Tryd.zero47 : zeroL Tryd.prog 47 = some [.nilFn] := by kernel_rfl
@[go_sem] theorem Tryd.small47 : smallO Tryd.prog 47 = some (1, 8) := by kernel_rfl
@[go_sem] theorem Tryd.zt47 : zeroT Tryd.prog 47 = some (.nilFn) := by kernel_rfl
@[go_sem] theorem Tryd.agg48 : aggO Tryd.prog 48 = some false := by kernel_rfl
@[go_sem] theorem Tryd.pln48 : plainO Tryd.prog 48 = some true := by kernel_rfl
@[go_sem] theorem Tryd.sz48 : szO Tryd.prog 48 = some 1 := by kernel_rfl
@[go_sem] theorem Tryd.zero48 : zeroL Tryd.prog 48 = some [.nilFn] := by kernel_rfl
@[go_sem] theorem Tryd.small48 : smallO Tryd.prog 48 = some (1, 8) := by kernel_rfl
@[go_sem] theorem Tryd.zt48 : zeroT Tryd.prog 48 = some (.nilFn) := by kernel_rfl
@[go_sem] theorem Tryd.agg49 : aggO Tryd.prog 49 = some true := by kernel_rfl
@[go_sem] theorem Tryd.pln49 : plainO Tryd.prog 49 = some true := by kernel_rfl
@[go_sem] theorem Tryd.sz49 : szO Tryd.prog 49 = some 3 := by kernel_rfl
@[go_sem] theorem Tryd.zero49 : zeroL Tryd.prog 49 = some [.int .i64 0, .int .i64 0, .int .i64 0] := by kernel_rfl
@[go_sem] theorem Tryd.small49 : smallO Tryd.prog 49 = some (3, 24) := by kernel_rfl
@[go_sem] theorem Tryd.zt49 : zeroT Tryd.prog 49 = some (.agg [.int .i64 0, .int .i64 0, .int .i64 0]) := by kernel_rfl
@[go_sem] theorem Tryd.fld49_0 : fieldO Tryd.prog 49 0 = some (0, 3) := by kernel_rfl
@[go_sem] theorem Tryd.fld49_1 : fieldO Tryd.prog 49 1 = some (1, 3) := by kernel_rfl
@[go_sem] theorem Tryd.fld49_2 : fieldO Tryd.prog 49 2 = some (2, 3) := by kernel_rfl
@[go_sem] theorem Tryd.bld49 (parts : List (Nat × TV)) : buildO Tryd.prog 49 parts = (fillT (fun i => ([(0, 1), (1, 1), (2, 1)] : List (Nat × Nat))[i]?) [.int .i64 0, .int .i64 0, .int .i64 0] parts).map .agg := by kernel_rfl
@[go_sem] theorem Tryd.eqg49 : Program.eqGuardType Tryd.prog (Program.depth Tryd.prog) 49 = false := by kernel_rfl
@[go_sem] theorem Tryd.agg50 : aggO Tryd.prog 50 = some true := by kernel_rfl
@[go_sem] theorem Tryd.pln50 : plainO Tryd.prog 50 = some true := by kernel_rfl
@[go_sem] theorem Tryd.sz50 : szO Tryd.prog 50 = some 3 := by kernel_rfl
@[go_sem] theorem Tryd.zero50 : zeroL Tryd.prog 50 = some [.int .i64 0, .int .i64 0, .int .i64 0] := by kernel_rfl
@[go_sem] theorem Tryd.small50 : smallO Tryd.prog 50 = some (3, 24) := by kernel_rfl
@[go_sem] theorem Tryd.zt50 : zeroT Tryd.prog 50 = some (.agg [.int .i64 0, .int .i64 0, .int .i64 0]) := by kernel_rfl
@[go_sem] theorem Tryd.fld50_0 : fieldO Tryd.prog 50 0 = some (0, 3) := by kernel_rfl
@[go_sem] theorem Tryd.fld50_1 : fieldO Tryd.prog 50 1 = some (1, 3) := by kernel_rfl
@[go_sem] theorem Tryd.fld50_2 : fieldO Tryd.prog 50 2 = some (2, 3) := by kernel_rfl
@[go_sem] theorem Tryd.bld50 (parts : List (Nat × TV)) : buildO Tryd.prog 50 parts = (fillT (fun i => ([(0, 1), (1, 1), (2, 1)] : List (Nat × Nat))[i]?) [.int .i64 0, .int .i64 0, .int .i64 0] parts).map .agg := by kernel_rfl
@[go_sem] theorem Tryd.eq50 (a0 b0 : Int) (a1 b1 : Int) (a2 b2 : Int) : eqT Tryd.prog 20 50 (.agg [.int .i64 a0, .int .i64 a1, .int .i64 a2]) (.agg [.int .i64 b0, .int .i64 b1, .int .i64 b2]) = some ((a0 == b0) && ((a1 == b1) && ((a2 == b2) && true))) := by kernel_rfl
@[go_sem] theorem Tryd.eqg50 : Program.eqGuardType Tryd.prog (Program.depth Tryd.prog) 50 = false := by kernel_rfl
@[go_sem] theorem Tryd.agg51 : aggO Tryd.prog 51 = some true := by kernel_rfl
@[go_sem] theorem Tryd.pln51 : plainO Tryd.prog 51 = some true := by kernel_rfl
@[go_sem] theorem Tryd.sz51 : szO Tryd.prog 51 = some 9 := by kernel_rfl
@[go_sem] theorem Tryd.zero51 : zeroL Tryd.prog 51 = some [.int .i64 0, .int .i64 0, .int .i64 0, .int .i64 0, .int .i64 0, .int .i64 0, .int .i64 0, .int .i64 0, .bool false] := by kernel_rfl
@[go_sem] theorem Tryd.small51 : smallO Tryd.prog 51 = some (9, 72) := by kernel_rfl
@[go_sem] theorem Tryd.zt51 : zeroT Tryd.prog 51 = some (.agg [.int .i64 0, .int .i64 0, .int .i64 0, .int .i64 0, .int .i64 0, .int .i64 0, .int .i64 0, .int .i64 0, .bool false]) := by kernel_rfl
@[go_sem] theorem Tryd.fld51_0 : fieldO Tryd.prog 51 0 = some (0, 3) := by kernel_rfl
@[go_sem] theorem Tryd.fld51_1 : fieldO Tryd.prog 51 1 = some (1, 50) := by kernel_rfl
@[go_sem] theorem Tryd.fld51_2 : fieldO Tryd.prog 51 2 = some (4, 45) := by kernel_rfl
@[go_sem] theorem Tryd.fld51_3 : fieldO Tryd.prog 51 3 = some (8, 4) := by kernel_rfl
@[go_sem] theorem Tryd.bld51 (parts : List (Nat × TV)) : buildO Tryd.prog 51 parts = (fillT (fun i => ([(0, 1), (1, 3), (4, 4), (8, 1)] : List (Nat × Nat))[i]?) [.int .i64 0, .int .i64 0, .int .i64 0, .int .i64 0, .int .i64 0, .int .i64 0, .int .i64 0, .int .i64 0, .bool false] parts).map .agg := by kernel_rfl
@[go_sem] theorem Tryd.eqg51 : Program.eqGuardType Tryd.prog (Program.depth Tryd.prog) 51 = false := by kernel_rfl
@[go_sem] theorem Tryd.agg52 : aggO Tryd.prog 52 = some true := by kernel_rfl
@[go_sem] theorem Tryd.pln52 : plainO Tryd.prog 52 = some true := by kernel_rfl
@[go_sem] theorem Tryd.sz52 : szO Tryd.prog 52 = some 9 := by kernel_rfl
@[go_sem] theorem Tryd.zero52 : zeroL Tryd.prog 52 = some [.int .i64 0, .int .i64 0, .int .i64 0, .int .i64 0, .int .i64 0, .int .i64 0, .int .i64 0, .int .i64 0, .bool false] := by kernel_rfl
@[go_sem] theorem Tryd.small52 : smallO Tryd.prog 52 = some (9, 72) := by kernel_rfl
@[go_sem] theorem Tryd.zt52 : zeroT Tryd.prog 52 = some (.agg [.int .i64 0, .int .i64 0, .int .i64 0, .int .i64 0, .int .i64 0, .int .i64 0, .int .i64 0, .int .i64 0, .bool false]) := by kernel_rfl
@[go_sem] theorem Tryd.fld52_0 : fieldO Tryd.prog 52 0 = some (0, 3) := by kernel_rfl
@[go_sem] theorem Tryd.fld52_1 : fieldO Tryd.prog 52 1 = some (1, 50) := by kernel_rfl
@[go_sem] theorem Tryd.fld52_2 : fieldO Tryd.prog 52 2 = some (4, 45) := by kernel_rfl
@[go_sem] theorem Tryd.fld52_3 : fieldO Tryd.prog 52 3 = some (8, 4) := by kernel_rfl
@[go_sem] theorem Tryd.bld52 (parts : List (Nat × TV)) : buildO Tryd.prog 52 parts = (fillT (fun i => ([(0, 1), (1, 3), (4, 4), (8, 1)] : List (Nat × Nat))[i]?) [.int .i64 0, .int .i64 0, .int .i64 0, .int .i64 0, .int .i64 0, .int .i64 0, .int .i64 0, .int .i64 0, .bool false] parts).map .agg := by kernel_rfl
@[go_sem] theorem Tryd.eq52 (a0 b0 : Int) (a1 b1 : Int) (a2 b2 : Int) (a3 b3 : Int) (a4 b4 : Int) (a5 b5 : Int) (a6 b6 : Int) (a7 b7 : Int) (a8 b8 : Bool) : eqT Tryd.prog 20 52 (.agg [.int .i64 a0, .int .i64 a1, .int .i64 a2, .int .i64 a3, .int .i64 a4, .int .i64 a5, .int .i64 a6, .int .i64 a7, .bool a8]) (.agg [.int .i64 b0, .int .i64 b1, .int .i64 b2, .int .i64 b3, .int .i64 b4, .int .i64 b5, .int .i64 b6, .int .i64 b7, .bool b8]) = some ((a0 == b0) && (((a1 == b1) && ((a2 == b2) && ((a3 == b3) && true))) && (((a4 == b4) && ((a5 == b5) && ((a6 == b6) && ((a7 == b7) && true)))) && ((a8 == b8) && true)))) := by kernel_rfl
@[go_sem] theorem Tryd.eqg52 : Program.eqGuardType Tryd.prog (Program.depth Tryd.prog) 52 = false := by kernel_rfl
@[go_sem] theorem Tryd.agg54 : aggO Tryd.prog 54 = some false := by kernel_rfl
@[go_sem] theorem Tryd.pln54 : plainO Tryd.prog 54 = some true := by kernel_rfl
@[go_sem] theorem Tryd.sz54 : szO Tryd.prog 54 = some 1 := by kernel_rfl
@[go_sem] theorem Tryd.zero54 : zeroL Tryd.prog 54 = some [.nilFn] := by kernel_rfl
@[go_sem] theorem Tryd.small54 : smallO Tryd.prog 54 = some (1, 8) := by kernel_rfl
@[go_sem] theorem Tryd.zt54 : zeroT Tryd.prog 54 = some (.nilFn) := by kernel_rfl
@[go_sem] theorem Tryd.agg55 : aggO Tryd.prog 55 = some false := by kernel_rfl
@[go_sem] theorem Tryd.pln55 : plainO Tryd.prog 55 = some true := by kernel_rfl
@[go_sem] theorem Tryd.sz55 : szO Tryd.prog 55 = some 1 := by kernel_rfl
@[go_sem] theorem Tryd.zero55 : zeroL Tryd.prog 55 = some [.nilFn] := by kernel_rfl
@[go_sem] theorem Tryd.small55 : smallO Tryd.prog 55 = some (1, 8) := by kernel_rfl
@[go_sem] theorem Tryd.zt55 : zeroT Tryd.prog 55 = some (.nilFn) := by kernel_rfl
@[go_sem] theorem Tryd.agg56 : aggO Tryd.prog 56 = some false := by kernel_rfl
@[go_sem] theorem Tryd.pln56 : plainO Tryd.prog 56 = some true := by kernel_rfl
@[go_sem] theorem Tryd.sz56 : szO Tryd.prog 56 = some 1 := by kernel_rfl
@[go_sem] theorem Tryd.zero56 : zeroL Tryd.prog 56 = some [.nilFn] := by kernel_rfl
@[go_sem] theorem Tryd.small56 : smallO Tryd.prog 56 = some (1, 8) := by kernel_rfl
@[go_sem] theorem Tryd.zt56 : zeroT Tryd.prog 56 = some (.nilFn) := by kernel_rfl
@[go_sem] theorem Tryd.agg57 : aggO Tryd.prog 57 = some false := by kernel_rfl
@[go_sem] theorem Tryd.pln57 : plainO Tryd.prog 57 = some true := by kernel_rfl
@[go_sem] theorem Tryd.sz57 : szO Tryd.prog 57 = some 1 := by kernel_rfl
@[go_sem] theorem Tryd.zero57 : zeroL Tryd.prog 57 = some [.nilFn] := by kernel_rfl
@[go_sem] theorem Tryd.small57 : smallO Tryd.prog 57 = some (1, 8) := by kernel_rfl
@[go_sem] theorem Tryd.zt57 : zeroT Tryd.prog 57 = some (.nilFn) := by kernel_rfl
@[go_sem] theorem Tryd.agg58 : aggO Tryd.prog 58 = some false := by kernel_rfl
@[go_sem] theorem Tryd.pln58 : plainO Tryd.prog 58 = some true := by kernel_rfl
@[go_sem] theorem Tryd.sz58 : szO Tryd.prog 58 = some 1 := by kernel_rfl
@[go_sem] theorem Tryd.zero58 : zeroL Tryd.prog 58 = some [.nilFn] := by kernel_rfl
@[go_sem] theorem Tryd.small58 : smallO Tryd.prog 58 = some (1, 8) := by kernel_rfl
@[go_sem] theorem Tryd.zt58 : zeroT Tryd.prog 58 = some (.nilFn) := by kernel_rfl
@[go_sem] theorem Tryd.agg59 : aggO Tryd.prog 59 = some false := by kernel_rfl
@[go_sem] theorem Tryd.pln59 : plainO Tryd.prog 59 = some true := by kernel_rfl
@[go_sem] theorem Tryd.sz59 : szO Tryd.prog 59 = some 1 := by kernel_rfl
@[go_sem] theorem Tryd.zero59 : zeroL Tryd.prog 59 = some [.nilFn] := by kernel_rfl
@[go_sem] theorem Tryd.small59 : smallO Tryd.prog 59 = some (1, 8) := by kernel_rfl
@[go_sem] theorem Tryd.zt59 : zeroT Tryd.prog 59 = some (.nilFn) := by kernel_rfl
@[go_sem] theorem Tryd.agg60 : aggO Tryd.prog 60 = some true := by kernel_rfl
@[go_sem] theorem Tryd.pln60 : plainO Tryd.prog 60 = some true := by kernel_rfl
@[go_sem] theorem Tryd.sz60 : szO Tryd.prog 60 = some 3 := by kernel_rfl
@[go_sem] theorem Tryd.zero60 : zeroL Tryd.prog 60 = some [.int .i64 0, .int .i64 0, .int .i64 0] := by kernel_rfl
@[go_sem] theorem Tryd.small60 : smallO Tryd.prog 60 = some (3, 24) := by kernel_rfl
@[go_sem] theorem Tryd.zt60 : zeroT Tryd.prog 60 = some (.agg [.int .i64 0, .int .i64 0, .int .i64 0]) := by kernel_rfl
@[go_sem] theorem Tryd.bld60 (parts : List (Nat × TV)) : buildO Tryd.prog 60 parts = (fillT (fun i => some (i * 1, 1)) [.int .i64 0, .int .i64 0, .int .i64 0] parts).map .agg := by kernel_rfl
@[go_sem] theorem Tryd.eq60 (a0 b0 : Int) (a1 b1 : Int) (a2 b2 : Int) : eqT Tryd.prog 20 60 (.agg [.int .i64 a0, .int .i64 a1, .int .i64 a2]) (.agg [.int .i64 b0, .int .i64 b1, .int .i64 b2]) = some ((a0 == b0) && ((a1 == b1) && ((a2 == b2) && true))) := by kernel_rfl
@[go_sem] theorem Tryd.eqg60 : Program.eqGuardType Tryd.prog (Program.depth Tryd.prog) 60 = false := by kernel_rfl
@[go_sem] theorem Tryd.arr60 : arrayO Tryd.prog 60 = some (3, 3) := by kernel_rfl
@[go_sem] theorem Tryd.und60 : Program.underlying Tryd.prog 60 = some (.array 3 3) := by kernel_rfl
@[go_sem] theorem Tryd.agg61 : aggO Tryd.prog 61 = some false := by kernel_rfl
@[go_sem] theorem Tryd.pln61 : plainO Tryd.prog 61 = some true := by kernel_rfl
@[go_sem] theorem Tryd.sz61 : szO Tryd.prog 61 = some 1 := by kernel_rfl
@[go_sem] theorem Tryd.zero61 : zeroL Tryd.prog 61 = some [.nilFn] := by kernel_rfl
@[go_sem] theorem Tryd.small61 : smallO Tryd.prog 61 = some (1, 8) := by kernel_rfl
@[go_sem] theorem Tryd.zt61 : zeroT Tryd.prog 61 = some (.nilFn) := by kernel_rfl
@[go_sem] theorem Tryd.agg62 : aggO Tryd.prog 62 = some false := by kernel_rfl
@[go_sem] theorem Tryd.pln62 : plainO Tryd.prog 62 = some true := by kernel_rfl
@[go_sem] theorem Tryd.sz62 : szO Tryd.prog 62 = some 1 := by kernel_rfl
@[go_sem] theorem Tryd.zero62 : zeroL Tryd.prog 62 = some [.nilFn] := by kernel_rfl
@[go_sem] theorem Tryd.small62 : smallO Tryd.prog 62 = some (1, 8) := by kernel_rfl
@[go_sem] theorem Tryd.zt62 : zeroT Tryd.prog 62 = some (.nilFn) := by kernel_rfl
@[go_sem] theorem Tryd.agg63 : aggO Tryd.prog 63 = some false := by kernel_rfl
@[go_sem] theorem Tryd.pln63 : plainO Tryd.prog 63 = some true := by kernel_rfl
@[go_sem] theorem Tryd.sz63 : szO Tryd.prog 63 = some 1 := by kernel_rfl
@[go_sem] theorem Tryd.zero63 : zeroL Tryd.prog 63 = some [.nilFn] := by kernel_rfl
@[go_sem] theorem Tryd.small63 : smallO Tryd.prog 63 = some (1, 8) := by kernel_rfl
@[go_sem] theorem Tryd.zt63 : zeroT Tryd.prog 63 = some (.nilFn) := by kernel_rfl
@[go_sem] theorem Tryd.agg64 : aggO Tryd.prog 64 = some false := by kernel_rfl
@[go_sem] theorem Tryd.pln64 : plainO Tryd.prog 64 = some true := by kernel_rfl
@[go_sem] theorem Tryd.sz64 : szO Tryd.prog 64 = some 1 := by kernel_rfl
@[go_sem] theorem Tryd.zero64 : zeroL Tryd.prog 64 = some [.nilFn] := by kernel_rfl
@[go_sem] theorem Tryd.small64 : smallO Tryd.prog 64 = some (1, 8) := by kernel_rfl
@[go_sem] theorem Tryd.zt64 : zeroT Tryd.prog 64 = some (.nilFn) := by kernel_rfl
@[go_sem] theorem Tryd.agg65 : aggO Tryd.prog 65 = some true := by kernel_rfl
@[go_sem] theorem Tryd.pln65 : plainO Tryd.prog 65 = some true := by kernel_rfl
@[go_sem] theorem Tryd.sz65 : szO Tryd.prog 65 = some 5 := by kernel_rfl
@[go_sem] theorem Tryd.zero65 : zeroL Tryd.prog 65 = some [.int .i64 0, .int .i64 0, .int .i64 0, .int .i64 0, .int .i64 0] := by kernel_rfl
@[go_sem] theorem Tryd.small65 : smallO Tryd.prog 65 = some (5, 40) := by kernel_rfl
@[go_sem] theorem Tryd.zt65 : zeroT Tryd.prog 65 = some (.agg [.int .i64 0, .int .i64 0, .int .i64 0, .int .i64 0, .int .i64 0]) := by kernel_rfl
@[go_sem] theorem Tryd.bld65 (parts : List (Nat × TV)) : buildO Tryd.prog 65 parts = (fillT (fun i => some (i * 1, 1)) [.int .i64 0, .int .i64 0, .int .i64 0, .int .i64 0, .int .i64 0] parts).map .agg := by kernel_rfl
@[go_sem] theorem Tryd.eq65 (a0 b0 : Int) (a1 b1 : Int) (a2 b2 : Int) (a3 b3 : Int) (a4 b4 : Int) : eqT Tryd.prog 20 65 (.agg [.int .i64 a0, .int .i64 a1, .int .i64 a2, .int .i64 a3, .int .i64 a4]) (.agg [.int .i64 b0, .int .i64 b1, .int .i64 b2, .int .i64 b3, .int .i64 b4]) = some ((a0 == b0) && ((a1 == b1) && ((a2 == b2) && ((a3 == b3) && ((a4 == b4) && true))))) := by kernel_rfl
@[go_sem] theorem Tryd.eqg65 : Program.eqGuardType Tryd.prog (Program.depth Tryd.prog) 65 = false := by kernel_rfl
@[go_sem] theorem Tryd.arr65 : arrayO Tryd.prog 65 = some (5, 3) := by kernel_rfl
@[go_sem] theorem Tryd.und65 : Program.underlying Tryd.prog 65 = some (.array 5 3) := by kernel_rfl
@[go_sem] theorem Tryd.agg67 : aggO Tryd.prog 67 = some false := by kernel_rfl
@[go_sem] theorem Tryd.pln67 : plainO Tryd.prog 67 = some true := by kernel_rfl
@[go_sem] theorem Tryd.sz67 : szO Tryd.prog 67 = some 1 := by kernel_rfl
@[go_sem] theorem Tryd.zero67 : zeroL Tryd.prog 67 = some [.nilFn] := by kernel_rfl
@[go_sem] theorem Tryd.small67 : smallO Tryd.prog 67 = some (1, 8) := by kernel_rfl
@[go_sem] theorem Tryd.zt67 : zeroT Tryd.prog 67 = some (.nilFn) := by kernel_rfl
@[go_sem] theorem Tryd.agg68 : aggO Tryd.prog 68 = some false := by kernel_rfl
@[go_sem] theorem Tryd.pln68 : plainO Tryd.prog 68 = some true := by kernel_rfl
@[go_sem] theorem Tryd.sz68 : szO Tryd.prog 68 = some 1 := by kernel_rfl
@[go_sem] theorem Tryd.zero68 : zeroL Tryd.prog 68 = some [.nilFn] := by kernel_rfl
@[go_sem] theorem Tryd.small68 : smallO Tryd.prog 68 = some (1, 8) := by kernel_rfl
@[go_sem] theorem Tryd.zt68 : zeroT Tryd.prog 68 = some (.nilFn) := by kernel_rfl
@[go_sem] theorem Tryd.agg69 : aggO Tryd.prog 69 = some false := by kernel_rfl
@[go_sem] theorem Tryd.pln69 : plainO Tryd.prog 69 = some true := by kernel_rfl
@[go_sem] theorem Tryd.sz69 : szO Tryd.prog 69 = some 1 := by kernel_rfl
@[go_sem] theorem Tryd.zero69 : zeroL Tryd.prog 69 = some [.nilSl] := by kernel_rfl
@[go_sem] theorem Tryd.small69 : smallO Tryd.prog 69 = some (1, 24) := by kernel_rfl
@[go_sem] theorem Tryd.zt69 : zeroT Tryd.prog 69 = some (.nilSl) := by kernel_rfl
@[go_sem] theorem Tryd.eqn69 : eqT Tryd.prog 20 69 .nilSl .nilSl = some true := by kernel_rfl
@[go_sem] theorem Tryd.eqs69 (cs : List TV) (n : Nat) (f : Bool) : eqT Tryd.prog 20 69 (.sl cs n f) .nilSl = some false := by kernel_rfl
@[go_sem] theorem Tryd.eqt69 (cs : List TV) (n : Nat) (f : Bool) : eqT Tryd.prog 20 69 .nilSl (.sl cs n f) = some false := by kernel_rfl
@[go_sem] theorem Tryd.sl69 : sliceO Tryd.prog 69 = some 24 := by kernel_rfl
@[go_sem] theorem Tryd.und69 : Program.underlying Tryd.prog 69 = some (.slice 24) := by kernel_rfl
@[go_sem] theorem Tryd.agg70 : aggO Tryd.prog 70 = some false := by kernel_rfl
@[go_sem] theorem Tryd.pln70 : plainO Tryd.prog 70 = some true := by kernel_rfl
@[go_sem] theorem Tryd.sz70 : szO Tryd.prog 70 = some 1 := by kernel_rfl
@[go_sem] theorem Tryd.zero70 : zeroL Tryd.prog 70 = some [.nilFn] := by kernel_rfl
@[go_sem] theorem Tryd.small70 : smallO Tryd.prog 70 = some (1, 8) := by kernel_rfl
@[go_sem] theorem Tryd.zt70 : zeroT Tryd.prog 70 = some (.nilFn) := by kernel_rfl
@[go_sem] theorem Tryd.agg71 : aggO Tryd.prog 71 = some false := by kernel_rfl
@[go_sem] theorem Tryd.pln71 : plainO Tryd.prog 71 = some true := by kernel_rfl
@[go_sem] theorem Tryd.sz71 : szO Tryd.prog 71 = some 1 := by kernel_rfl
@[go_sem] theorem Tryd.zero71 : zeroL Tryd.prog 71 = some [.nilFn] := by kernel_rfl
@[go_sem] theorem Tryd.small71 : smallO Tryd.prog 71 = some (1, 8) := by kernel_rfl
@[go_sem] theorem Tryd.zt71 : zeroT Tryd.prog 71 = some (.nilFn) := by kernel_rfl
@[go_sem] theorem Tryd.agg72 : aggO Tryd.prog 72 = some true := by kernel_rfl
@[go_sem] theorem Tryd.pln72 : plainO Tryd.prog 72 = some true := by kernel_rfl
@[go_sem] theorem Tryd.sz72 : szO Tryd.prog 72 = some 2 := by kernel_rfl
@[go_sem] theorem Tryd.zero72 : zeroL Tryd.prog 72 = some [.int .i64 0, .nilSl] := by kernel_rfl
@[go_sem] theorem Tryd.small72 : smallO Tryd.prog 72 = some (2, 32) := by kernel_rfl
@[go_sem] theorem Tryd.zt72 : zeroT Tryd.prog 72 = some (.agg [.int .i64 0, .nilSl]) := by kernel_rfl
@[go_sem] theorem Tryd.fld72_0 : fieldO Tryd.prog 72 0 = some (0, 24) := by kernel_rfl
@[go_sem] theorem Tryd.bld72 (parts : List (Nat × TV)) : buildO Tryd.prog 72 parts = (fillT (fun i => ([(0, 2)] : List (Nat × Nat))[i]?) [.int .i64 0, .nilSl] parts).map .agg := by kernel_rfl
@[go_sem] theorem Tryd.bldp72 (parts : List (Nat × PV)) : buildP Tryd.prog 72 parts = fillP (fun i => ([(0, 2)] : List (Nat × Nat))[i]?) [.t (.int .i64 0), .t (.nilSl)] parts := by kernel_rfl
@[go_sem] theorem Tryd.eqg72 : Program.eqGuardType Tryd.prog (Program.depth Tryd.prog) 72 = false := by kernel_rfl
@[go_sem] theorem Tryd.agg73 : aggO Tryd.prog 73 = some true := by kernel_rfl
@[go_sem] theorem Tryd.pln73 : plainO Tryd.prog 73 = some true := by kernel_rfl
@[go_sem] theorem Tryd.sz73 : szO Tryd.prog 73 = some 2 := by kernel_rfl
@[go_sem] theorem Tryd.zero73 : zeroL Tryd.prog 73 = some [.int .i64 0, .nilSl] := by kernel_rfl
@[go_sem] theorem Tryd.small73 : smallO Tryd.prog 73 = some (2, 32) := by kernel_rfl
@[go_sem] theorem Tryd.zt73 : zeroT Tryd.prog 73 = some (.agg [.int .i64 0, .nilSl]) := by kernel_rfl
@[go_sem] theorem Tryd.fld73_0 : fieldO Tryd.prog 73 0 = some (0, 24) := by kernel_rfl
@[go_sem] theorem Tryd.bld73 (parts : List (Nat × TV)) : buildO Tryd.prog 73 parts = (fillT (fun i => ([(0, 2)] : List (Nat × Nat))[i]?) [.int .i64 0, .nilSl] parts).map .agg := by kernel_rfl
@[go_sem] theorem Tryd.bldp73 (parts : List (Nat × PV)) : buildP Tryd.prog 73 parts = fillP (fun i => ([(0, 2)] : List (Nat × Nat))[i]?) [.t (.int .i64 0), .t (.nilSl)] parts := by kernel_rfl
@[go_sem] theorem Tryd.eqg73 : Program.eqGuardType Tryd.prog (Program.depth Tryd.prog) 73 = false := by kernel_rfl
@[go_sem] theorem Tryd.agg75 : aggO Tryd.prog 75 = some false := by kernel_rfl
@[go_sem] theorem Tryd.pln75 : plainO Tryd.prog 75 = some true := by kernel_rfl
@[go_sem] theorem Tryd.sz75 : szO Tryd.prog 75 = some 1 := by kernel_rfl
@[go_sem] theorem Tryd.zero75 : zeroL Tryd.prog 75 = some [.nilFn] := by kernel_rfl
@[go_sem] theorem Tryd.small75 : smallO Tryd.prog 75 = some (1, 8) := by kernel_rfl
@[go_sem] theorem Tryd.zt75 : zeroT Tryd.prog 75 = some (.nilFn) := by kernel_rfl
@[go_sem] theorem Tryd.agg76 : aggO Tryd.prog 76 = some false := by kernel_rfl
@[go_sem] theorem Tryd.pln76 : plainO Tryd.prog 76 = some true := by kernel_rfl
@[go_sem] theorem Tryd.sz76 : szO Tryd.prog 76 = some 1 := by kernel_rfl
@[go_sem] theorem Tryd.zero76 : zeroL Tryd.prog 76 = some [.nilFn] := by kernel_rfl
@[go_sem] theorem Tryd.small76 : smallO Tryd.prog 76 = some (1, 8) := by kernel_rfl
@[go_sem] theorem Tryd.zt76 : zeroT Tryd.prog 76 = some (.nilFn) := by kernel_rfl
@[go_sem] theorem Tryd.agg77 : aggO Tryd.prog 77 = some false := by kernel_rfl
@[go_sem] theorem Tryd.pln77 : plainO Tryd.prog 77 = some true := by kernel_rfl
@[go_sem] theorem Tryd.sz77 : szO Tryd.prog 77 = some 1 := by kernel_rfl
@[go_sem] theorem Tryd.zero77 : zeroL Tryd.prog 77 = some [.nilFn] := by kernel_rfl
@[go_sem] theorem Tryd.small77 : smallO Tryd.prog 77 = some (1, 8) := by kernel_rfl
@[go_sem] theorem Tryd.zt77 : zeroT Tryd.prog 77 = some (.nilFn) := by kernel_rfl
@[go_sem] theorem Tryd.agg78 : aggO Tryd.prog 78 = some false := by kernel_rfl
@[go_sem] theorem Tryd.pln78 : plainO Tryd.prog 78 = some true := by kernel_rfl
@[go_sem] theorem Tryd.sz78 : szO Tryd.prog 78 = some 1 := by kernel_rfl
@[go_sem] theorem Tryd.zero78 : zeroL Tryd.prog 78 = some [.nilFn] := by kernel_rfl
@[go_sem] theorem Tryd.small78 : smallO Tryd.prog 78 = some (1, 8) := by kernel_rfl
@[go_sem] theorem Tryd.zt78 : zeroT Tryd.prog 78 = some (.nilFn) := by kernel_rfl
@[go_sem] theorem Tryd.agg79 : aggO Tryd.prog 79 = some false := by kernel_rfl
@[go_sem] theorem Tryd.pln79 : plainO Tryd.prog 79 = some true := by kernel_rfl
@[go_sem] theorem Tryd.sz79 : szO Tryd.prog 79 = some 1 := by kernel_rfl
@[go_sem] theorem Tryd.zero79 : zeroL Tryd.prog 79 = some [.nilSl] := by kernel_rfl
@[go_sem] theorem Tryd.small79 : smallO Tryd.prog 79 = some (1, 24) := by kernel_rfl
@[go_sem] theorem Tryd.zt79 : zeroT Tryd.prog 79 = some (.nilSl) := by kernel_rfl
@[go_sem] theorem Tryd.eqn79 : eqT Tryd.prog 20 79 .nilSl .nilSl = some true := by kernel_rfl
@[go_sem] theorem Tryd.eqs79 (cs : List TV) (n : Nat) (f : Bool) : eqT Tryd.prog 20 79 (.sl cs n f) .nilSl = some false := by kernel_rfl
@[go_sem] theorem Tryd.eqt79 (cs : List TV) (n : Nat) (f : Bool) : eqT Tryd.prog 20 79 .nilSl (.sl cs n f) = some false := by kernel_rfl
@[go_sem] theorem Tryd.sl79 : sliceO Tryd.prog 79 = some 81 := by kernel_rfl
@[go_sem] theorem Tryd.und79 : Program.underlying Tryd.prog 79 = some (.slice 81) := by kernel_rfl
@[go_sem] theorem Tryd.agg80 : aggO Tryd.prog 80 = some true := by kernel_rfl
@[go_sem] theorem Tryd.pln80 : plainO Tryd.prog 80 = some true := by kernel_rfl
@[go_sem] theorem Tryd.sz80 : szO Tryd.prog 80 = some 4 := by kernel_rfl
@[go_sem] theorem Tryd.zero80 : zeroL Tryd.prog 80 = some [.int .i64 0, .int .i64 0, .int .i64 0, .int .i64 0] := by kernel_rfl
@[go_sem] theorem Tryd.small80 : smallO Tryd.prog 80 = some (4, 32) := by kernel_rfl
@[go_sem] theorem Tryd.zt80 : zeroT Tryd.prog 80 = some (.agg [.int .i64 0, .int .i64 0, .int .i64 0, .int .i64 0]) := by kernel_rfl
@[go_sem] theorem Tryd.fld80_0 : fieldO Tryd.prog 80 0 = some (0, 32) := by kernel_rfl
@[go_sem] theorem Tryd.bld80 (parts : List (Nat × TV)) : buildO Tryd.prog 80 parts = (fillT (fun i => ([(0, 4)] : List (Nat × Nat))[i]?) [.int .i64 0, .int .i64 0, .int .i64 0, .int .i64 0] parts).map .agg := by kernel_rfl
@[go_sem] theorem Tryd.eqg80 : Program.eqGuardType Tryd.prog (Program.depth Tryd.prog) 80 = false := by kernel_rfl
@[go_sem] theorem Tryd.agg81 : aggO Tryd.prog 81 = some true := by kernel_rfl
@[go_sem] theorem Tryd.pln81 : plainO Tryd.prog 81 = some true := by kernel_rfl
@[go_sem] theorem Tryd.sz81 : szO Tryd.prog 81 = some 4 := by kernel_rfl
@[go_sem] theorem Tryd.zero81 : zeroL Tryd.prog 81 = some [.int .i64 0, .int .i64 0, .int .i64 0, .int .i64 0] := by kernel_rfl
@[go_sem] theorem Tryd.small81 : smallO Tryd.prog 81 = some (4, 32) := by kernel_rfl
@[go_sem] theorem Tryd.zt81 : zeroT Tryd.prog 81 = some (.agg [.int .i64 0, .int .i64 0, .int .i64 0, .int .i64 0]) := by kernel_rfl
@[go_sem] theorem Tryd.fld81_0 : fieldO Tryd.prog 81 0 = some (0, 32) := by kernel_rfl
@[go_sem] theorem Tryd.bld81 (parts : List (Nat × TV)) : buildO Tryd.prog 81 parts = (fillT (fun i => ([(0, 4)] : List (Nat × Nat))[i]?) [.int .i64 0, .int .i64 0, .int .i64 0, .int .i64 0] parts).map .agg := by kernel_rfl
@[go_sem] theorem Tryd.eq81 (a0 b0 : Int) (a1 b1 : Int) (a2 b2 : Int) (a3 b3 : Int) : eqT Tryd.prog 20 81 (.agg [.int .i64 a0, .int .i64 a1, .int .i64 a2, .int .i64 a3]) (.agg [.int .i64 b0, .int .i64 b1, .int .i64 b2, .int .i64 b3]) = some (((a0 == b0) && ((a1 == b1) && ((a2 == b2) && ((a3 == b3) && true)))) && true) := by kernel_rfl
@[go_sem] theorem Tryd.eqg81 : Program.eqGuardType Tryd.prog (Program.depth Tryd.prog) 81 = false := by kernel_rfl
@[go_sem] theorem Tryd.agg83 : aggO Tryd.prog 83 = some false := by kernel_rfl
@[go_sem] theorem Tryd.pln83 : plainO Tryd.prog 83 = some true := by kernel_rfl
@[go_sem] theorem Tryd.sz83 : szO Tryd.prog 83 = some 1 := by kernel_rfl
@[go_sem] theorem Tryd.zero83 : zeroL Tryd.prog 83 = some [.nilFn] := by kernel_rfl
@[go_sem] theorem Tryd.small83 : smallO Tryd.prog 83 = some (1, 8) := by kernel_rfl
@[go_sem] theorem Tryd.zt83 : zeroT Tryd.prog 83 = some (.nilFn) := by kernel_rfl
@[go_sem] theorem Tryd.agg84 : aggO Tryd.prog 84 = some false := by kernel_rfl
@[go_sem] theorem Tryd.pln84 : plainO Tryd.prog 84 = some true := by kernel_rfl
@[go_sem] theorem Tryd.sz84 : szO Tryd.prog 84 = some 1 := by kernel_rfl
@[go_sem] theorem Tryd.zero84 : zeroL Tryd.prog 84 = some [.nilFn] := by kernel_rfl
@[go_sem] theorem Tryd.small84 : smallO Tryd.prog 84 = some (1, 8) := by kernel_rfl
@[go_sem] theorem Tryd.zt84 : zeroT Tryd.prog 84 = some (.nilFn) := by kernel_rfl
@[go_sem] theorem Tryd.agg85 : aggO Tryd.prog 85 = some false := by kernel_rfl
@[go_sem] theorem Tryd.pln85 : plainO Tryd.prog 85 = some true := by kernel_rfl
@[go_sem] theorem Tryd.sz85 : szO Tryd.prog 85 = some 1 := by kernel_rfl
@[go_sem] theorem Tryd.zero85 : zeroL Tryd.prog 85 = some [.nilFn] := by kernel_rfl
@[go_sem] theorem Tryd.small85 : smallO Tryd.prog 85 = some (1, 8) := by kernel_rfl
@[go_sem] theorem Tryd.zt85 : zeroT Tryd.prog 85 = some (.nilFn) := by kernel_rfl
@[go_sem] theorem Tryd.agg86 : aggO Tryd.prog 86 = some false := by kernel_rfl
@[go_sem] theorem Tryd.pln86 : plainO Tryd.prog 86 = some true := by kernel_rfl
@[go_sem] theorem Tryd.sz86 : szO Tryd.prog 86 = some 1 := by kernel_rfl
@[go_sem] theorem Tryd.zero86 : zeroL Tryd.prog 86 = some [.nilFn] := by kernel_rfl
@[go_sem] theorem Tryd.small86 : smallO Tryd.prog 86 = some (1, 8) := by kernel_rfl
@[go_sem] theorem Tryd.zt86 : zeroT Tryd.prog 86 = some (.nilFn) := by kernel_rfl
@[go_sem] theorem Tryd.agg87 : aggO Tryd.prog 87 = some false := by kernel_rfl
@[go_sem] theorem Tryd.pln87 : plainO Tryd.prog 87 = some true := by kernel_rfl
@[go_sem] theorem Tryd.sz87 : szO Tryd.prog 87 = some 1 := by kernel_rfl
@[go_sem] theorem Tryd.zero87 : zeroL Tryd.prog 87 = some [.nilFn] := by kernel_rfl
@[go_sem] theorem Tryd.small87 : smallO Tryd.prog 87 = some (1, 8) := by kernel_rfl
@[go_sem] theorem Tryd.zt87 : zeroT Tryd.prog 87 = some (.nilFn) := by kernel_rfl
@[go_sem] theorem Tryd.agg89 : aggO Tryd.prog 89 = some false := by kernel_rfl
@[go_sem] theorem Tryd.pln89 : plainO Tryd.prog 89 = some true := by kernel_rfl
@[go_sem] theorem Tryd.sz89 : szO Tryd.prog 89 = some 1 := by kernel_rfl
@[go_sem] theorem Tryd.zero89 : zeroL Tryd.prog 89 = some [.nilFn] := by kernel_rfl
@[go_sem] theorem Tryd.small89 : smallO Tryd.prog 89 = some (1, 8) := by kernel_rfl
@[go_sem] theorem Tryd.zt89 : zeroT Tryd.prog 89 = some (.nilFn) := by kernel_rfl
@[go_sem] theorem Tryd.agg91 : aggO Tryd.prog 91 = some false := by kernel_rfl
@[go_sem] theorem Tryd.pln91 : plainO Tryd.prog 91 = some true := by kernel_rfl
@[go_sem] theorem Tryd.sz91 : szO Tryd.prog 91 = some 1 := by kernel_rfl
@[go_sem] theorem Tryd.zero91 : zeroL Tryd.prog 91 = some [.nilFn] := by kernel_rfl
@[go_sem] theorem Tryd.small91 : smallO Tryd.prog 91 = some (1, 8) := by kernel_rfl
@[go_sem] theorem Tryd.zt91 : zeroT Tryd.prog 91 = some (.nilFn) := by kernel_rfl
@[go_sem] theorem Tryd.agg92 : aggO Tryd.prog 92 = some false := by kernel_rfl
@[go_sem] theorem Tryd.pln92 : plainO Tryd.prog 92 = some true := by kernel_rfl
@[go_sem] theorem Tryd.sz92 : szO Tryd.prog 92 = some 1 := by kernel_rfl
@[go_sem] theorem Tryd.zero92 : zeroL Tryd.prog 92 = some [.nilFn] := by kernel_rfl
@[go_sem] theorem Tryd.small92 : smallO Tryd.prog 92 = some (1, 8) := by kernel_rfl
@[go_sem] theorem Tryd.zt92 : zeroT Tryd.prog 92 = some (.nilFn) := by kernel_rfl
@[go_sem] theorem Tryd.agg93 : aggO Tryd.prog 93 = some false := by kernel_rfl
@[go_sem] theorem Tryd.pln93 : plainO Tryd.prog 93 = some true := by kernel_rfl
@[go_sem] theorem Tryd.sz93 : szO Tryd.prog 93 = some 1 := by kernel_rfl
@[go_sem] theorem Tryd.zero93 : zeroL Tryd.prog 93 = some [.nilFn] := by kernel_rfl
@[go_sem] theorem Tryd.small93 : smallO Tryd.prog 93 = some (1, 8) := by kernel_rfl
@[go_sem] theorem Tryd.zt93 : zeroT Tryd.prog 93 = some (.nilFn) := by kernel_rfl
@[go_sem] theorem Tryd.agg94 : aggO Tryd.prog 94 = some true := by kernel_rfl
@[go_sem] theorem Tryd.pln94 : plainO Tryd.prog 94 = some true := by kernel_rfl
@[go_sem] theorem Tryd.sz94 : szO Tryd.prog 94 = some 2 := by kernel_rfl
@[go_sem] theorem Tryd.zero94 : zeroL Tryd.prog 94 = some [.int .i64 0, .int .i64 0] := by kernel_rfl
@[go_sem] theorem Tryd.small94 : smallO Tryd.prog 94 = some (2, 16) := by kernel_rfl
@[go_sem] theorem Tryd.zt94 : zeroT Tryd.prog 94 = some (.agg [.int .i64 0, .int .i64 0]) := by kernel_rfl
@[go_sem] theorem Tryd.fld94_0 : fieldO Tryd.prog 94 0 = some (0, 3) := by kernel_rfl
@[go_sem] theorem Tryd.fld94_1 : fieldO Tryd.prog 94 1 = some (1, 3) := by kernel_rfl
@[go_sem] theorem Tryd.bld94 (parts : List (Nat × TV)) : buildO Tryd.prog 94 parts = (fillT (fun i => ([(0, 1), (1, 1)] : List (Nat × Nat))[i]?) [.int .i64 0, .int .i64 0] parts).map .agg := by kernel_rfl
@[go_sem] theorem Tryd.eqg94 : Program.eqGuardType Tryd.prog (Program.depth Tryd.prog) 94 = false := by kernel_rfl
@[go_sem] theorem Tryd.agg95 : aggO Tryd.prog 95 = some true := by kernel_rfl
@[go_sem] theorem Tryd.pln95 : plainO Tryd.prog 95 = some true := by kernel_rfl
@[go_sem] theorem Tryd.sz95 : szO Tryd.prog 95 = some 2 := by kernel_rfl
@[go_sem] theorem Tryd.zero95 : zeroL Tryd.prog 95 = some [.int .i64 0, .int .i64 0] := by kernel_rfl
@[go_sem] theorem Tryd.small95 : smallO Tryd.prog 95 = some (2, 16) := by kernel_rfl
@[go_sem] theorem Tryd.zt95 : zeroT Tryd.prog 95 = some (.agg [.int .i64 0, .int .i64 0]) := by kernel_rfl
@[go_sem] theorem Tryd.fld95_0 : fieldO Tryd.prog 95 0 = some (0, 3) := by kernel_rfl
@[go_sem] theorem Tryd.fld95_1 : fieldO Tryd.prog 95 1 = some (1, 3) := by kernel_rfl
@[go_sem] theorem Tryd.bld95 (parts : List (Nat × TV)) : buildO Tryd.prog 95 parts = (fillT (fun i => ([(0, 1), (1, 1)] : List (Nat × Nat))[i]?) [.int .i64 0, .int .i64 0] parts).map .agg := by kernel_rfl
@[go_sem] theorem Tryd.eq95 (a0 b0 : Int) (a1 b1 : Int) : eqT Tryd.prog 20 95 (.agg [.int .i64 a0, .int .i64 a1]) (.agg [.int .i64 b0, .int .i64 b1]) = some ((a0 == b0) && ((a1 == b1) && true)) := by kernel_rfl
@[go_sem] theorem Tryd.eqg95 : Program.eqGuardType Tryd.prog (Program.depth Tryd.prog) 95 = false := by kernel_rfl
@[go_sem] theorem Tryd.agg96 : aggO Tryd.prog 96 = some false := by kernel_rfl
@[go_sem] theorem Tryd.pln96 : plainO Tryd.prog 96 = some true := by kernel_rfl
@[go_sem] theorem Tryd.sz96 : szO Tryd.prog 96 = some 1 := by kernel_rfl
@[go_sem] theorem Tryd.zero96 : zeroL Tryd.prog 96 = some [.nilFn] := by kernel_rfl
@[go_sem] theorem Tryd.small96 : smallO Tryd.prog 96 = some (1, 8) := by kernel_rfl
@[go_sem] theorem Tryd.zt96 : zeroT Tryd.prog 96 = some (.nilFn) := by kernel_rfl
@[go_sem] theorem Tryd.agg97 : aggO Tryd.prog 97 = some false := by kernel_rfl
@[go_sem] theorem Tryd.pln97 : plainO Tryd.prog 97 = some true := by kernel_rfl
@[go_sem] theorem Tryd.sz97 : szO Tryd.prog 97 = some 1 := by kernel_rfl
@[go_sem] theorem Tryd.zero97 : zeroL Tryd.prog 97 = some [.nilFn] := by kernel_rfl
@[go_sem] theorem Tryd.small97 : smallO Tryd.prog 97 = some (1, 8) := by kernel_rfl
@[go_sem] theorem Tryd.zt97 : zeroT Tryd.prog 97 = some (.nilFn) := by kernel_rfl
@[go_sem] theorem Tryd.agg99 : aggO Tryd.prog 99 = some false := by kernel_rfl
@[go_sem] theorem Tryd.pln99 : plainO Tryd.prog 99 = some true := by kernel_rfl
@[go_sem] theorem Tryd.sz99 : szO Tryd.prog 99 = some 1 := by kernel_rfl
@[go_sem] theorem Tryd.zero99 : zeroL Tryd.prog 99 = some [.nilFn] := by kernel_rfl
@[go_sem] theorem Tryd.small99 : smallO Tryd.prog 99 = some (1, 8) := by kernel_rfl
@[go_sem] theorem Tryd.zt99 : zeroT Tryd.prog 99 = some (.nilFn) := by kernel_rfl
@[go_sem] theorem Tryd.agg100 : aggO Tryd.prog 100 = some false := by kernel_rfl
@[go_sem] theorem Tryd.pln100 : plainO Tryd.prog 100 = some true := by kernel_rfl
@[go_sem] theorem Tryd.sz100 : szO Tryd.prog 100 = some 1 := by kernel_rfl
@[go_sem] theorem Tryd.zero100 : zeroL Tryd.prog 100 = some [.nilFn] := by kernel_rfl
@[go_sem] theorem Tryd.small100 : smallO Tryd.prog 100 = some (1, 8) := by kernel_rfl
@[go_sem] theorem Tryd.zt100 : zeroT Tryd.prog 100 = some (.nilFn) := by kernel_rfl
@[go_sem] theorem Tryd.agg101 : aggO Tryd.prog 101 = some true := by kernel_rfl
@[go_sem] theorem Tryd.pln101 : plainO Tryd.prog 101 = some true := by kernel_rfl
@[go_sem] theorem Tryd.sz101 : szO Tryd.prog 101 = some 3 := by kernel_rfl
@[go_sem] theorem Tryd.zero101 : zeroL Tryd.prog 101 = some [.int .i64 0, .int .i64 0, .int .i64 0] := by kernel_rfl
@[go_sem] theorem Tryd.small101 : smallO Tryd.prog 101 = some (3, 24) := by kernel_rfl
@[go_sem] theorem Tryd.zt101 : zeroT Tryd.prog 101 = some (.agg [.int .i64 0, .int .i64 0, .int .i64 0]) := by kernel_rfl
@[go_sem] theorem Tryd.fld101_0 : fieldO Tryd.prog 101 0 = some (0, 50) := by kernel_rfl
@[go_sem] theorem Tryd.bld101 (parts : List (Nat × TV)) : buildO Tryd.prog 101 parts = (fillT (fun i => ([(0, 3)] : List (Nat × Nat))[i]?) [.int .i64 0, .int .i64 0, .int .i64 0] parts).map .agg := by kernel_rfl
@[go_sem] theorem Tryd.eqg101 : Program.eqGuardType Tryd.prog (Program.depth Tryd.prog) 101 = false := by kernel_rfl
@[go_sem] theorem Tryd.agg102 : aggO Tryd.prog 102 = some true := by kernel_rfl
@[go_sem] theorem Tryd.pln102 : plainO Tryd.prog 102 = some true := by kernel_rfl
@[go_sem] theorem Tryd.sz102 : szO Tryd.prog 102 = some 3 := by kernel_rfl
@[go_sem] theorem Tryd.zero102 : zeroL Tryd.prog 102 = some [.int .i64 0, .int .i64 0, .int .i64 0] := by kernel_rfl
@[go_sem] theorem Tryd.small102 : smallO Tryd.prog 102 = some (3, 24) := by kernel_rfl
@[go_sem] theorem Tryd.zt102 : zeroT Tryd.prog 102 = some (.agg [.int .i64 0, .int .i64 0, .int .i64 0]) := by kernel_rfl
@[go_sem] theorem Tryd.fld102_0 : fieldO Tryd.prog 102 0 = some (0, 50) := by kernel_rfl
@[go_sem] theorem Tryd.bld102 (parts : List (Nat × TV)) : buildO Tryd.prog 102 parts = (fillT (fun i => ([(0, 3)] : List (Nat × Nat))[i]?) [.int .i64 0, .int .i64 0, .int .i64 0] parts).map .agg := by kernel_rfl
@[go_sem] theorem Tryd.eq102 (a0 b0 : Int) (a1 b1 : Int) (a2 b2 : Int) : eqT Tryd.prog 20 102 (.agg [.int .i64 a0, .int .i64 a1, .int .i64 a2]) (.agg [.int .i64 b0, .int .i64 b1, .int .i64 b2]) = some (((a0 == b0) && ((a1 == b1) && ((a2 == b2) && true))) && true) := by kernel_rfl
@[go_sem] theorem Tryd.eqg102 : Program.eqGuardType Tryd.prog (Program.depth Tryd.prog) 102 = false := by kernel_rfl
@[go_sem] theorem Tryd.agg103 : aggO Tryd.prog 103 = some false := by kernel_rfl
@[go_sem] theorem Tryd.pln103 : plainO Tryd.prog 103 = some true := by kernel_rfl
@[go_sem] theorem Tryd.sz103 : szO Tryd.prog 103 = some 1 := by kernel_rfl
@[go_sem] theorem Tryd.zero103 : zeroL Tryd.prog 103 = some [.nilFn] := by kernel_rfl
@[go_sem] theorem Tryd.small103 : smallO Tryd.prog 103 = some (1, 8) := by kernel_rfl
@[go_sem] theorem Tryd.zt103 : zeroT Tryd.prog 103 = some (.nilFn) := by kernel_rfl
@[go_sem] theorem Tryd.agg104 : aggO Tryd.prog 104 = some true := by kernel_rfl
@[go_sem] theorem Tryd.pln104 : plainO Tryd.prog 104 = some true := by kernel_rfl
@[go_sem] theorem Tryd.sz104 : szO Tryd.prog 104 = some 2 := by kernel_rfl
@[go_sem] theorem Tryd.zero104 : zeroL Tryd.prog 104 = some [.int .i64 0, .int .i64 0] := by kernel_rfl
@[go_sem] theorem Tryd.small104 : smallO Tryd.prog 104 = some (2, 16) := by kernel_rfl
@[go_sem] theorem Tryd.zt104 : zeroT Tryd.prog 104 = some (.agg [.int .i64 0, .int .i64 0]) := by kernel_rfl
@[go_sem] theorem Tryd.bld104 (parts : List (Nat × TV)) : buildO Tryd.prog 104 parts = (fillT (fun i => some (i * 1, 1)) [.int .i64 0, .int .i64 0] parts).map .agg := by kernel_rfl
@[go_sem] theorem Tryd.eq104 (a0 b0 : Int) (a1 b1 : Int) : eqT Tryd.prog 20 104 (.agg [.int .i64 a0, .int .i64 a1]) (.agg [.int .i64 b0, .int .i64 b1]) = some ((a0 == b0) && ((a1 == b1) && true)) := by kernel_rfl
@[go_sem] theorem Tryd.eqg104 : Program.eqGuardType Tryd.prog (Program.depth Tryd.prog) 104 = false := by kernel_rfl
@[go_sem] theorem Tryd.arr104 : arrayO Tryd.prog 104 = some (2, 3) := by kernel_rfl
@[go_sem] theorem Tryd.und104 : Program.underlying Tryd.prog 104 = some (.array 2 3) := by kernel_rfl
@[go_sem] theorem Tryd.agg105 : aggO Tryd.prog 105 = some false := by kernel_rfl
@[go_sem] theorem Tryd.pln105 : plainO Tryd.prog 105 = some true := by kernel_rfl
@[go_sem] theorem Tryd.sz105 : szO Tryd.prog 105 = some 1 := by kernel_rfl
@[go_sem] theorem Tryd.zero105 : zeroL Tryd.prog 105 = some [.nilFn] := by kernel_rfl
@[go_sem] theorem Tryd.small105 : smallO Tryd.prog 105 = some (1, 8) := by kernel_rfl
@[go_sem] theorem Tryd.zt105 : zeroT Tryd.prog 105 = some (.nilFn) := by kernel_rfl
@[go_sem] theorem Tryd.agg106 : aggO Tryd.prog 106 = some false := by kernel_rfl
@[go_sem] theorem Tryd.pln106 : plainO Tryd.prog 106 = some true := by kernel_rfl
@[go_sem] theorem Tryd.sz106 : szO Tryd.prog 106 = some 1 := by kernel_rfl
@[go_sem] theorem Tryd.zero106 : zeroL Tryd.prog 106 = some [.nilFn] := by kernel_rfl
@[go_sem] theorem Tryd.small106 : smallO Tryd.prog 106 = some (1, 8) := by kernel_rfl
@[go_sem] theorem Tryd.zt106 : zeroT Tryd.prog 106 = some (.nilFn) := by kernel_rfl
@[go_sem] theorem Tryd.agg107 : aggO Tryd.prog 107 = some false := by kernel_rfl
@[go_sem] theorem Tryd.pln107 : plainO Tryd.prog 107 = some true := by kernel_rfl
@[go_sem] theorem Tryd.sz107 : szO Tryd.prog 107 = some 1 := by kernel_rfl
@[go_sem] theorem Tryd.zero107 : zeroL Tryd.prog 107 = some [.nilMap] := by kernel_rfl
@[go_sem] theorem Tryd.small107 : smallO Tryd.prog 107 = some (1, 8) := by kernel_rfl
@[go_sem] theorem Tryd.map107 : mapO Tryd.prog 107 = some (3, 3) := by kernel_rfl
@[go_sem] theorem Tryd.und107 : Program.underlying Tryd.prog 107 = some (.map 3 3) := by kernel_rfl
@[go_sem] theorem Tryd.zt107 : zeroT Tryd.prog 107 = some (.nilMap) := by kernel_rfl
@[go_sem] theorem Tryd.agg108 : aggO Tryd.prog 108 = some false := by kernel_rfl
@[go_sem] theorem Tryd.pln108 : plainO Tryd.prog 108 = some true := by kernel_rfl
@[go_sem] theorem Tryd.sz108 : szO Tryd.prog 108 = some 1 := by kernel_rfl
@[go_sem] theorem Tryd.zero108 : zeroL Tryd.prog 108 = some [.nilFn] := by kernel_rfl
@[go_sem] theorem Tryd.small108 : smallO Tryd.prog 108 = some (1, 8) := by kernel_rfl
@[go_sem] theorem Tryd.zt108 : zeroT Tryd.prog 108 = some (.nilFn) := by kernel_rfl
@[go_sem] theorem Tryd.agg109 : aggO Tryd.prog 109 = some false := by kernel_rfl
@[go_sem] theorem Tryd.pln109 : plainO Tryd.prog 109 = some false := by kernel_rfl
@[go_sem] theorem Tryd.sz109 : szO Tryd.prog 109 = some 1 := by kernel_rfl
@[go_sem] theorem Tryd.zero109 : zeroL Tryd.prog 109 = some [.nilIf] := by kernel_rfl
@[go_sem] theorem Tryd.small109 : smallO Tryd.prog 109 = some (1, 16) := by kernel_rfl
@[go_sem] theorem Tryd.zt109 : zeroT Tryd.prog 109 = some (.nilIf) := by kernel_rfl
@[go_sem] theorem Tryd.agg110 : aggO Tryd.prog 110 = some false := by kernel_rfl
@[go_sem] theorem Tryd.pln110 : plainO Tryd.prog 110 = some false := by kernel_rfl
@[go_sem] theorem Tryd.sz110 : szO Tryd.prog 110 = some 1 := by kernel_rfl
@[go_sem] theorem Tryd.zero110 : zeroL Tryd.prog 110 = some [.nilIf] := by kernel_rfl
@[go_sem] theorem Tryd.small110 : smallO Tryd.prog 110 = some (1, 16) := by kernel_rfl
@[go_sem] theorem Tryd.zt110 : zeroT Tryd.prog 110 = some (.nilIf) := by kernel_rfl
@[go_sem] theorem Tryd.agg111 : aggO Tryd.prog 111 = some false := by kernel_rfl
@[go_sem] theorem Tryd.pln111 : plainO Tryd.prog 111 = some true := by kernel_rfl
@[go_sem] theorem Tryd.sz111 : szO Tryd.prog 111 = some 1 := by kernel_rfl
@[go_sem] theorem Tryd.zero111 : zeroL Tryd.prog 111 = some [.nilFn] := by kernel_rfl
@[go_sem] theorem Tryd.small111 : smallO Tryd.prog 111 = some (1, 8) := by kernel_rfl
@[go_sem] theorem Tryd.zt111 : zeroT Tryd.prog 111 = some (.nilFn) := by kernel_rfl
@[go_sem] theorem Tryd.agg112 : aggO Tryd.prog 112 = some false := by kernel_rfl
@[go_sem] theorem Tryd.pln112 : plainO Tryd.prog 112 = some true := by kernel_rfl
@[go_sem] theorem Tryd.sz112 : szO Tryd.prog 112 = some 1 := by kernel_rfl
@[go_sem] theorem Tryd.zero112 : zeroL Tryd.prog 112 = some [.nilFn] := by kernel_rfl
@[go_sem] theorem Tryd.small112 : smallO Tryd.prog 112 = some (1, 8) := by kernel_rfl
@[go_sem] theorem Tryd.zt112 : zeroT Tryd.prog 112 = some (.nilFn) := by kernel_rfl
@[go_sem] theorem Tryd.agg113 : aggO Tryd.prog 113 = some false := by kernel_rfl
@[go_sem] theorem Tryd.pln113 : plainO Tryd.prog 113 = some true := by kernel_rfl
@[go_sem] theorem Tryd.sz113 : szO Tryd.prog 113 = some 1 := by kernel_rfl
@[go_sem] theorem Tryd.zero113 : zeroL Tryd.prog 113 = some [.nilFn] := by kernel_rfl
@[go_sem] theorem Tryd.small113 : smallO Tryd.prog 113 = some (1, 8) := by kernel_rfl
@[go_sem] theorem Tryd.zt113 : zeroT Tryd.prog 113 = some (.nilFn) := by kernel_rfl
@[go_sem] theorem Tryd.agg114 : aggO Tryd.prog 114 = some true := by kernel_rfl
@[go_sem] theorem Tryd.pln114 : plainO Tryd.prog 114 = some true := by kernel_rfl
@[go_sem] theorem Tryd.sz114 : szO Tryd.prog 114 = some 4 := by kernel_rfl
@[go_sem] theorem Tryd.zero114 : zeroL Tryd.prog 114 = some [.nilPtr, .nilPtr, .nilPtr, .str ⟨#[]⟩] := by kernel_rfl
@[go_sem] theorem Tryd.small114 : smallO Tryd.prog 114 = some (4, 40) := by kernel_rfl
@[go_sem] theorem Tryd.zt114 : zeroT Tryd.prog 114 = some (.agg [.nilPtr, .nilPtr, .nilPtr, .str ⟨#[]⟩]) := by kernel_rfl
@[go_sem] theorem Tryd.fld114_0 : fieldO Tryd.prog 114 0 = some (0, 17) := by kernel_rfl
@[go_sem] theorem Tryd.fld114_1 : fieldO Tryd.prog 114 1 = some (1, 17) := by kernel_rfl
@[go_sem] theorem Tryd.fld114_2 : fieldO Tryd.prog 114 2 = some (2, 17) := by kernel_rfl
@[go_sem] theorem Tryd.fld114_3 : fieldO Tryd.prog 114 3 = some (3, 9) := by kernel_rfl
@[go_sem] theorem Tryd.bld114 (parts : List (Nat × TV)) : buildO Tryd.prog 114 parts = (fillT (fun i => ([(0, 1), (1, 1), (2, 1), (3, 1)] : List (Nat × Nat))[i]?) [.nilPtr, .nilPtr, .nilPtr, .str ⟨#[]⟩] parts).map .agg := by kernel_rfl
@[go_sem] theorem Tryd.bldp114 (parts : List (Nat × PV)) : buildP Tryd.prog 114 parts = fillP (fun i => ([(0, 1), (1, 1), (2, 1), (3, 1)] : List (Nat × Nat))[i]?) [.t (.nilPtr), .t (.nilPtr), .t (.nilPtr), .t (.str ⟨#[]⟩)] parts := by kernel_rfl
@[go_sem] theorem Tryd.eqg114 : Program.eqGuardType Tryd.prog (Program.depth Tryd.prog) 114 = false := by kernel_rfl
@[go_sem] theorem Tryd.agg116 : aggO Tryd.prog 116 = some true := by kernel_rfl
@[go_sem] theorem Tryd.pln116 : plainO Tryd.prog 116 = some true := by kernel_rfl
@[go_sem] theorem Tryd.sz116 : szO Tryd.prog 116 = some 0 := by kernel_rfl
@[go_sem] theorem Tryd.zero116 : zeroL Tryd.prog 116 = some [] := by kernel_rfl
@[go_sem] theorem Tryd.zt116 : zeroT Tryd.prog 116 = some (.agg []) := by kernel_rfl
@[go_sem] theorem Tryd.arr116 : arrayO Tryd.prog 116 = some (0, 16) := by kernel_rfl
@[go_sem] theorem Tryd.und116 : Program.underlying Tryd.prog 116 = some (.array 0 16) := by kernel_rfl
@[go_sem] theorem Tryd.agg117 : aggO Tryd.prog 117 = some true := by kernel_rfl
@[go_sem] theorem Tryd.pln117 : plainO Tryd.prog 117 = some true := by kernel_rfl
@[go_sem] theorem Tryd.sz117 : szO Tryd.prog 117 = some 0 := by kernel_rfl
@[go_sem] theorem Tryd.zero117 : zeroL Tryd.prog 117 = some [] := by kernel_rfl
@[go_sem] theorem Tryd.zt117 : zeroT Tryd.prog 117 = some (.agg []) := by kernel_rfl
@[go_sem] theorem Tryd.fld117_0 : fieldO Tryd.prog 117 0 = some (0, 116) := by kernel_rfl
@[go_sem] theorem Tryd.agg119 : aggO Tryd.prog 119 = some false := by kernel_rfl
@[go_sem] theorem Tryd.pln119 : plainO Tryd.prog 119 = some true := by kernel_rfl
@[go_sem] theorem Tryd.sz119 : szO Tryd.prog 119 = some 1 := by kernel_rfl
@[go_sem] theorem Tryd.zero119 : zeroL Tryd.prog 119 = some [.int .u32 0] := by kernel_rfl
@[go_sem] theorem Tryd.small119 : smallO Tryd.prog 119 = some (1, 4) := by kernel_rfl
@[go_sem] theorem Tryd.zt119 : zeroT Tryd.prog 119 = some (.int .u32 0) := by kernel_rfl
@[go_sem] theorem Tryd.knd119 : kindO Tryd.prog 119 = some .u32 := by kernel_rfl
@[go_sem] theorem Tryd.und119 : Program.underlying Tryd.prog 119 = some (.int .u32) := by kernel_rfl
@[go_sem] theorem Tryd.agg122 : aggO Tryd.prog 122 = some false := by kernel_rfl
@[go_sem] theorem Tryd.pln122 : plainO Tryd.prog 122 = some true := by kernel_rfl
@[go_sem] theorem Tryd.sz122 : szO Tryd.prog 122 = some 1 := by kernel_rfl
@[go_sem] theorem Tryd.zero122 : zeroL Tryd.prog 122 = some [.nilFn] := by kernel_rfl
@[go_sem] theorem Tryd.small122 : smallO Tryd.prog 122 = some (1, 8) := by kernel_rfl
@[go_sem] theorem Tryd.zt122 : zeroT Tryd.prog 122 = some (.nilFn) := by kernel_rfl
@[go_sem] theorem Tryd.agg123 : aggO Tryd.prog 123 = some false := by kernel_rfl
@[go_sem] theorem Tryd.pln123 : plainO Tryd.prog 123 = some true := by kernel_rfl
@[go_sem] theorem Tryd.sz123 : szO Tryd.prog 123 = some 1 := by kernel_rfl
@[go_sem] theorem Tryd.zero123 : zeroL Tryd.prog 123 = some [.nilPtr] := by kernel_rfl
@[go_sem] theorem Tryd.small123 : smallO Tryd.prog 123 = some (1, 8) := by kernel_rfl
@[go_sem] theorem Tryd.zt123 : zeroT Tryd.prog 123 = some (.nilPtr) := by kernel_rfl
@[go_sem] theorem Tryd.agg126 : aggO Tryd.prog 126 = some true := by kernel_rfl
@[go_sem] theorem Tryd.pln126 : plainO Tryd.prog 126 = some true := by kernel_rfl
@[go_sem] theorem Tryd.sz126 : szO Tryd.prog 126 = some 11 := by kernel_rfl
@[go_sem] theorem Tryd.zero126 : zeroL Tryd.prog 126 = some [.int .u64 0, .int .u64 0, .int .u32 0, .int .u8 0, .int .u8 0, .int .u8 0, .int .u8 0, .nilFn, .nilPtr, .int .i32 0, .int .i32 0] := by kernel_rfl
@[go_sem] theorem Tryd.small126 : smallO Tryd.prog 126 = some (11, 48) := by kernel_rfl
@[go_sem] theorem Tryd.zt126 : zeroT Tryd.prog 126 = some (.agg [.int .u64 0, .int .u64 0, .int .u32 0, .int .u8 0, .int .u8 0, .int .u8 0, .int .u8 0, .nilFn, .nilPtr, .int .i32 0, .int .i32 0]) := by kernel_rfl
@[go_sem] theorem Tryd.fld126_0 : fieldO Tryd.prog 126 0 = some (0, 12) := by kernel_rfl
@[go_sem] theorem Tryd.fld126_1 : fieldO Tryd.prog 126 1 = some (1, 12) := by kernel_rfl
@[go_sem] theorem Tryd.fld126_2 : fieldO Tryd.prog 126 2 = some (2, 119) := by kernel_rfl
@[go_sem] theorem Tryd.fld126_3 : fieldO Tryd.prog 126 3 = some (3, 120) := by kernel_rfl
@[go_sem] theorem Tryd.fld126_4 : fieldO Tryd.prog 126 4 = some (4, 5) := by kernel_rfl
@[go_sem] theorem Tryd.fld126_5 : fieldO Tryd.prog 126 5 = some (5, 5) := by kernel_rfl
@[go_sem] theorem Tryd.fld126_6 : fieldO Tryd.prog 126 6 = some (6, 121) := by kernel_rfl
@[go_sem] theorem Tryd.fld126_7 : fieldO Tryd.prog 126 7 = some (7, 122) := by kernel_rfl
@[go_sem] theorem Tryd.fld126_8 : fieldO Tryd.prog 126 8 = some (8, 123) := by kernel_rfl
@[go_sem] theorem Tryd.fld126_9 : fieldO Tryd.prog 126 9 = some (9, 124) := by kernel_rfl
@[go_sem] theorem Tryd.fld126_10 : fieldO Tryd.prog 126 10 = some (10, 125) := by kernel_rfl
@[go_sem] theorem Tryd.bld126 (parts : List (Nat × TV)) : buildO Tryd.prog 126 parts = (fillT (fun i => ([(0, 1), (1, 1), (2, 1), (3, 1), (4, 1), (5, 1), (6, 1), (7, 1), (8, 1), (9, 1), (10, 1)] : List (Nat × Nat))[i]?) [.int .u64 0, .int .u64 0, .int .u32 0, .int .u8 0, .int .u8 0, .int .u8 0, .int .u8 0, .nilFn, .nilPtr, .int .i32 0, .int .i32 0] parts).map .agg := by kernel_rfl
@[go_sem] theorem Tryd.bldp126 (parts : List (Nat × PV)) : buildP Tryd.prog 126 parts = fillP (fun i => ([(0, 1), (1, 1), (2, 1), (3, 1), (4, 1), (5, 1), (6, 1), (7, 1), (8, 1), (9, 1), (10, 1)] : List (Nat × Nat))[i]?) [.t (.int .u64 0), .t (.int .u64 0), .t (.int .u32 0), .t (.int .u8 0), .t (.int .u8 0), .t (.int .u8 0), .t (.int .u8 0), .t (.nilFn), .t (.nilPtr), .t (.int .i32 0), .t (.int .i32 0)] parts := by kernel_rfl
@[go_sem] theorem Tryd.eqg126 : Program.eqGuardType Tryd.prog (Program.depth Tryd.prog) 126 = false := by kernel_rfl
theorem Tryd.mixes : Tryd.prog.follows .mixedOrders = true := by kernel_rfl
end Go.Proofs.YtnoahnbjdapieaaDoor

/- Part Pb. -/
namespace Go.Oc
open Go Go.Pm

/-- A number that an int can hold. -/
def In64 (n : Int) : Prop := -9223372036854775808 ≤ n ∧ n ≤ 9223372036854775807
theorem wrap_id {n : Int} (h : In64 n) : IntKind.i64.wrap n = n := wrap_in h.1 h.2

def inB (n lo hi : Int) : Bool := decide (lo ≤ n) && decide (n ≤ hi)
theorem inB_iff {n lo hi : Int} : inB n lo hi = true ↔ lo ≤ n ∧ n ≤ hi := by simp [inB]

structure Span where
  lo : Int
  hi : Int
  deriving DecidableEq
def Span.cs (s : Span) : List TV := [.int .i64 s.lo, .int .i64 s.hi]
def Span.t (s : Span) : TV := .agg s.cs
def spannedB (s : Span) (lo hi : Int) : Bool := decide (lo ≤ s.lo) && decide (s.lo ≤ s.hi) && decide (s.hi ≤ hi)
def widerS (s : Span) (n : Int) (first : Bool) : Span := if first then ⟨n, n⟩ else ⟨min s.lo n, max s.hi n⟩
def chosen (lo hi n : Int) : Int := if lo ≥ hi then lo else if 9223372036854775807 < hi - lo + 1 then min (max n lo) hi else lo + n % (hi - lo + 1)
theorem chosen_mem {lo hi : Int} (n : Int) (h : lo ≤ hi) : lo ≤ chosen lo hi n ∧ chosen lo hi n ≤ hi := by
  unfold chosen
  split
  · omega
  · split
    · omega
    · have h1 := Int.emod_nonneg n (show hi - lo + 1 ≠ 0 by omega)
      have h2 := Int.emod_lt_of_pos n (show 0 < hi - lo + 1 by omega)
      omega
theorem chosen_low {lo hi : Int} (n : Int) (h : ¬ lo ≤ hi) : chosen lo hi n = lo := by
  unfold chosen; rw [if_pos (by omega)]

/-- A list of ints, as cells. -/
def ints (l : List Int) : List TV := l.map (TV.int .i64)
theorem ints_at {l : List Int} {k : Nat} {x : Int} (h : l[k]? = some x) : (ints l).drop (k * 1) = .int .i64 x :: ints (l.drop (k + 1)) := by
  unfold ints
  rw [Nat.mul_one, ← List.map_drop]
  have hk := (List.getElem?_eq_some_iff.1 h).1
  rw [List.drop_eq_getElem_cons hk, List.map_cons]
  congr 2
  exact (List.getElem?_eq_some_iff.1 h).2
theorem ints_inj : ∀ {a b : List Int}, ints a = ints b → a = b
  | [], [], _ => rfl
  | x :: a, y :: b, h => by
    simp only [ints, List.map_cons, List.cons.injEq, TV.int.injEq, true_and] at h
    rw [h.1, ints_inj (a := a) (b := b) h.2]
  | [], _ :: _, h => by simp [ints] at h
  | _ :: _, [], h => by simp [ints] at h
theorem ints_len (l : List Int) : (ints l).length = l.length := by simp [ints]
noncomputable def unints (cs : List TV) : Option (List Int) := open Classical in if h : ∃ l, cs = ints l then some h.choose else none
theorem unints_eq (l : List Int) : unints (ints l) = some l := by
  have h : ∃ l', ints l = ints l' := ⟨l, rfl⟩
  unfold unints
  rw [dif_pos h]
  congr 1
  exact (ints_inj h.choose_spec).symm

/-- Lists of structs. -/
theorem flat_at {α : Type} (c : α → List TV) {n : Nat} (hc : ∀ x, (c x).length = n) : ∀ {l : List α} {k : Nat} {x : α}, l[k]? = some x → (l.flatMap c).drop (k * n) = c x ++ (l.drop (k + 1)).flatMap c
  | [], k, x, h => by simp at h
  | y :: l, 0, x, h => by simp at h; subst h; simp
  | y :: l, k + 1, x, h => by
    simp at h
    have := flat_at c hc h
    simp only [List.flatMap_cons, List.drop_succ_cons, Nat.add_mul, Nat.one_mul]
    rw [Nat.add_comm, List.drop_append, hc y]
    simp [List.drop_eq_nil_of_le, hc y, this]
theorem flat_len {α : Type} (c : α → List TV) {n : Nat} (hc : ∀ x, (c x).length = n) (l : List α) : (l.flatMap c).length = l.length * n := by
  induction l with
  | nil => simp
  | cons x l ih => simp only [List.flatMap_cons, List.length_append, hc, ih, List.length_cons, Nat.add_mul]; omega
theorem flat_inj {α : Type} {c : α → List TV} {n : Nat} (hc : ∀ x, (c x).length = n) (hn : 0 < n) (hi : ∀ x y, c x = c y → x = y) : ∀ {a b : List α}, a.flatMap c = b.flatMap c → a = b
  | [], [], _ => rfl
  | x :: a, y :: b, h => by
    simp only [List.flatMap_cons] at h
    have h1 := List.append_inj h (by rw [hc, hc])
    rw [hi x y h1.1, flat_inj hc hn hi h1.2]
  | [], y :: b, h => by have := congrArg List.length h; simp [hc] at this; omega
  | x :: a, [], h => by have := congrArg List.length h; simp [hc] at this; omega
noncomputable def unflat {α : Type} (c : α → List TV) (cs : List TV) : Option (List α) := open Classical in if h : ∃ l, cs = l.flatMap c then some h.choose else none
theorem unflat_eq {α : Type} {c : α → List TV} {n : Nat} (hc : ∀ x, (c x).length = n) (hn : 0 < n) (hi : ∀ x y, c x = c y → x = y) (l : List α) : unflat c (l.flatMap c) = some l := by
  have h : ∃ l' : List α, l.flatMap c = l'.flatMap c := ⟨l, rfl⟩
  unfold unflat
  rw [dif_pos h]
  congr 1
  exact (flat_inj hc hn hi h.choose_spec).symm
theorem unflat_some {α : Type} {c : α → List TV} {cs : List TV} {l : List α} (h : unflat c cs = some l) : cs = l.flatMap c := by
  unfold unflat at h
  split at h
  · rename_i hc; cases h; exact hc.choose_spec
  · cases h
theorem unints_some {cs : List TV} {l : List Int} (h : unints cs = some l) : cs = ints l := by
  unfold unints at h
  split at h
  · rename_i hc; cases h; exact hc.choose_spec
  · cases h

/-- A row of structs. -/
def IsRow {α : Type} (c : α → List TV) (s : TV) (l : List α) : Prop := (s = .nilSl ∧ l = []) ∨ ∃ full, s = .sl (l.flatMap c) l.length full
noncomputable def rowL {α : Type} (un : List TV → Option (List α)) : TV → Option (List α)
  | .nilSl => un []
  | .sl cs n _ => match un cs with
    | some l => if n = l.length then some l else none
    | none => none
  | _ => none
attribute [go_sem] rowL
theorem rowL_some {α : Type} {c : α → List TV} {un : List TV → Option (List α)} (h0 : un [] = some []) (hu : ∀ {cs l}, un cs = some l → cs = l.flatMap c) {s : TV} {l : List α} (h : rowL un s = some l) : IsRow c s l := by
  unfold rowL at h
  split at h
  · rw [h0] at h; cases h; exact .inl ⟨rfl, rfl⟩
  · split at h
    · rename_i l' hl
      split at h
      · rename_i hn
        cases h
        have := hu hl
        subst this; subst hn
        exact .inr ⟨_, rfl⟩
      · cases h
    · cases h
  · cases h
theorem IsRow.ne {α : Type} {c : α → List TV} {s : TV} {l : List α} (h : IsRow c s l) (hl : 1 ≤ l.length) : ∃ full, s = .sl (l.flatMap c) l.length full := by
  rcases h with ⟨_, rfl⟩ | h
  · simp at hl
  · exact h

theorem get_lt {α : Type} {l : List α} {k : Nat} (h : (k : Int) < (l.length : Int)) : ∃ x, l[k]? = some x := ⟨l[k]'(by omega), List.getElem?_eq_getElem (by omega)⟩
theorem take_all {α : Type} (p : α → Bool) {l : List α} {k : Nat} {x : α} (h : l[k]? = some x) : (l.take (k + 1)).all p = ((l.take k).all p && p x) := by
  rw [List.take_add_one, h]; simp
theorem take_snoc {α : Type} {l : List α} {k : Nat} {x : α} (h : l[k]? = some x) : l.take (k + 1) = l.take k ++ [x] := by
  rw [List.take_add_one, h]; rfl
theorem all_of_take {α : Type} {p : α → Bool} {l : List α} {k : Nat} (h : (l.take k).all p = false) : l.all p = false := by
  rw [← List.take_append_drop k l, List.all_append, h]; rfl

/-- May the first list stand before the second one? -/
def before : List Int → List Int → Bool
  | [], [] => false
  | [], _ :: _ => true
  | _ :: _, [] => false
  | x :: a, y :: b => if x < y then true else if y < x then false else before a b
def risingB : Int → List Int → Int → Bool
  | _, [], _ => true
  | lo, x :: l, hi => decide (lo ≤ x) && decide (x < hi) && risingB (x + 1) l hi
/-- The numbers of a set, below another one. -/
def members (set below : Nat) : List Int := ((List.range below).filter set.testBit).map Int.ofNat
end Go.Oc

/- Part Ib. -/
namespace Go.Oc
open Go Go.Pm
def ic (n : Int) : List TV := [.int .i64 n]
theorem ic_ints (l : List Int) : l.flatMap ic = ints l := by
  induction l with
  | nil => rfl
  | cons x l ih => simp only [List.flatMap_cons, ih]; rfl
def unI : List TV → Option (List Int)
  | [] => some []
  | .int .i64 a :: r => (unI r).map (a :: ·)
  | _ => none
theorem unI_eq : ∀ l : List Int, unI (ints l) = some l
  | [] => rfl
  | x :: l => by
    show (unI (ints l)).map (x :: ·) = some (x :: l)
    rw [unI_eq l]; rfl
theorem unI_some : ∀ {cs : List TV} {l : List Int}, unI cs = some l → cs = l.flatMap ic := by
  intro cs
  induction cs using unI.induct with
  | case1 => intro l h; simp [unI] at h; subst h; rfl
  | case2 a r ih =>
    intro l h
    simp only [unI, Option.map_eq_some_iff] at h
    obtain ⟨l', h1, rfl⟩ := h
    rw [ih h1]; rfl
  | case3 r h1 h2 =>
    intro l h
    unfold unI at h
    split at h
    · exact absurd rfl h1
    · exact absurd rfl (h2 _ _)
    · cases h
attribute [go_sem] unI_eq

theorem before_end : ∀ {a b : List Int}, a = [] ∨ b = [] → before a b = decide (a.length < b.length)
  | [], [], _ => rfl
  | [], _ :: _, _ => by simp [before]
  | _ :: _, [], _ => by simp [before]
  | _ :: _, _ :: _, h => by rcases h with h | h <;> cases h
theorem rowL_is {α : Type} {un : List TV → Option (List α)} {c : α → List TV} (hu : ∀ l : List α, un (l.flatMap c) = some l) {s : TV} {l : List α} (h : IsRow c s l) : rowL un s = some l := by
  rcases h with ⟨rfl, rfl⟩ | ⟨full, rfl⟩
  · exact hu []
  · simp only [rowL, hu, if_true]
theorem rowI_is {s : TV} {l : List Int} (h : IsRow ic s l) : rowL unI s = some l := rowL_is (fun l => by rw [ic_ints]; exact unI_eq l) h
end Go.Oc
namespace Go.Proofs.YtnoahnbjdapieaaDoor
open Go.RowKit Go.Pm Go.Oc
set_option maxRecDepth 100000
set_option linter.unusedVariables false
set_option maxHeartbeats 4000000

theorem In_c (n lo hi : Int) : PCalls Tryd.prog 32 [.int .i64 n, .int .i64 lo, .int .i64 hi] (.bool (inB n lo hi)) := by
  refine pcalls_by Tryd.mixes noSpec_ok (fn := Tryd.f32) Tryd.func32 rfl (by kernel_rfl) (by show 3 ≤ _; decide) ?_
  simp (decide := true) (maxSteps := 4000000) only [go_sem, Nat.reduceAdd, Nat.reduceSub, Nat.reduceMul, Nat.reduceDiv, Nat.reduceMod, Nat.reduceLT, Nat.reduceLeDiff, Nat.reduceEqDiff, Nat.reduceBEq, Nat.reduceBNe, Nat.reduceGT, Int.reduceAdd, Int.reduceSub, Int.reduceMul, Int.reduceNeg, Int.reduceLT, Int.reduceLE, Int.reduceEq, Int.reduceNe, Int.reduceBEq, Int.reduceBNe, Int.reduceToNat, Int.reduceGT, Int.reduceGE, ↓reduceIte, decide_true, decide_false, Tryd.f32, inB, ge_iff_le]
def gIn : List TV → Option TV
  | [.int .i64 n, .int .i64 a, .int .i64 b] => some (.bool (inB n a b))
  | _ => none
theorem gIn_ok : ∀ xs r, gIn xs = some r → PCalls Tryd.prog 32 xs r := by
  intro xs r h
  unfold gIn at h
  split at h
  · cases h; exact In_c _ _ _
  · cases h
def spIn : Pm.Spec := noSpec.one 32 gIn
attribute [go_sem] gIn
@[go_sem] theorem spIn_p (f : FuncId) (xs : List TV) : spIn.p f xs = Pm.Spec.p (noSpec.one 32 gIn) f xs := rfl
@[go_sem] theorem spIn_h (f : FuncId) (ps : List PV) (hl : List PO) : spIn.h f ps hl = Pm.Spec.h (noSpec.one 32 gIn) f ps hl := rfl
@[go_sem] theorem spIn_fz (f : FuncId) : spIn.fz f = Pm.Spec.fz (noSpec.one 32 gIn) f := rfl
@[go_sem] theorem spIn_fr (f : FuncId) : spIn.fr f = Pm.Spec.fr (noSpec.one 32 gIn) f := rfl
@[go_sem] theorem spIn_mu (t : TypeId) : spIn.mu t = Pm.Spec.mu (noSpec.one 32 gIn) t := rfl
theorem spIn_ok : SpecOk Tryd.prog spIn := Spec.one_ok gIn_ok noSpec_ok

theorem Mod_c (n by_ : Int) (h : 0 < by_) (h2 : by_ ≤ 9223372036854775807) : PCalls Tryd.prog 34 [.int .i64 n, .int .i64 by_] (.int .i64 (n % by_)) := by
  refine pcalls_by Tryd.mixes noSpec_ok (fn := Tryd.f34) Tryd.func34 rfl (by kernel_rfl) (by show 2 ≤ _; decide) ?_
  have hne : ¬ by_ = 0 := by omega
  simp (decide := true) (maxSteps := 4000000) only [go_sem, Nat.reduceAdd, Nat.reduceSub, Nat.reduceMul, Nat.reduceDiv, Nat.reduceMod, Nat.reduceLT, Nat.reduceLeDiff, Nat.reduceEqDiff, Nat.reduceBEq, Nat.reduceBNe, Nat.reduceGT, Int.reduceAdd, Int.reduceSub, Int.reduceMul, Int.reduceNeg, Int.reduceLT, Int.reduceLE, Int.reduceEq, Int.reduceNe, Int.reduceBEq, Int.reduceBNe, Int.reduceToNat, Int.reduceGT, Int.reduceGE, ↓reduceIte, decide_true, decide_false, Tryd.f34, hne]
  have e := Int.tmod_eq_emod (a := n) (b := by_)
  have e1 := Int.emod_nonneg n hne
  have e2 := Int.emod_lt_of_pos n h
  by_cases hn : n.tmod by_ < 0
  · simp (decide := true) (maxSteps := 4000000) only [go_sem, Nat.reduceAdd, Nat.reduceSub, Nat.reduceMul, Nat.reduceDiv, Nat.reduceMod, Nat.reduceLT, Nat.reduceLeDiff, Nat.reduceEqDiff, Nat.reduceBEq, Nat.reduceBNe, Nat.reduceGT, Int.reduceAdd, Int.reduceSub, Int.reduceMul, Int.reduceNeg, Int.reduceLT, Int.reduceLE, Int.reduceEq, Int.reduceNe, Int.reduceBEq, Int.reduceBNe, Int.reduceToNat, Int.reduceGT, Int.reduceGE, ↓reduceIte, decide_true, decide_false, hn]
    have e3 : n.tmod by_ + by_ = n % by_ := by
      rw [e] at hn ⊢
      split at hn
      · omega
      · rename_i hc
        rw [if_neg hc]
        have : (by_.natAbs : Int) = by_ := by omega
        omega
    rw [e3, wrap_in (by omega) (by omega)]
  · simp (decide := true) (maxSteps := 4000000) only [go_sem, Nat.reduceAdd, Nat.reduceSub, Nat.reduceMul, Nat.reduceDiv, Nat.reduceMod, Nat.reduceLT, Nat.reduceLeDiff, Nat.reduceEqDiff, Nat.reduceBEq, Nat.reduceBNe, Nat.reduceGT, Int.reduceAdd, Int.reduceSub, Int.reduceMul, Int.reduceNeg, Int.reduceLT, Int.reduceLE, Int.reduceEq, Int.reduceNe, Int.reduceBEq, Int.reduceBNe, Int.reduceToNat, Int.reduceGT, Int.reduceGE, ↓reduceIte, decide_true, decide_false, hn]
    rw [e] at hn ⊢
    split at hn
    · rename_i hc; rw [if_pos hc]; simp
    · rename_i hc
      have : (by_.natAbs : Int) = by_ := by omega
      omega
theorem Abs_c (n : Int) : PCalls Tryd.prog 37 [.int .i64 n] (.int .i64 (max n (IntKind.i64.wrap (0 - n)))) := by
  refine pcalls_by Tryd.mixes noSpec_ok (fn := Tryd.f37) Tryd.func37 rfl (by kernel_rfl) (by show 1 ≤ _; decide) ?_
  simp (decide := true) (maxSteps := 4000000) only [go_sem, Nat.reduceAdd, Nat.reduceSub, Nat.reduceMul, Nat.reduceDiv, Nat.reduceMod, Nat.reduceLT, Nat.reduceLeDiff, Nat.reduceEqDiff, Nat.reduceBEq, Nat.reduceBNe, Nat.reduceGT, Int.reduceAdd, Int.reduceSub, Int.reduceMul, Int.reduceNeg, Int.reduceLT, Int.reduceLE, Int.reduceEq, Int.reduceNe, Int.reduceBEq, Int.reduceBNe, Int.reduceToNat, Int.reduceGT, Int.reduceGE, ↓reduceIte, decide_true, decide_false, Tryd.f37]
def gMod : List TV → Option TV
  | [.int .i64 n, .int .i64 b] => if 0 < b ∧ b ≤ 9223372036854775807 then some (.int .i64 (n % b)) else none
  | _ => none
theorem gMod_ok : ∀ xs r, gMod xs = some r → PCalls Tryd.prog 34 xs r := by
  intro xs r h
  unfold gMod at h
  split at h
  · split at h
    · rename_i hc; cases h; exact Mod_c _ _ hc.1 hc.2
    · cases h
  · cases h
def gAbs : List TV → Option TV
  | [.int .i64 n] => some (.int .i64 (max n (IntKind.i64.wrap (0 - n))))
  | _ => none
theorem gAbs_ok : ∀ xs r, gAbs xs = some r → PCalls Tryd.prog 37 xs r := by
  intro xs r h
  unfold gAbs at h
  split at h
  · cases h; exact Abs_c _
  · cases h
def spB1 : Pm.Spec := (spIn.one 34 gMod).one 37 gAbs
attribute [go_sem] gMod gAbs
@[go_sem] theorem spB1_p (f : FuncId) (xs : List TV) : spB1.p f xs = Pm.Spec.p ((spIn.one 34 gMod).one 37 gAbs) f xs := rfl
@[go_sem] theorem spB1_h (f : FuncId) (ps : List PV) (hl : List PO) : spB1.h f ps hl = Pm.Spec.h ((spIn.one 34 gMod).one 37 gAbs) f ps hl := rfl
@[go_sem] theorem spB1_fz (f : FuncId) : spB1.fz f = Pm.Spec.fz ((spIn.one 34 gMod).one 37 gAbs) f := rfl
@[go_sem] theorem spB1_fr (f : FuncId) : spB1.fr f = Pm.Spec.fr ((spIn.one 34 gMod).one 37 gAbs) f := rfl
@[go_sem] theorem spB1_mu (t : TypeId) : spB1.mu t = Pm.Spec.mu ((spIn.one 34 gMod).one 37 gAbs) t := rfl
theorem spB1_ok : SpecOk Tryd.prog spB1 := Spec.one_ok gAbs_ok (Spec.one_ok gMod_ok spIn_ok)
/-- Numbers whose sums and differences fit. -/
def Mid (n : Int) : Prop := -4000000000000000000 ≤ n ∧ n ≤ 4000000000000000000
theorem tdiv_floor {a b : Int} (h : 0 < b) : (a - a % b).tdiv b = a / b := by
  have h1 : a - a % b = b * (a / b) := by have := Int.mul_ediv_add_emod a b; omega
  rw [h1, Int.mul_tdiv_cancel_left _ (by omega)]
theorem div_mid {a b : Int} (ha : Mid a) (h : 0 < b) : Mid (a / b) ∨ False := by
  refine .inl ⟨?_, ?_⟩
  · have := Int.ediv_le_ediv h ha.1
    rcases Int.lt_or_le a 0 with h0 | h0
    · have h2 : a ≤ a / b := by
        rw [Int.le_ediv_iff_mul_le h]
        have : a * b ≤ a * 1 := Int.mul_le_mul_of_nonpos_left (by omega) (by omega)
        omega
      have := ha.1; omega
    · have := Int.ediv_nonneg h0 (by omega : 0 ≤ b); omega
  · rcases Int.lt_or_le a 0 with h0 | h0
    · have : a / b < 0 := Int.ediv_neg_of_neg_of_pos h0 h
      omega
    · have := Int.ediv_le_self b h0; have := ha.2; omega
theorem Down_c (a b : Int) (ha : Mid a) (hb : 0 < b) (hb2 : Mid b) : PCalls Tryd.prog 36 [.int .i64 a, .int .i64 b] (.int .i64 (a / b)) := by
  refine pcalls_by Tryd.mixes spB1_ok (fn := Tryd.f36) Tryd.func36 rfl (by kernel_rfl) (by show 2 ≤ _; decide) ?_
  have hne : ¬ b = 0 := by omega
  have e1 := Int.emod_nonneg a hne
  have e2 := Int.emod_lt_of_pos a hb
  have hbd : b ≤ 9223372036854775807 := by have := hb2.2; omega
  have hd := (div_mid ha hb).resolve_right id
  simp (decide := true) (maxSteps := 4000000) only [go_sem, Nat.reduceAdd, Nat.reduceSub, Nat.reduceMul, Nat.reduceDiv, Nat.reduceMod, Nat.reduceLT, Nat.reduceLeDiff, Nat.reduceEqDiff, Nat.reduceBEq, Nat.reduceBNe, Nat.reduceGT, Int.reduceAdd, Int.reduceSub, Int.reduceMul, Int.reduceNeg, Int.reduceLT, Int.reduceLE, Int.reduceEq, Int.reduceNe, Int.reduceBEq, Int.reduceBNe, Int.reduceToNat, Int.reduceGT, Int.reduceGE, ↓reduceIte, decide_true, decide_false, Tryd.f36, spB1, spIn, gMod, hb, hbd, hne]
  rw [wrap_in (n := a - a % b) (by have := ha.1; have := hb2.2; omega) (by have := ha.2; omega), tdiv_floor hb, wrap_in (by have := hd.1; omega) (by have := hd.2; omega)]
def gDown : List TV → Option TV
  | [.int .i64 a, .int .i64 b] => if (-4000000000000000000 ≤ a ∧ a ≤ 4000000000000000000) ∧ 0 < b ∧ b ≤ 4000000000000000000 then some (.int .i64 (a / b)) else none
  | _ => none
theorem gDown_ok : ∀ xs r, gDown xs = some r → PCalls Tryd.prog 36 xs r := by
  intro xs r h
  unfold gDown at h
  split at h
  · split at h
    · rename_i hc; cases h; exact Down_c _ _ hc.1 hc.2.1 ⟨by omega, hc.2.2⟩
    · cases h
  · cases h
def spB2 : Pm.Spec := spB1.one 36 gDown
attribute [go_sem] gDown
@[go_sem] theorem spB2_p (f : FuncId) (xs : List TV) : spB2.p f xs = Pm.Spec.p (spB1.one 36 gDown) f xs := rfl
@[go_sem] theorem spB2_h (f : FuncId) (ps : List PV) (hl : List PO) : spB2.h f ps hl = Pm.Spec.h (spB1.one 36 gDown) f ps hl := rfl
@[go_sem] theorem spB2_fz (f : FuncId) : spB2.fz f = Pm.Spec.fz (spB1.one 36 gDown) f := rfl
@[go_sem] theorem spB2_fr (f : FuncId) : spB2.fr f = Pm.Spec.fr (spB1.one 36 gDown) f := rfl
@[go_sem] theorem spB2_mu (t : TypeId) : spB2.mu t = Pm.Spec.mu (spB1.one 36 gDown) t := rfl
theorem spB2_ok : SpecOk Tryd.prog spB2 := Spec.one_ok gDown_ok spB1_ok
theorem Up_c (a b : Int) (ha : Mid a) (hb : 0 < b) (hb2 : Mid b) : PCalls Tryd.prog 64 [.int .i64 a, .int .i64 b] (.int .i64 (-((-a) / b))) := by
  refine pcalls_by Tryd.mixes spB2_ok (fn := Tryd.f64) Tryd.func64 rfl (by kernel_rfl) (by show 2 ≤ _; decide) ?_
  have hna : IntKind.i64.wrap (0 - a) = -a := by rw [wrap_in (by have := ha.2; omega) (by have := ha.1; omega)]; omega
  have hm : Mid (-a) := ⟨by have := ha.2; omega, by have := ha.1; omega⟩
  have hd := (div_mid hm hb).resolve_right id
  have hc : ((-4000000000000000000 ≤ -a ∧ -a ≤ 4000000000000000000) ∧ 0 < b ∧ b ≤ 4000000000000000000) := ⟨hm, hb, hb2.2⟩
  simp (decide := true) (maxSteps := 4000000) only [go_sem, Nat.reduceAdd, Nat.reduceSub, Nat.reduceMul, Nat.reduceDiv, Nat.reduceMod, Nat.reduceLT, Nat.reduceLeDiff, Nat.reduceEqDiff, Nat.reduceBEq, Nat.reduceBNe, Nat.reduceGT, Int.reduceAdd, Int.reduceSub, Int.reduceMul, Int.reduceNeg, Int.reduceLT, Int.reduceLE, Int.reduceEq, Int.reduceNe, Int.reduceBEq, Int.reduceBNe, Int.reduceToNat, Int.reduceGT, Int.reduceGE, ↓reduceIte, decide_true, decide_false, Tryd.f64, spB2, gDown, hna, if_pos hc]
  rw [wrap_in (by have := hd.2; omega) (by have := hd.1; omega)]; omega
def gUp : List TV → Option TV
  | [.int .i64 a, .int .i64 b] => if (-4000000000000000000 ≤ a ∧ a ≤ 4000000000000000000) ∧ 0 < b ∧ b ≤ 4000000000000000000 then some (.int .i64 (-((-a) / b))) else none
  | _ => none
theorem gUp_ok : ∀ xs r, gUp xs = some r → PCalls Tryd.prog 64 xs r := by
  intro xs r h
  unfold gUp at h
  split at h
  · split at h
    · rename_i hc; cases h; exact Up_c _ _ hc.1 hc.2.1 ⟨by omega, hc.2.2⟩
    · cases h
  · cases h
theorem Chosen_c (lo hi n : Int) (h1 : In64 lo) (h2 : In64 hi) : PCalls Tryd.prog 35 [.int .i64 lo, .int .i64 hi, .int .i64 n] (.int .i64 (chosen lo hi n)) := by
  refine pcalls_by Tryd.mixes spB1_ok (fn := Tryd.f35) Tryd.func35 rfl (by kernel_rfl) (by show 3 ≤ _; decide) ?_
  obtain ⟨a1, a2⟩ := h1
  obtain ⟨b1, b2⟩ := h2
  unfold chosen
  by_cases hge : lo ≥ hi
  · simp (decide := true) (maxSteps := 4000000) only [go_sem, Nat.reduceAdd, Nat.reduceSub, Nat.reduceMul, Nat.reduceDiv, Nat.reduceMod, Nat.reduceLT, Nat.reduceLeDiff, Nat.reduceEqDiff, Nat.reduceBEq, Nat.reduceBNe, Nat.reduceGT, Int.reduceAdd, Int.reduceSub, Int.reduceMul, Int.reduceNeg, Int.reduceLT, Int.reduceLE, Int.reduceEq, Int.reduceNe, Int.reduceBEq, Int.reduceBNe, Int.reduceToNat, Int.reduceGT, Int.reduceGE, ↓reduceIte, decide_true, decide_false, Tryd.f35, hge]
  · by_cases hbig : 9223372036854775807 < hi - lo + 1
    · have e : IntKind.i64.wrap (IntKind.i64.wrap (hi - lo) + 1) < 1 := by simp only [IntKind.wrap_i64]; omega
      simp (decide := true) (maxSteps := 4000000) only [go_sem, Nat.reduceAdd, Nat.reduceSub, Nat.reduceMul, Nat.reduceDiv, Nat.reduceMod, Nat.reduceLT, Nat.reduceLeDiff, Nat.reduceEqDiff, Nat.reduceBEq, Nat.reduceBNe, Nat.reduceGT, Int.reduceAdd, Int.reduceSub, Int.reduceMul, Int.reduceNeg, Int.reduceLT, Int.reduceLE, Int.reduceEq, Int.reduceNe, Int.reduceBEq, Int.reduceBNe, Int.reduceToNat, Int.reduceGT, Int.reduceGE, ↓reduceIte, decide_true, decide_false, Tryd.f35, hge, e, hbig]
    · have e : IntKind.i64.wrap (IntKind.i64.wrap (hi - lo) + 1) = hi - lo + 1 := by rw [wrap_in (n := hi - lo) (by omega) (by omega), wrap_in (by omega) (by omega)]
      have e2 : ¬ hi - lo + 1 < 1 := by omega
      have e3 : 0 < hi - lo + 1 ∧ hi - lo + 1 ≤ 9223372036854775807 := by omega
      have m1 := Int.emod_nonneg n (show hi - lo + 1 ≠ 0 by omega)
      have m2 := Int.emod_lt_of_pos n (show 0 < hi - lo + 1 by omega)
      simp (decide := true) (maxSteps := 4000000) only [go_sem, Nat.reduceAdd, Nat.reduceSub, Nat.reduceMul, Nat.reduceDiv, Nat.reduceMod, Nat.reduceLT, Nat.reduceLeDiff, Nat.reduceEqDiff, Nat.reduceBEq, Nat.reduceBNe, Nat.reduceGT, Int.reduceAdd, Int.reduceSub, Int.reduceMul, Int.reduceNeg, Int.reduceLT, Int.reduceLE, Int.reduceEq, Int.reduceNe, Int.reduceBEq, Int.reduceBNe, Int.reduceToNat, Int.reduceGT, Int.reduceGE, ↓reduceIte, decide_true, decide_false, Tryd.f35, hge, hbig, e, e2, spB1, spIn, gMod, if_pos e3]
      rw [wrap_in (by omega) (by omega)]
def gChosen : List TV → Option TV
  | [.int .i64 a, .int .i64 b, .int .i64 n] => if (-9223372036854775808 ≤ a ∧ a ≤ 9223372036854775807) ∧ -9223372036854775808 ≤ b ∧ b ≤ 9223372036854775807 then some (.int .i64 (chosen a b n)) else none
  | _ => none
theorem gChosen_ok : ∀ xs r, gChosen xs = some r → PCalls Tryd.prog 35 xs r := by
  intro xs r h
  unfold gChosen at h
  split at h
  · split at h
    · rename_i hc; cases h; exact Chosen_c _ _ _ hc.1 hc.2
    · cases h
  · cases h
theorem Before_c (a b : List Int) (fa fb : Bool) (ha : a.length ≤ 9223372036854775806) (hb : b.length ≤ 9223372036854775806) : PCalls Tryd.prog 38 [.sl (ints a) a.length fa, .sl (ints b) b.length fb] (.bool (before a b)) := by
  refine pcalls_by Tryd.mixes noSpec_ok (fn := Tryd.f38) Tryd.func38 rfl (by kernel_rfl) (by show 2 ≤ _; decide) ?_
  simp (decide := true) (maxSteps := 4000000) only [go_sem, Nat.reduceAdd, Nat.reduceSub, Nat.reduceMul, Nat.reduceDiv, Nat.reduceMod, Nat.reduceLT, Nat.reduceLeDiff, Nat.reduceEqDiff, Nat.reduceBEq, Nat.reduceBNe, Nat.reduceGT, Int.reduceAdd, Int.reduceSub, Int.reduceMul, Int.reduceNeg, Int.reduceLT, Int.reduceLE, Int.reduceEq, Int.reduceNe, Int.reduceBEq, Int.reduceBNe, Int.reduceToNat, Int.reduceGT, Int.reduceGE, ↓reduceIte, decide_true, decide_false, eq_self, Nat.mul_one, Nat.zero_mul, Nat.one_mul, Int.le_refl, Nat.le_refl, Int.cast_ofNat_Int, Tryd.f38]
  refine pwpC_loopU (A := { k : Nat // k ≤ min a.length b.length ∧ before a b = before (a.drop k) (b.drop k) }) [0, 1] (fun k => [(5, .t (.int .i64 k.1))]) (fun k => []) (fun k => min a.length b.length - k.1) ⟨0, by omega, rfl⟩ (by decide) (fun _ => by rfl) ?_ fun Q1 hQ1 ⟨k, hk, hbf⟩ I1 hI1 => ?_
  · simp (decide := true) (maxSteps := 4000000) only [go_sem, Nat.reduceAdd, Nat.reduceSub, Nat.reduceMul, Nat.reduceDiv, Nat.reduceMod, Nat.reduceLT, Nat.reduceLeDiff, Nat.reduceEqDiff, Nat.reduceBEq, Nat.reduceBNe, Nat.reduceGT, Int.reduceAdd, Int.reduceSub, Int.reduceMul, Int.reduceNeg, Int.reduceLT, Int.reduceLE, Int.reduceEq, Int.reduceNe, Int.reduceBEq, Int.reduceBNe, Int.reduceToNat, Int.reduceGT, Int.reduceGE, ↓reduceIte, decide_true, decide_false, eq_self, Nat.mul_one, Nat.zero_mul, Nat.one_mul, Int.le_refl, Nat.le_refl, Int.cast_ofNat_Int]
  · by_cases hlt : (k : Int) < min (a.length : Int) b.length
    · have hc1 : IntKind.i64.wrap (k + 1) = ((k + 1 : Nat) : Int) := by rw [wrap_in (by omega) (by omega)]; omega
      have hka : (k : Int) < a.length := by omega
      have hkb : (k : Int) < b.length := by omega
      obtain ⟨x, hx⟩ := get_lt hka
      obtain ⟨y, hy⟩ := get_lt hkb
      have da : a.drop k = x :: a.drop (k + 1) := by rw [List.drop_eq_getElem_cons (by omega)]; rw [List.getElem?_eq_getElem (by omega)] at hx; cases hx; rfl
      have db : b.drop k = y :: b.drop (k + 1) := by rw [List.drop_eq_getElem_cons (by omega)]; rw [List.getElem?_eq_getElem (by omega)] at hy; cases hy; rfl
      have ia := ints_at hx
      have ib := ints_at hy
      rw [Nat.mul_one] at ia ib
      rw [da, db] at hbf
      simp only [before] at hbf
      by_cases h1 : x < y
      · rw [if_pos h1] at hbf
        simp (decide := true) (maxSteps := 4000000) only [go_sem, Nat.reduceAdd, Nat.reduceSub, Nat.reduceMul, Nat.reduceDiv, Nat.reduceMod, Nat.reduceLT, Nat.reduceLeDiff, Nat.reduceEqDiff, Nat.reduceBEq, Nat.reduceBNe, Nat.reduceGT, Int.reduceAdd, Int.reduceSub, Int.reduceMul, Int.reduceNeg, Int.reduceLT, Int.reduceLE, Int.reduceEq, Int.reduceNe, Int.reduceBEq, Int.reduceBNe, Int.reduceToNat, Int.reduceGT, Int.reduceGE, ↓reduceIte, decide_true, decide_false, eq_self, Nat.mul_one, Nat.zero_mul, Nat.one_mul, Int.le_refl, Nat.le_refl, Int.cast_ofNat_Int, hlt, hka, hkb, ia, ib, h1, hbf]
        try (refine hQ1 _ _ ?_; simp (decide := true) (maxSteps := 4000000) only [go_sem, Nat.reduceAdd, Nat.reduceSub, Nat.reduceMul, Nat.reduceDiv, Nat.reduceMod, Nat.reduceLT, Nat.reduceLeDiff, Nat.reduceEqDiff, Nat.reduceBEq, Nat.reduceBNe, Nat.reduceGT, Int.reduceAdd, Int.reduceSub, Int.reduceMul, Int.reduceNeg, Int.reduceLT, Int.reduceLE, Int.reduceEq, Int.reduceNe, Int.reduceBEq, Int.reduceBNe, Int.reduceToNat, Int.reduceGT, Int.reduceGE, ↓reduceIte, decide_true, decide_false, eq_self, Nat.mul_one, Nat.zero_mul, Nat.one_mul, Int.le_refl, Nat.le_refl, Int.cast_ofNat_Int, hbf])
      · rw [if_neg h1] at hbf
        by_cases h2 : y < x
        · rw [if_pos h2] at hbf
          have h2' : x > y := h2
          simp (decide := true) (maxSteps := 4000000) only [go_sem, Nat.reduceAdd, Nat.reduceSub, Nat.reduceMul, Nat.reduceDiv, Nat.reduceMod, Nat.reduceLT, Nat.reduceLeDiff, Nat.reduceEqDiff, Nat.reduceBEq, Nat.reduceBNe, Nat.reduceGT, Int.reduceAdd, Int.reduceSub, Int.reduceMul, Int.reduceNeg, Int.reduceLT, Int.reduceLE, Int.reduceEq, Int.reduceNe, Int.reduceBEq, Int.reduceBNe, Int.reduceToNat, Int.reduceGT, Int.reduceGE, ↓reduceIte, decide_true, decide_false, eq_self, Nat.mul_one, Nat.zero_mul, Nat.one_mul, Int.le_refl, Nat.le_refl, Int.cast_ofNat_Int, hlt, hka, hkb, ia, ib, h1, h2', hbf]
          try (refine hQ1 _ _ ?_; simp (decide := true) (maxSteps := 4000000) only [go_sem, Nat.reduceAdd, Nat.reduceSub, Nat.reduceMul, Nat.reduceDiv, Nat.reduceMod, Nat.reduceLT, Nat.reduceLeDiff, Nat.reduceEqDiff, Nat.reduceBEq, Nat.reduceBNe, Nat.reduceGT, Int.reduceAdd, Int.reduceSub, Int.reduceMul, Int.reduceNeg, Int.reduceLT, Int.reduceLE, Int.reduceEq, Int.reduceNe, Int.reduceBEq, Int.reduceBNe, Int.reduceToNat, Int.reduceGT, Int.reduceGE, ↓reduceIte, decide_true, decide_false, eq_self, Nat.mul_one, Nat.zero_mul, Nat.one_mul, Int.le_refl, Nat.le_refl, Int.cast_ofNat_Int, hbf])
        · rw [if_neg h2] at hbf
          have h2' : ¬ x > y := h2
          simp (decide := true) (maxSteps := 4000000) only [go_sem, Nat.reduceAdd, Nat.reduceSub, Nat.reduceMul, Nat.reduceDiv, Nat.reduceMod, Nat.reduceLT, Nat.reduceLeDiff, Nat.reduceEqDiff, Nat.reduceBEq, Nat.reduceBNe, Nat.reduceGT, Int.reduceAdd, Int.reduceSub, Int.reduceMul, Int.reduceNeg, Int.reduceLT, Int.reduceLE, Int.reduceEq, Int.reduceNe, Int.reduceBEq, Int.reduceBNe, Int.reduceToNat, Int.reduceGT, Int.reduceGE, ↓reduceIte, decide_true, decide_false, eq_self, Nat.mul_one, Nat.zero_mul, Nat.one_mul, Int.le_refl, Nat.le_refl, Int.cast_ofNat_Int, hlt, hka, hkb, ia, ib, h1, h2']
          refine hI1 _ ⟨k + 1, by omega, hbf⟩ (by simp only; omega) ?_
          simp (decide := true) (maxSteps := 4000000) only [go_sem, Nat.reduceAdd, Nat.reduceSub, Nat.reduceMul, Nat.reduceDiv, Nat.reduceMod, Nat.reduceLT, Nat.reduceLeDiff, Nat.reduceEqDiff, Nat.reduceBEq, Nat.reduceBNe, Nat.reduceGT, Int.reduceAdd, Int.reduceSub, Int.reduceMul, Int.reduceNeg, Int.reduceLT, Int.reduceLE, Int.reduceEq, Int.reduceNe, Int.reduceBEq, Int.reduceBNe, Int.reduceToNat, Int.reduceGT, Int.reduceGE, ↓reduceIte, decide_true, decide_false, eq_self, Nat.mul_one, Nat.zero_mul, Nat.one_mul, Int.le_refl, Nat.le_refl, Int.cast_ofNat_Int, hc1]
    · simp (decide := true) (maxSteps := 4000000) only [go_sem, Nat.reduceAdd, Nat.reduceSub, Nat.reduceMul, Nat.reduceDiv, Nat.reduceMod, Nat.reduceLT, Nat.reduceLeDiff, Nat.reduceEqDiff, Nat.reduceBEq, Nat.reduceBNe, Nat.reduceGT, Int.reduceAdd, Int.reduceSub, Int.reduceMul, Int.reduceNeg, Int.reduceLT, Int.reduceLE, Int.reduceEq, Int.reduceNe, Int.reduceBEq, Int.reduceBNe, Int.reduceToNat, Int.reduceGT, Int.reduceGE, ↓reduceIte, decide_true, decide_false, eq_self, Nat.mul_one, Nat.zero_mul, Nat.one_mul, Int.le_refl, Nat.le_refl, Int.cast_ofNat_Int, hlt]
      refine hQ1 _ _ ?_
      have e : before a b = decide ((a.length : Int) < b.length) := by
        rw [hbf, before_end]
        · simp only [List.length_drop]
          rw [decide_eq_decide]
          omega
        · rcases Nat.le_total a.length b.length with h | h
          · exact .inl (List.drop_eq_nil_of_le (by omega))
          · exact .inr (List.drop_eq_nil_of_le (by omega))
      simp (decide := true) (maxSteps := 4000000) only [go_sem, Nat.reduceAdd, Nat.reduceSub, Nat.reduceMul, Nat.reduceDiv, Nat.reduceMod, Nat.reduceLT, Nat.reduceLeDiff, Nat.reduceEqDiff, Nat.reduceBEq, Nat.reduceBNe, Nat.reduceGT, Int.reduceAdd, Int.reduceSub, Int.reduceMul, Int.reduceNeg, Int.reduceLT, Int.reduceLE, Int.reduceEq, Int.reduceNe, Int.reduceBEq, Int.reduceBNe, Int.reduceToNat, Int.reduceGT, Int.reduceGE, ↓reduceIte, decide_true, decide_false, eq_self, Nat.mul_one, Nat.zero_mul, Nat.one_mul, Int.le_refl, Nat.le_refl, Int.cast_ofNat_Int, e]
noncomputable def gBefore : List TV → Option TV
  | [.sl cs n f, .sl cs' n' f'] => match unI cs, unI cs' with
    | some a, some b => if n = a.length ∧ n' = b.length ∧ a.length ≤ 62 ∧ b.length ≤ 62 then some (.bool (before a b)) else none
    | _, _ => none
  | _ => none
theorem gBefore_ok : ∀ xs r, gBefore xs = some r → PCalls Tryd.prog 38 xs r := by
  intro xs r h
  unfold gBefore at h
  split at h
  · split at h
    · rename_i a b ha hb
      split at h
      · rename_i hc; cases h
        have e1 := unI_some ha
        have e2 := unI_some hb
        rw [ic_ints] at e1 e2
        obtain ⟨rfl, rfl, h1, h2⟩ := hc
        rw [e1, e2]
        exact Before_c a b _ _ (by omega) (by omega)
      · cases h
    · cases h
  · cases h
theorem Same_c {a b : List Int} {s t : TV} (hs : IsRow ic s a) (ht : IsRow ic t b) (ha : a.length ≤ 9223372036854775806) : PCalls Tryd.prog 24 [s, t] (.bool (decide (a = b))) := by
  refine pcalls_by Tryd.mixes noSpec_ok (fn := Tryd.f24) Tryd.func24 rfl (by kernel_rfl) (by show 2 ≤ _; decide) ?_
  by_cases hl : a.length = b.length
  · by_cases h0 : a.length = 0
    · have ea : a = [] := List.length_eq_zero_iff.1 h0
      have eb : b = [] := List.length_eq_zero_iff.1 (by omega)
      subst ea; subst eb
      rcases hs with ⟨rfl, _⟩ | ⟨f1, rfl⟩ <;> rcases ht with ⟨rfl, _⟩ | ⟨f2, rfl⟩
      all_goals
        simp (decide := true) (maxSteps := 4000000) only [go_sem, Nat.reduceAdd, Nat.reduceSub, Nat.reduceMul, Nat.reduceDiv, Nat.reduceMod, Nat.reduceLT, Nat.reduceLeDiff, Nat.reduceEqDiff, Nat.reduceBEq, Nat.reduceBNe, Nat.reduceGT, Int.reduceAdd, Int.reduceSub, Int.reduceMul, Int.reduceNeg, Int.reduceLT, Int.reduceLE, Int.reduceEq, Int.reduceNe, Int.reduceBEq, Int.reduceBNe, Int.reduceToNat, Int.reduceGT, Int.reduceGE, ↓reduceIte, decide_true, decide_false, eq_self, Nat.mul_one, Nat.zero_mul, Nat.one_mul, Int.le_refl, Nat.le_refl, Int.cast_ofNat_Int, Tryd.f24, List.length_nil, bne_self_eq_false]
        refine pwpC_loopU (A := Unit) [0, 1] (fun _ => [(5, .t (.int .i64 0))]) (fun _ => []) (fun _ => 0) () (by decide) (fun _ => by rfl) ?_ fun Q1 hQ1 _ I1 hI1 => ?_
        · simp (decide := true) (maxSteps := 4000000) only [go_sem, Nat.reduceAdd, Nat.reduceSub, Nat.reduceMul, Nat.reduceDiv, Nat.reduceMod, Nat.reduceLT, Nat.reduceLeDiff, Nat.reduceEqDiff, Nat.reduceBEq, Nat.reduceBNe, Nat.reduceGT, Int.reduceAdd, Int.reduceSub, Int.reduceMul, Int.reduceNeg, Int.reduceLT, Int.reduceLE, Int.reduceEq, Int.reduceNe, Int.reduceBEq, Int.reduceBNe, Int.reduceToNat, Int.reduceGT, Int.reduceGE, ↓reduceIte, decide_true, decide_false, eq_self, Nat.mul_one, Nat.zero_mul, Nat.one_mul, Int.le_refl, Nat.le_refl, Int.cast_ofNat_Int]
        · simp (decide := true) (maxSteps := 4000000) only [go_sem, Nat.reduceAdd, Nat.reduceSub, Nat.reduceMul, Nat.reduceDiv, Nat.reduceMod, Nat.reduceLT, Nat.reduceLeDiff, Nat.reduceEqDiff, Nat.reduceBEq, Nat.reduceBNe, Nat.reduceGT, Int.reduceAdd, Int.reduceSub, Int.reduceMul, Int.reduceNeg, Int.reduceLT, Int.reduceLE, Int.reduceEq, Int.reduceNe, Int.reduceBEq, Int.reduceBNe, Int.reduceToNat, Int.reduceGT, Int.reduceGE, ↓reduceIte, decide_true, decide_false, eq_self, Nat.mul_one, Nat.zero_mul, Nat.one_mul, Int.le_refl, Nat.le_refl, Int.cast_ofNat_Int, List.length_nil]
          refine hQ1 _ _ ?_
          simp (decide := true) (maxSteps := 4000000) only [go_sem, Nat.reduceAdd, Nat.reduceSub, Nat.reduceMul, Nat.reduceDiv, Nat.reduceMod, Nat.reduceLT, Nat.reduceLeDiff, Nat.reduceEqDiff, Nat.reduceBEq, Nat.reduceBNe, Nat.reduceGT, Int.reduceAdd, Int.reduceSub, Int.reduceMul, Int.reduceNeg, Int.reduceLT, Int.reduceLE, Int.reduceEq, Int.reduceNe, Int.reduceBEq, Int.reduceBNe, Int.reduceToNat, Int.reduceGT, Int.reduceGE, ↓reduceIte, decide_true, decide_false, eq_self, Nat.mul_one, Nat.zero_mul, Nat.one_mul, Int.le_refl, Nat.le_refl, Int.cast_ofNat_Int]
    · obtain ⟨f1, rfl⟩ := hs.ne (by omega)
      obtain ⟨f2, rfl⟩ := ht.ne (by omega)
      rw [ic_ints, ic_ints]
      have hl' : ((a.length : Int) != (b.length : Int)) = false := bne_int_f (by omega)
      simp (decide := true) (maxSteps := 4000000) only [go_sem, Nat.reduceAdd, Nat.reduceSub, Nat.reduceMul, Nat.reduceDiv, Nat.reduceMod, Nat.reduceLT, Nat.reduceLeDiff, Nat.reduceEqDiff, Nat.reduceBEq, Nat.reduceBNe, Nat.reduceGT, Int.reduceAdd, Int.reduceSub, Int.reduceMul, Int.reduceNeg, Int.reduceLT, Int.reduceLE, Int.reduceEq, Int.reduceNe, Int.reduceBEq, Int.reduceBNe, Int.reduceToNat, Int.reduceGT, Int.reduceGE, ↓reduceIte, decide_true, decide_false, eq_self, Nat.mul_one, Nat.zero_mul, Nat.one_mul, Int.le_refl, Nat.le_refl, Int.cast_ofNat_Int, Tryd.f24, hl']
      refine pwpC_loopU (A := { k : Nat // a.take k = b.take k ∧ k ≤ a.length }) [0, 1] (fun k => [(5, .t (.int .i64 k.1))]) (fun k => []) (fun k => a.length - k.1) ⟨0, by simp⟩ (by decide) (fun _ => by rfl) ?_ fun Q1 hQ1 ⟨k, hk, hka⟩ I1 hI1 => ?_
      · simp (decide := true) (maxSteps := 4000000) only [go_sem, Nat.reduceAdd, Nat.reduceSub, Nat.reduceMul, Nat.reduceDiv, Nat.reduceMod, Nat.reduceLT, Nat.reduceLeDiff, Nat.reduceEqDiff, Nat.reduceBEq, Nat.reduceBNe, Nat.reduceGT, Int.reduceAdd, Int.reduceSub, Int.reduceMul, Int.reduceNeg, Int.reduceLT, Int.reduceLE, Int.reduceEq, Int.reduceNe, Int.reduceBEq, Int.reduceBNe, Int.reduceToNat, Int.reduceGT, Int.reduceGE, ↓reduceIte, decide_true, decide_false, eq_self, Nat.mul_one, Nat.zero_mul, Nat.one_mul, Int.le_refl, Nat.le_refl, Int.cast_ofNat_Int]
      · by_cases hlt : (k : Int) < a.length
        · have hltb : (k : Int) < b.length := by omega
          obtain ⟨x, hx⟩ := get_lt hlt
          obtain ⟨y, hy⟩ := get_lt hltb
          have d1 := ints_at hx
          have d2 := ints_at hy
          rw [Nat.mul_one] at d1 d2
          have hc1 : IntKind.i64.wrap (k + 1) = ((k + 1 : Nat) : Int) := by rw [wrap_in (by omega) (by omega)]; omega
          by_cases hxy : x = y
          · subst hxy
            simp (decide := true) (maxSteps := 4000000) only [go_sem, Nat.reduceAdd, Nat.reduceSub, Nat.reduceMul, Nat.reduceDiv, Nat.reduceMod, Nat.reduceLT, Nat.reduceLeDiff, Nat.reduceEqDiff, Nat.reduceBEq, Nat.reduceBNe, Nat.reduceGT, Int.reduceAdd, Int.reduceSub, Int.reduceMul, Int.reduceNeg, Int.reduceLT, Int.reduceLE, Int.reduceEq, Int.reduceNe, Int.reduceBEq, Int.reduceBNe, Int.reduceToNat, Int.reduceGT, Int.reduceGE, ↓reduceIte, decide_true, decide_false, eq_self, Nat.mul_one, Nat.zero_mul, Nat.one_mul, Int.le_refl, Nat.le_refl, Int.cast_ofNat_Int, hlt, hltb, d1, d2, bne_self_eq_false]
            refine hI1 _ ⟨k + 1, by rw [take_snoc hx, take_snoc hy, hk], by omega⟩ (by simp only; omega) ?_
            simp (decide := true) (maxSteps := 4000000) only [go_sem, Nat.reduceAdd, Nat.reduceSub, Nat.reduceMul, Nat.reduceDiv, Nat.reduceMod, Nat.reduceLT, Nat.reduceLeDiff, Nat.reduceEqDiff, Nat.reduceBEq, Nat.reduceBNe, Nat.reduceGT, Int.reduceAdd, Int.reduceSub, Int.reduceMul, Int.reduceNeg, Int.reduceLT, Int.reduceLE, Int.reduceEq, Int.reduceNe, Int.reduceBEq, Int.reduceBNe, Int.reduceToNat, Int.reduceGT, Int.reduceGE, ↓reduceIte, decide_true, decide_false, eq_self, Nat.mul_one, Nat.zero_mul, Nat.one_mul, Int.le_refl, Nat.le_refl, Int.cast_ofNat_Int, hc1]
          · have hb : (x != y) = true := bne_int_t hxy
            simp (decide := true) (maxSteps := 4000000) only [go_sem, Nat.reduceAdd, Nat.reduceSub, Nat.reduceMul, Nat.reduceDiv, Nat.reduceMod, Nat.reduceLT, Nat.reduceLeDiff, Nat.reduceEqDiff, Nat.reduceBEq, Nat.reduceBNe, Nat.reduceGT, Int.reduceAdd, Int.reduceSub, Int.reduceMul, Int.reduceNeg, Int.reduceLT, Int.reduceLE, Int.reduceEq, Int.reduceNe, Int.reduceBEq, Int.reduceBNe, Int.reduceToNat, Int.reduceGT, Int.reduceGE, ↓reduceIte, decide_true, decide_false, eq_self, Nat.mul_one, Nat.zero_mul, Nat.one_mul, Int.le_refl, Nat.le_refl, Int.cast_ofNat_Int, hlt, hltb, d1, d2, hb]
            refine hQ1 _ _ ?_
            have : decide (a = b) = false := by
              rw [decide_eq_false_iff_not]
              rintro rfl
              rw [hx] at hy; cases hy; exact hxy rfl
            simp (decide := true) (maxSteps := 4000000) only [go_sem, Nat.reduceAdd, Nat.reduceSub, Nat.reduceMul, Nat.reduceDiv, Nat.reduceMod, Nat.reduceLT, Nat.reduceLeDiff, Nat.reduceEqDiff, Nat.reduceBEq, Nat.reduceBNe, Nat.reduceGT, Int.reduceAdd, Int.reduceSub, Int.reduceMul, Int.reduceNeg, Int.reduceLT, Int.reduceLE, Int.reduceEq, Int.reduceNe, Int.reduceBEq, Int.reduceBNe, Int.reduceToNat, Int.reduceGT, Int.reduceGE, ↓reduceIte, decide_true, decide_false, eq_self, Nat.mul_one, Nat.zero_mul, Nat.one_mul, Int.le_refl, Nat.le_refl, Int.cast_ofNat_Int, this]
        · have hke : k = a.length := by omega
          subst hke
          simp (decide := true) (maxSteps := 4000000) only [go_sem, Nat.reduceAdd, Nat.reduceSub, Nat.reduceMul, Nat.reduceDiv, Nat.reduceMod, Nat.reduceLT, Nat.reduceLeDiff, Nat.reduceEqDiff, Nat.reduceBEq, Nat.reduceBNe, Nat.reduceGT, Int.reduceAdd, Int.reduceSub, Int.reduceMul, Int.reduceNeg, Int.reduceLT, Int.reduceLE, Int.reduceEq, Int.reduceNe, Int.reduceBEq, Int.reduceBNe, Int.reduceToNat, Int.reduceGT, Int.reduceGE, ↓reduceIte, decide_true, decide_false, eq_self, Nat.mul_one, Nat.zero_mul, Nat.one_mul, Int.le_refl, Nat.le_refl, Int.cast_ofNat_Int, hlt]
          refine hQ1 _ _ ?_
          have : decide (a = b) = true := by
            rw [decide_eq_true_eq]
            rwa [List.take_length, List.take_of_length_le (by omega)] at hk
          simp (decide := true) (maxSteps := 4000000) only [go_sem, Nat.reduceAdd, Nat.reduceSub, Nat.reduceMul, Nat.reduceDiv, Nat.reduceMod, Nat.reduceLT, Nat.reduceLeDiff, Nat.reduceEqDiff, Nat.reduceBEq, Nat.reduceBNe, Nat.reduceGT, Int.reduceAdd, Int.reduceSub, Int.reduceMul, Int.reduceNeg, Int.reduceLT, Int.reduceLE, Int.reduceEq, Int.reduceNe, Int.reduceBEq, Int.reduceBNe, Int.reduceToNat, Int.reduceGT, Int.reduceGE, ↓reduceIte, decide_true, decide_false, eq_self, Nat.mul_one, Nat.zero_mul, Nat.one_mul, Int.le_refl, Nat.le_refl, Int.cast_ofNat_Int, this]
  · have hl' : ((a.length : Int) != (b.length : Int)) = true := bne_int_t (by omega)
    have hd : decide (a = b) = false := by
      rw [decide_eq_false_iff_not]
      rintro rfl; exact hl rfl
    rcases hs with ⟨rfl, rfl⟩ | ⟨f1, rfl⟩ <;> rcases ht with ⟨rfl, rfl⟩ | ⟨f2, rfl⟩
    · exact absurd rfl hl
    all_goals
      try simp only [List.length_nil, Int.cast_ofNat_Int] at hl'
      simp (decide := true) (maxSteps := 4000000) only [go_sem, Nat.reduceAdd, Nat.reduceSub, Nat.reduceMul, Nat.reduceDiv, Nat.reduceMod, Nat.reduceLT, Nat.reduceLeDiff, Nat.reduceEqDiff, Nat.reduceBEq, Nat.reduceBNe, Nat.reduceGT, Int.reduceAdd, Int.reduceSub, Int.reduceMul, Int.reduceNeg, Int.reduceLT, Int.reduceLE, Int.reduceEq, Int.reduceNe, Int.reduceBEq, Int.reduceBNe, Int.reduceToNat, Int.reduceGT, Int.reduceGE, ↓reduceIte, decide_true, decide_false, eq_self, Nat.mul_one, Nat.zero_mul, Nat.one_mul, Int.le_refl, Nat.le_refl, Int.cast_ofNat_Int, Tryd.f24, hl', hd]
noncomputable def gSame : List TV → Option TV
  | [s, t] => match rowL unI s, rowL unI t with
    | some a, some b => if a.length ≤ 9223372036854775806 then some (.bool (decide (a = b))) else none
    | _, _ => none
  | _ => none
theorem gSame_ok : ∀ xs r, gSame xs = some r → PCalls Tryd.prog 24 xs r := by
  intro xs r h
  unfold gSame at h
  split at h
  · split at h
    · rename_i a b ha hb
      split at h
      · rename_i hc; cases h
        exact Same_c (rowL_some (un := unI) rfl (@unI_some) ha) (rowL_some (un := unI) rfl (@unI_some) hb) hc
      · cases h
    · cases h
  · cases h
noncomputable def spB3 : Pm.Spec := (((spB2.one 64 gUp).one 35 gChosen).one 38 gBefore).one 24 gSame
attribute [go_sem] gUp gChosen gBefore gSame
@[go_sem] theorem spB3_p (f : FuncId) (xs : List TV) : spB3.p f xs = Pm.Spec.p ((((spB2.one 64 gUp).one 35 gChosen).one 38 gBefore).one 24 gSame) f xs := rfl
@[go_sem] theorem spB3_h (f : FuncId) (ps : List PV) (hl : List PO) : spB3.h f ps hl = Pm.Spec.h ((((spB2.one 64 gUp).one 35 gChosen).one 38 gBefore).one 24 gSame) f ps hl := rfl
@[go_sem] theorem spB3_fz (f : FuncId) : spB3.fz f = Pm.Spec.fz ((((spB2.one 64 gUp).one 35 gChosen).one 38 gBefore).one 24 gSame) f := rfl
@[go_sem] theorem spB3_fr (f : FuncId) : spB3.fr f = Pm.Spec.fr ((((spB2.one 64 gUp).one 35 gChosen).one 38 gBefore).one 24 gSame) f := rfl
@[go_sem] theorem spB3_mu (t : TypeId) : spB3.mu t = Pm.Spec.mu ((((spB2.one 64 gUp).one 35 gChosen).one 38 gBefore).one 24 gSame) t := rfl
theorem spB3_ok : SpecOk Tryd.prog spB3 := Spec.one_ok gSame_ok (Spec.one_ok gBefore_ok (Spec.one_ok gChosen_ok (Spec.one_ok gUp_ok spB2_ok)))
end Go.Proofs.YtnoahnbjdapieaaDoor

/- Part Ia. -/
namespace Go.Proofs.YtnoahnbjdapieaaDoor
open Go.RowKit Go.Pm Go.Oc
set_option maxRecDepth 100000
set_option linter.unusedVariables false

theorem slice_cells {k : Nat} {t e : TypeId} {cs : List TV} (hu : Program.underlying Tryd.prog t = some (.slice e)) (h : cellsOk Tryd.prog (k + 1) t cs) : ∃ x, cs = [x] ∧ cellsOk Tryd.prog (k + 1) t [x] := by
  have h' := h
  unfold cellsOk at h'
  rw [hu] at h'
  rcases h' with h' | ⟨rows, full, h', _⟩
  · exact ⟨_, h', by rw [← h']; exact h⟩
  · exact ⟨_, h', by rw [← h']; exact h⟩
theorem int_cells {k : Nat} {cs : List TV} (h : cellsOk Tryd.prog (k + 1) 3 cs) : ∃ n, cs = [.int .i64 n] ∧ In64 n := cellsOk_i64 (by kernel_rfl) h
theorem ints_cells {x : TV} {k : Nat} (h : cellsOk Tryd.prog (k + 2) 22 [x]) : ∃ l : List Int, IsRow ic x l ∧ l.length ≤ 17592186044415 ∧ ∀ n ∈ l, In64 n := by
  obtain ⟨l, h1, h2, h3, _⟩ := cellsOk_row (e := 3) (c := ic) (p := fun n => In64 n) (by kernel_rfl) (fun cs hc => int_cells hc) h
  rw [show Program.bytesOf Tryd.prog 3 = 8 by kernel_rfl] at h3
  unfold reachBytes at h3
  exact ⟨l, h1, by omega, h2⟩
theorem headArg {x : TV} (h : argOk Tryd.prog 24 x) : ∃ (t : Int) (l : List Int) (s : TV), x = .agg [.int .i64 t, s] ∧ IsRow ic s l ∧ l.length ≤ 17592186044415 ∧ In64 t ∧ ∀ n ∈ l, In64 n := by
  obtain ⟨cs, rfl, h'⟩ := argOk_agg (ts := [3, 22]) (by kernel_rfl) h
  have h := cellsOk_tys (ts := [3, 22]) (by kernel_rfl) h'
  obtain ⟨_, r, rfl, h1, h⟩ := seqOk_cons h
  obtain ⟨_, r, rfl, h2, h⟩ := seqOk_cons h
  cases seqOk_nil h
  obtain ⟨t, rfl, it⟩ := int_cells h1
  obtain ⟨b, rfl, h2⟩ := slice_cells (e := 3) (by kernel_rfl) h2
  obtain ⟨l, hl, ll, il⟩ := ints_cells h2
  exact ⟨t, l, b, rfl, hl, ll, it, il⟩
theorem intArg {x : TV} (h : argOk Tryd.prog 3 x) : ∃ n, x = .int .i64 n ∧ In64 n := argOk_i64 (by kernel_rfl) h
theorem intsArg {x : TV} (h : argOk Tryd.prog 22 x) : ∃ l : List Int, IsRow ic x l ∧ l.length ≤ 17592186044415 ∧ ∀ n ∈ l, In64 n := ints_cells (argOk_sl (e := 3) (by kernel_rfl) h)
theorem twoArg {x : TV} (h : argOk Tryd.prog 43 x) : ∃ a b, x = .agg [.int .i64 a, .int .i64 b] ∧ In64 a ∧ In64 b := by
  obtain ⟨cs, rfl, h'⟩ := argOk_agg (ts := [3, 3]) (by kernel_rfl) h
  have h := cellsOk_tys (ts := [3, 3]) (by kernel_rfl) h'
  obtain ⟨_, r, rfl, h1, h⟩ := seqOk_cons h
  obtain ⟨_, r, rfl, h2, h⟩ := seqOk_cons h
  cases seqOk_nil h
  obtain ⟨a, rfl, ia⟩ := int_cells h1
  obtain ⟨b, rfl, ib⟩ := int_cells h2
  exact ⟨a, b, rfl, ia, ib⟩
theorem threeArg {x : TV} (h : argOk Tryd.prog 60 x) : ∃ a b c, x = .agg [.int .i64 a, .int .i64 b, .int .i64 c] ∧ In64 a ∧ In64 b ∧ In64 c := by
  obtain ⟨cs, rfl, h'⟩ := argOk_agg (ts := [3, 3, 3]) (by kernel_rfl) h
  have h := cellsOk_tys (ts := [3, 3, 3]) (by kernel_rfl) h'
  obtain ⟨_, r, rfl, h1, h⟩ := seqOk_cons h
  obtain ⟨_, r, rfl, h2, h⟩ := seqOk_cons h
  obtain ⟨_, r, rfl, h3, h⟩ := seqOk_cons h
  cases seqOk_nil h
  obtain ⟨a, rfl, ia⟩ := int_cells h1
  obtain ⟨b, rfl, ib⟩ := int_cells h2
  obtain ⟨c, rfl, ic⟩ := int_cells h3
  exact ⟨a, b, c, rfl, ia, ib, ic⟩
theorem fiveArg {x : TV} (h : argOk Tryd.prog 65 x) : ∃ a b c d e, x = .agg [.int .i64 a, .int .i64 b, .int .i64 c, .int .i64 d, .int .i64 e] := by
  obtain ⟨cs, rfl, h'⟩ := argOk_agg (ts := [3, 3, 3, 3, 3]) (by kernel_rfl) h
  have h := cellsOk_tys (ts := [3, 3, 3, 3, 3]) (by kernel_rfl) h'
  obtain ⟨_, r, rfl, h1, h⟩ := seqOk_cons h
  obtain ⟨_, r, rfl, h2, h⟩ := seqOk_cons h
  obtain ⟨_, r, rfl, h3, h⟩ := seqOk_cons h
  obtain ⟨_, r, rfl, h4, h⟩ := seqOk_cons h
  obtain ⟨_, r, rfl, h5, h⟩ := seqOk_cons h
  cases seqOk_nil h
  obtain ⟨a, rfl, _⟩ := int_cells h1
  obtain ⟨b, rfl, _⟩ := int_cells h2
  obtain ⟨c, rfl, _⟩ := int_cells h3
  obtain ⟨d, rfl, _⟩ := int_cells h4
  obtain ⟨e, rfl, _⟩ := int_cells h5
  exact ⟨a, b, c, d, e, rfl⟩
end Go.Proofs.YtnoahnbjdapieaaDoor

/- Part Ip. -/
namespace Go.Oc
open Go Go.Pm
set_option maxRecDepth 100000
set_option linter.unusedVariables false
/-- Heads. -/
def circOk : Int → List Int → Bool
  | _, [] => true
  | a, x :: l => inB x (a + 1) 200 && circOk x l
def headOk (t : Int) (l : List Int) : Bool := inB t 1 400 && (inB l.length 1 12 && circOk 1 l)
def nthI (l : List Int) (i : Int) : Int := l.getD i.toNat 0
theorem nthI_at {l : List Int} {k : Nat} {x : Int} (h : l[k]? = some x) : nthI l k = x := by
  unfold nthI; rw [Int.toNat_natCast, List.getD_eq_getElem?_getD, h]; rfl
theorem circ_mem : ∀ {a : Int} {l : List Int}, circOk a l = true → ∀ x ∈ l, a + 1 ≤ x ∧ x ≤ 200
  | a, [], _, x, hx => by cases hx
  | a, y :: l, h, x, hx => by
    simp only [circOk, Bool.and_eq_true, inB_iff] at h
    rcases List.mem_cons.1 hx with rfl | hx
    · exact h.1
    · have := circ_mem h.2 x hx; omega
theorem circ_lt : ∀ {a : Int} {l : List Int}, circOk a l = true → ∀ {i k : Nat} {x y : Int}, i < k → l[i]? = some x → l[k]? = some y → x < y
  | a, [], _, i, k, x, y, _, h, _ => by simp at h
  | a, z :: l, h, 0, k + 1, x, y, _, hx, hy => by
    simp only [circOk, Bool.and_eq_true, inB_iff] at h
    simp at hx hy; subst hx
    have := circ_mem h.2 y (List.mem_of_getElem? hy); omega
  | a, z :: l, h, i + 1, k + 1, x, y, hik, hx, hy => by
    simp only [circOk, Bool.and_eq_true] at h
    simp at hx hy
    exact circ_lt h.2 (by omega) hx hy
theorem headOk_iff {t : Int} {l : List Int} : headOk t l = true ↔ (1 ≤ t ∧ t ≤ 400) ∧ (1 ≤ l.length ∧ l.length ≤ 12) ∧ circOk 1 l = true := by
  simp only [headOk, Bool.and_eq_true, inB_iff]
  constructor
  · rintro ⟨a, b, c⟩; exact ⟨a, ⟨by omega, by omega⟩, c⟩
  · rintro ⟨a, b, c⟩; exact ⟨a, ⟨by omega, by omega⟩, c⟩
theorem head_at {t : Int} {l : List Int} (h : headOk t l = true) {k : Nat} {x : Int} (hx : l[k]? = some x) : 2 ≤ x ∧ x ≤ 200 := by
  have := circ_mem (headOk_iff.1 h).2.2 x (List.mem_of_getElem? hx); omega
/-- The loop over the circles, as the program goes: so far all is well, and the last one. -/
def circTo : Bool → Int → List Int → Bool
  | ok, _, [] => ok
  | ok, a, x :: l => circTo (ok && inB x (IntKind.i64.wrap (a + 1)) 200) x l
theorem circTo_false : ∀ (a : Int) (l : List Int), circTo false a l = false
  | _, [] => rfl
  | a, x :: l => by simp only [circTo, Bool.false_and]; exact circTo_false x l
theorem circTo_eq : ∀ {a : Int} {l : List Int} (ok : Bool), -9223372036854775808 ≤ a ∧ a ≤ 9223372036854775806 → circTo ok a l = (ok && circOk a l)
  | a, [], ok, _ => by simp [circTo, circOk]
  | a, x :: l, ok, h => by
    rw [circTo, wrap_in (by omega) (by omega)]
    cases hx : (ok && inB x (a + 1) 200) with
    | false =>
      rw [circTo_false, circOk, ← Bool.and_assoc, hx, Bool.false_and]
    | true =>
      simp only [Bool.and_eq_true, inB_iff] at hx
      rw [circTo_eq true ⟨by omega, by omega⟩, circOk]
      have : inB x (a + 1) 200 = true := inB_iff.2 hx.2
      rw [this, hx.1, Bool.true_and, Bool.true_and]

/-- Plans. -/
structure Pl where
  c : Int
  t : Int
  h : Int
  deriving DecidableEq
def Pl.cs (p : Pl) : List TV := [.int .i64 p.c, .int .i64 p.t, .int .i64 p.h]
def Pl.tv (p : Pl) : TV := .agg p.cs
def planAt (t h n i : Int) : Option Pl := if t * h % n = 0 then some ⟨i, t * h / n / h, t * h / n % h⟩ else none
def plansTo (t : Int) (l : List Int) (n : Int) (k : Nat) : List Pl := (List.range k).filterMap fun i : Nat => planAt t (nthI l i) n i
def plansP (t : Int) (l : List Int) (n : Int) : List Pl := plansTo t l n l.length
theorem plansTo_succ (t : Int) (l : List Int) (n : Int) (k : Nat) : plansTo t l n (k + 1) = plansTo t l n k ++ (planAt t (nthI l k) n k).toList := by
  unfold plansTo
  rw [List.range_succ, List.filterMap_append]
  simp only [List.filterMap_cons, List.filterMap_nil]
  cases planAt t (nthI l k) n k <;> rfl
theorem plansTo_len (t : Int) (l : List Int) (n : Int) (k : Nat) : (plansTo t l n k).length ≤ k := by
  unfold plansTo
  have := List.length_filterMap_le (fun i : Nat => planAt t (nthI l i) n i) (List.range k)
  simpa using this
def plansE (t : Int) (l : List Int) (n : Int) : List Pl × Int :=
  if headOk t l = false then ([], 10) else if inB n 1 20000 = false then ([], 11) else if (plansP t l n).length = 0 then ([], 4) else (plansP t l n, 0)
/-- What a plan that closes is. -/
theorem plan_spec {t h n i : Int} {p : Pl} (hn : 0 < n) (hh : 0 < h) (hp : planAt t h n i = some p) : p.c = i ∧ 0 ≤ p.h ∧ p.h < h ∧ n * (p.t * h + p.h) = t * h := by
  unfold planAt at hp
  split at hp
  · rename_i e
    cases hp
    have h1 := Int.mul_ediv_add_emod (t * h) n
    have h2 := Int.mul_ediv_add_emod (t * h / n) h
    have h3 := Int.emod_nonneg (t * h / n) (show h ≠ 0 by omega)
    have h4 := Int.emod_lt_of_pos (t * h / n) hh
    refine ⟨rfl, h3, h4, ?_⟩
    simp only
    rw [Int.mul_comm (t * h / n / h) h, h2]
    omega
  · cases hp

/-- Compound plans. -/
structure Pr where
  a : Int
  b : Int
  x : Int
  y : Int
  deriving DecidableEq
def Pr.cs (p : Pr) : List TV := [.int .i64 p.a, .int .i64 p.b, .int .i64 p.x, .int .i64 p.y]
def Pr.tv (p : Pr) : TV := .agg p.cs
def holP (p : Pr) : Int := max p.x (-p.x) + max p.y (-p.y)
/-- Of the compound plans of two circles (with a and b holes): the one that moves x holes on the first one. -/
def prAt (t a b n i k x : Int) : Option Pr :=
  if t * a * b % n = 0 ∧ (t * a * b / n - x * b) % a = 0 ∧ inB ((t * a * b / n - x * b) / a) (-2000) 2000 = true then some ⟨i, k, x, (t * a * b / n - x * b) / a⟩ else none
def prsTo (t a b n i k : Int) (m : Nat) : List Pr := (List.range m).filterMap fun j : Nat => prAt t a b n i k ((j : Int) - 2000)
def prsP (t a b n i k : Int) : List Pr := prsTo t a b n i k 4001
theorem prsTo_succ (t a b n i k : Int) (m : Nat) : prsTo t a b n i k (m + 1) = prsTo t a b n i k m ++ (prAt t a b n i k ((m : Int) - 2000)).toList := by
  unfold prsTo
  rw [List.range_succ, List.filterMap_append]
  simp only [List.filterMap_cons, List.filterMap_nil]
  cases prAt t a b n i k ((m : Int) - 2000) <;> rfl
theorem prsTo_len (t a b n i k : Int) (m : Nat) : (prsTo t a b n i k m).length ≤ m := by
  unfold prsTo
  have := List.length_filterMap_le (fun j : Nat => prAt t a b n i k ((j : Int) - 2000)) (List.range m)
  simpa using this
/-- The first one of the best of a list. -/
def minS (o : Option Pr) (p : Pr) : Option Pr := match o with
  | none => some p
  | some q => if holP p < holP q then some p else some q
def minL (l : List Pr) : Option Pr := l.foldl minS none
theorem minL_snoc (l : List Pr) (p : Pr) : minL (l ++ [p]) = minS (minL l) p := by unfold minL; rw [List.foldl_append]; rfl
theorem snocInd {α : Type} {P : List α → Prop} (h0 : P []) (h1 : ∀ l a, P l → P (l ++ [a])) (l : List α) : P l := by
  have : ∀ l : List α, P l.reverse := by
    intro l
    induction l with
    | nil => exact h0
    | cons a l ih => rw [List.reverse_cons]; exact h1 _ _ ih
  have h := this l.reverse
  rwa [List.reverse_reverse] at h
theorem minL_none : ∀ l : List Pr, minL l = none ↔ l = [] := by
  intro l
  refine snocInd (P := fun l => minL l = none ↔ l = []) (by simp [minL]) (fun l p ih => ?_) l
  rw [minL_snoc]
  unfold minS
  split
  · simp
  · split <;> simp
theorem minL_some {R : Pr → Pr → Prop} : ∀ {l : List Pr} {r : Pr}, l.Pairwise R → minL l = some r → r ∈ l ∧ ∀ c ∈ l, holP r < holP c ∨ holP r = holP c ∧ (r = c ∨ R r c) := by
  intro l
  refine snocInd (P := fun l => ∀ {r : Pr}, l.Pairwise R → minL l = some r → r ∈ l ∧ ∀ c ∈ l, holP r < holP c ∨ holP r = holP c ∧ (r = c ∨ R r c)) (fun _ h => by simp [minL] at h) (fun l p ih => ?_) l
  · intro r hR h
    rw [List.pairwise_append] at hR
    obtain ⟨h1, _, h3⟩ := hR
    rw [minL_snoc] at h
    unfold minS at h
    split at h
    · rename_i e
      cases h
      rw [minL_none] at e
      subst e
      refine ⟨by simp, fun c hc => ?_⟩
      simp at hc; subst hc; exact .inr ⟨rfl, .inl rfl⟩
    · rename_i q e
      obtain ⟨hq, hm⟩ := ih h1 e
      split at h
      · rename_i hlt
        cases h
        refine ⟨by simp, fun c hc => ?_⟩
        rcases List.mem_append.1 hc with hc | hc
        · rcases hm c hc with h | ⟨h, _⟩
          · left; omega
          · left; omega
        · simp at hc; subst hc; exact .inr ⟨rfl, .inl rfl⟩
      · rename_i hlt
        cases h
        refine ⟨by simp [hq], fun c hc => ?_⟩
        rcases List.mem_append.1 hc with hc | hc
        · exact hm c hc
        · simp at hc; subst hc
          by_cases he : holP r = holP c
          · exact .inr ⟨he, .inr (h3 r hq c (by simp))⟩
          · left; omega
/-- All compound plans, as the specification goes: by A, then by B, then by X. -/
def candK (t : Int) (l : List Int) (n : Int) (i k : Nat) : List Pr := prsP t (nthI l i) (nthI l k) n i k
def candI (t : Int) (l : List Int) (n : Int) (i m : Nat) : List Pr := (List.range' (i + 1) m).flatMap fun k => candK t l n i k
def cands (t : Int) (l : List Int) (n : Int) (m : Nat) : List Pr := (List.range m).flatMap fun i => candI t l n i (l.length - (i + 1))
def compP (t : Int) (l : List Int) (n : Int) : Option Pr := minL (cands t l n l.length)
def compE (t : Int) (l : List Int) (n : Int) : Pr × Int :=
  if headOk t l = false then (⟨0, 0, 0, 0⟩, 10) else if inB n 1 20000 = false then (⟨0, 0, 0, 0⟩, 11) else match compP t l n with
    | none => (⟨0, 0, 0, 0⟩, 4)
    | some p => (p, 0)
def befP (p q : Pr) : Prop := p.a < q.a ∨ p.a = q.a ∧ (p.b < q.b ∨ p.b = q.b ∧ p.x < q.x)
theorem prAt_eq {t a b n i k x : Int} {p : Pr} (h : prAt t a b n i k x = some p) : p.a = i ∧ p.b = k ∧ p.x = x ∧ t * a * b % n = 0 ∧ (t * a * b / n - x * b) % a = 0 ∧ p.y = (t * a * b / n - x * b) / a ∧ -2000 ≤ p.y ∧ p.y ≤ 2000 := by
  unfold prAt at h
  split at h
  · rename_i hc; cases h
    have := inB_iff.1 hc.2.2
    exact ⟨rfl, rfl, rfl, hc.1, hc.2.1, rfl, this.1, this.2⟩
  · cases h
theorem prsTo_mem {t a b n i k : Int} {m : Nat} {p : Pr} : p ∈ prsTo t a b n i k m ↔ ∃ j : Nat, j < m ∧ prAt t a b n i k ((j : Int) - 2000) = some p := by
  unfold prsTo
  rw [List.mem_filterMap]
  simp only [List.mem_range]
theorem prsTo_pw (t a b n i k : Int) (m : Nat) : (prsTo t a b n i k m).Pairwise fun p q => p.a = i ∧ q.a = i ∧ p.b = k ∧ q.b = k ∧ p.x < q.x := by
  unfold prsTo
  rw [List.pairwise_filterMap]
  refine List.Pairwise.imp ?_ List.pairwise_lt_range
  intro c d hcd p hp q hq
  have h1 := prAt_eq hp
  have h2 := prAt_eq hq
  refine ⟨h1.1, h2.1, h1.2.1, h2.2.1, ?_⟩
  rw [h1.2.2.1, h2.2.2.1]; omega
theorem candI_pw (t : Int) (l : List Int) (n : Int) (i m : Nat) : (candI t l n i m).Pairwise fun p q => p.a = (i : Int) ∧ q.a = (i : Int) ∧ (p.b < q.b ∨ p.b = q.b ∧ p.x < q.x) := by
  unfold candI
  rw [List.pairwise_flatMap]
  refine ⟨fun k _ => (prsTo_pw ..).imp fun h => ⟨h.1, h.2.1, .inr ⟨h.2.2.1.trans h.2.2.2.1.symm, h.2.2.2.2⟩⟩, ?_⟩
  refine List.Pairwise.imp ?_ List.pairwise_lt_range'
  intro c d hcd p hp q hq
  obtain ⟨j1, _, h1⟩ := prsTo_mem.1 hp
  obtain ⟨j2, _, h2⟩ := prsTo_mem.1 hq
  have h1 := prAt_eq h1
  have h2 := prAt_eq h2
  exact ⟨h1.1, h2.1, .inl (by rw [h1.2.1, h2.2.1]; omega)⟩
theorem candI_mem {t : Int} {l : List Int} {n : Int} {i m : Nat} {p : Pr} : p ∈ candI t l n i m ↔ ∃ k j : Nat, i < k ∧ k < i + 1 + m ∧ j < 4001 ∧ prAt t (nthI l i) (nthI l k) n i k ((j : Int) - 2000) = some p := by
  unfold candI
  rw [List.mem_flatMap]
  constructor
  · rintro ⟨k, hk, h⟩
    rw [List.mem_range'_1] at hk
    obtain ⟨j, h1, h2⟩ := prsTo_mem.1 h
    exact ⟨k, j, by omega, by omega, h1, h2⟩
  · rintro ⟨k, j, h1, h2, h3, h4⟩
    exact ⟨k, List.mem_range'_1.2 (by omega), prsTo_mem.2 ⟨j, h3, h4⟩⟩
theorem cands_pw (t : Int) (l : List Int) (n : Int) (m : Nat) : (cands t l n m).Pairwise befP := by
  unfold cands
  rw [List.pairwise_flatMap]
  refine ⟨fun i _ => (candI_pw ..).imp fun h => .inr ⟨h.1.trans h.2.1.symm, h.2.2⟩, ?_⟩
  refine List.Pairwise.imp ?_ List.pairwise_lt_range
  intro c d hcd p hp q hq
  obtain ⟨k1, j1, _, _, _, h1⟩ := candI_mem.1 hp
  obtain ⟨k2, j2, _, _, _, h2⟩ := candI_mem.1 hq
  have h1 := prAt_eq h1
  have h2 := prAt_eq h2
  left; rw [h1.1, h2.1]; omega
theorem cands_mem {t : Int} {l : List Int} {n : Int} {p : Pr} : p ∈ cands t l n l.length ↔ ∃ i k j : Nat, i < k ∧ k < l.length ∧ j < 4001 ∧ prAt t (nthI l i) (nthI l k) n i k ((j : Int) - 2000) = some p := by
  unfold cands
  rw [List.mem_flatMap]
  constructor
  · rintro ⟨i, hi, h⟩
    rw [List.mem_range] at hi
    obtain ⟨k, j, h1, h2, h3, h4⟩ := candI_mem.1 h
    exact ⟨i, k, j, h1, by omega, h3, h4⟩
  · rintro ⟨i, k, j, h1, h2, h3, h4⟩
    exact ⟨i, List.mem_range.2 (by omega), candI_mem.2 ⟨k, j, h1, by omega, h3, h4⟩⟩
/-- Which one it is. -/
theorem compP_some {t : Int} {l : List Int} {n : Int} {r : Pr} (h : compP t l n = some r) : r ∈ cands t l n l.length ∧ ∀ c ∈ cands t l n l.length, holP r < holP c ∨ holP r = holP c ∧ (r = c ∨ befP r c) := minL_some (cands_pw ..) h
theorem compP_none {t : Int} {l : List Int} {n : Int} : compP t l n = none ↔ cands t l n l.length = [] := minL_none _

/-- The best of a list, as the program finds it: by what is better. -/
def bestS (f : Pr → Pr → Bool) (o : Option Pr) (p : Pr) : Option Pr := match o with
  | none => some p
  | some q => if f p q then some p else some q
def bestF (f : Pr → Pr → Bool) (l : List Pr) : Option Pr := l.foldl (bestS f) none
theorem bestF_snoc (f : Pr → Pr → Bool) (l : List Pr) (p : Pr) : bestF f (l ++ [p]) = bestS f (bestF f l) p := by unfold bestF; rw [List.foldl_append]; rfl
def lessH (p q : Pr) : Bool := decide (holP p < holP q)
theorem bestF_min (l : List Pr) : bestF lessH l = minL l := by
  unfold bestF minL
  congr 1
  funext o p
  cases o with
  | none => rfl
  | some q => simp [bestS, minS, lessH]
def lessB (p q : Pr) : Bool := if holP p ≠ holP q then decide (holP p < holP q) else decide (p.a < q.a) || p.a == q.a && decide (p.b < q.b)
theorem lessB_iff {p q : Pr} : lessB p q = true ↔ holP p < holP q ∨ holP p = holP q ∧ (p.a < q.a ∨ p.a = q.a ∧ p.b < q.b) := by
  unfold lessB
  split
  · rename_i h; rw [decide_eq_true_eq]; constructor
    · exact fun h => .inl h
    · rintro (h' | ⟨h', _⟩)
      · exact h'
      · exact absurd h' h
  · rename_i h
    have h : holP p = holP q := by omega
    simp only [Bool.or_eq_true, Bool.and_eq_true, decide_eq_true_eq, beq_iff_eq]
    omega
theorem bestB_none : ∀ l : List Pr, bestF lessB l = none ↔ l = [] := by
  intro l
  refine snocInd (P := fun l => bestF lessB l = none ↔ l = []) (by simp [bestF]) (fun l p ih => ?_) l
  rw [bestF_snoc]
  unfold bestS
  split
  · simp
  · split <;> simp
theorem bestB_some : ∀ {l : List Pr} {r : Pr}, bestF lessB l = some r → r ∈ l ∧ ∀ c ∈ l, lessB c r = false := by
  intro l
  refine snocInd (P := fun l => ∀ {r : Pr}, bestF lessB l = some r → r ∈ l ∧ ∀ c ∈ l, lessB c r = false) (fun h => by simp [bestF] at h) (fun l p ih => ?_) l
  · intro r h
    rw [bestF_snoc] at h
    unfold bestS at h
    have irr : ∀ p : Pr, lessB p p = false := fun p => by
      rw [Bool.eq_false_iff]; intro h; rw [lessB_iff] at h; omega
    split at h
    · rename_i e
      cases h
      rw [bestB_none] at e
      subst e
      refine ⟨by simp, fun c hc => ?_⟩
      simp at hc; subst hc; exact irr _
    · rename_i q e
      obtain ⟨hq, hm⟩ := ih e
      split at h
      · rename_i hlt
        cases h
        refine ⟨by simp, fun c hc => ?_⟩
        rcases List.mem_append.1 hc with hc | hc
        · have h1 := hm c hc
          rw [Bool.eq_false_iff] at h1 ⊢
          intro h2
          apply h1
          rw [lessB_iff] at *
          omega
        · simp at hc; subst hc; exact irr _
      · rename_i hlt
        cases h
        refine ⟨by simp [hq], fun c hc => ?_⟩
        rcases List.mem_append.1 hc with hc | hc
        · exact hm c hc
        · simp at hc; subst hc
          simpa using hlt
def allA (t : Int) (l : List Int) (n : Int) (b m : Nat) : List Pr := (List.range m).filterMap fun a => minL (candK t l n a b)
def allB (t : Int) (l : List Int) (n : Int) (m : Nat) : List Pr := (List.range m).flatMap fun b => allA t l n b b
theorem candK_mem {t : Int} {l : List Int} {n : Int} {i k : Nat} {p : Pr} : p ∈ candK t l n i k ↔ ∃ j : Nat, j < 4001 ∧ prAt t (nthI l i) (nthI l k) n i k ((j : Int) - 2000) = some p := prsTo_mem
theorem candK_some {t : Int} {l : List Int} {n : Int} {i k : Nat} {r : Pr} (h : minL (candK t l n i k) = some r) : (r ∈ candK t l n i k ∧ r.a = i ∧ r.b = k) ∧ ∀ c ∈ candK t l n i k, holP r < holP c ∨ holP r = holP c ∧ (r = c ∨ r.x < c.x) := by
  obtain ⟨h1, h2⟩ := minL_some (prsTo_pw ..) h
  obtain ⟨j, _, hj⟩ := candK_mem.1 h1
  have hj := prAt_eq hj
  refine ⟨⟨h1, hj.1, hj.2.1⟩, fun c hc => ?_⟩
  rcases h2 c hc with h | ⟨h, h' | h'⟩
  · exact .inl h
  · exact .inr ⟨h, .inl h'⟩
  · exact .inr ⟨h, .inr h'.2.2.2.2⟩
theorem allB_mem {t : Int} {l : List Int} {n : Int} {r : Pr} : r ∈ allB t l n l.length ↔ ∃ a b : Nat, a < b ∧ b < l.length ∧ minL (candK t l n a b) = some r := by
  unfold allB allA
  simp only [List.mem_flatMap, List.mem_filterMap, List.mem_range]
  constructor
  · rintro ⟨b, hb, a, ha, h⟩; exact ⟨a, b, ha, hb, h⟩
  · rintro ⟨a, b, ha, hb, h⟩; exact ⟨b, hb, a, ha, h⟩
theorem comp_prog (t : Int) (l : List Int) (n : Int) : bestF lessB (allB t l n l.length) = compP t l n := by
  have key : ∀ {a b : Nat} {p : Pr}, a < b → b < l.length → p ∈ candK t l n a b → p ∈ cands t l n l.length := fun h1 h2 h => by
    obtain ⟨j, h3, h4⟩ := candK_mem.1 h
    exact cands_mem.2 ⟨_, _, j, h1, h2, h3, h4⟩
  cases hc : compP t l n with
  | none =>
    rw [compP_none] at hc
    rw [bestB_none]
    rw [List.eq_nil_iff_forall_not_mem]
    intro r hr
    obtain ⟨a, b, h1, h2, h3⟩ := allB_mem.1 hr
    have := key h1 h2 (candK_some h3).1.1
    rw [hc] at this; cases this
  | some r' =>
    obtain ⟨m1, m2⟩ := compP_some hc
    obtain ⟨i, k, j, h1, h2, h3, h4⟩ := cands_mem.1 m1
    have hk : r' ∈ candK t l n i k := candK_mem.2 ⟨j, h3, h4⟩
    have h4 := prAt_eq h4
    cases hs : minL (candK t l n i k) with
    | none => rw [minL_none] at hs; rw [hs] at hk; cases hk
    | some s =>
      have hsA : s ∈ allB t l n l.length := allB_mem.2 ⟨i, k, h1, h2, hs⟩
      obtain ⟨⟨s1, s2, s3⟩, s4⟩ := candK_some hs
      cases hr : bestF lessB (allB t l n l.length) with
      | none => rw [bestB_none] at hr; rw [hr] at hsA; cases hsA
      | some r =>
        obtain ⟨r1, r2⟩ := bestB_some hr
        obtain ⟨a, b, g1, g2, g3⟩ := allB_mem.1 r1
        obtain ⟨⟨t1, t2, t3⟩, t4⟩ := candK_some g3
        have q1 := m2 r (key g1 g2 t1)
        have q2 := r2 s hsA
        rw [Bool.eq_false_iff, ne_eq, lessB_iff] at q2
        have q3 := s4 r' hk
        congr 1
        have e1 : holP r = holP r' := by omega
        have e2 : holP s = holP r := by omega
        have q4 : r' = r ∨ befP r' r := by
          rcases q1 with h | ⟨_, h⟩
          · omega
          · exact h
        rcases q4 with h | h
        · exact h.symm
        · exfalso
          unfold befP at h
          have e3 : r'.a = i := h4.1
          have e4 : r'.b = k := h4.2.1
          have ha : r'.a = r.a ∧ r'.b = r.b ∧ r'.x < r.x := by omega
          have hia : i = a := by omega
          have hkb : k = b := by omega
          subst hia; subst hkb
          rcases t4 r' hk with h' | ⟨_, h' | h'⟩
          · omega
          · rw [h'] at ha; omega
          · omega

/-- Lines. -/
def placeP (all n k : Int) : Int := if 2 * (k * all % n) ≤ n then k * all / n else k * all / n + 1
def wrongP (all n k : Int) : Int := placeP all n k * n - k * all
def absI (n : Int) : Int := max n (-n)
theorem place_spec {all n k : Int} (hn : 0 < n) : (placeP all n k = k * all / n ∧ wrongP all n k = -(k * all % n) ∧ 2 * (k * all % n) ≤ n) ∨ (placeP all n k = k * all / n + 1 ∧ wrongP all n k = n - k * all % n ∧ n < 2 * (k * all % n)) := by
  have h1 := Int.mul_ediv_add_emod (k * all) n
  unfold wrongP placeP
  generalize k * all / n = q at *
  generalize k * all % n = r at *
  generalize k * all = a at *
  split
  · left; refine ⟨rfl, ?_, by omega⟩
    rw [Int.mul_comm q n]; omega
  · right; refine ⟨rfl, ?_, by omega⟩
    rw [Int.add_mul, Int.mul_comm q n]; omega
theorem wrong_bound {all n k : Int} (hn : 0 < n) : -n ≤ wrongP all n k ∧ wrongP all n k ≤ n := by
  have h1 := Int.emod_nonneg (k * all) (show n ≠ 0 by omega)
  have h2 := Int.emod_lt_of_pos (k * all) hn
  rcases place_spec (all := all) (k := k) hn with ⟨_, h, _⟩ | ⟨_, h, _⟩ <;> rw [h] <;> omega
theorem line_place {all n k : Int} (hn : 0 < n) (h0 : 0 ≤ k * all) : (2 * k * all - n + 2 * n - 1).tdiv (2 * n) = placeP all n k := by
  have h1 := Int.mul_ediv_add_emod (k * all) n
  have h2 := Int.emod_nonneg (k * all) (show n ≠ 0 by omega)
  have h3 := Int.emod_lt_of_pos (k * all) hn
  rw [Int.mul_assoc 2 k all, Int.tdiv_eq_ediv_of_nonneg (by omega)]
  unfold placeP
  generalize k * all / n = q at *
  generalize k * all % n = r at *
  generalize k * all = a at *
  subst h1
  split
  · have e : 2 * (n * q + r) - n + 2 * n - 1 = (2 * r + n - 1) + q * (2 * n) := by
      rw [Int.mul_comm q (2 * n), Int.mul_assoc]; omega
    rw [e, Int.add_mul_ediv_right _ _ (by omega), Int.ediv_eq_zero_of_lt (by omega) (by omega)]; omega
  · have e : 2 * (n * q + r) - n + 2 * n - 1 = (2 * r - n - 1) + (q + 1) * (2 * n) := by
      rw [Int.add_mul, Int.mul_comm q (2 * n), Int.mul_assoc]; omega
    rw [e, Int.add_mul_ediv_right _ _ (by omega), Int.ediv_eq_zero_of_lt (by omega) (by omega)]; omega
def faultTo (all n : Int) (m : Nat) : Int := (List.range m).foldl (fun (a : Int) (k : Nat) => max a (absI (wrongP all n k))) 0
def faultP (all n : Int) : Int := faultTo all n n.toNat
theorem faultTo_succ (all n : Int) (m : Nat) : faultTo all n (m + 1) = max (faultTo all n m) (absI (wrongP all n m)) := by
  unfold faultTo; rw [List.range_succ, List.foldl_append]; rfl
theorem faultTo_bound {all n : Int} (hn : 0 < n) : ∀ m : Nat, 0 ≤ faultTo all n m ∧ faultTo all n m ≤ n
  | 0 => by simp [faultTo]; omega
  | m + 1 => by
    have h1 := faultTo_bound (all := all) hn m
    have h2 := wrong_bound (all := all) (k := m) hn
    rw [faultTo_succ]; unfold absI; omega
theorem faultTo_le {all n : Int} : ∀ {m k : Nat}, k < m → absI (wrongP all n k) ≤ faultTo all n m
  | m + 1, k, h => by
    rw [faultTo_succ]
    by_cases hk : k = m
    · subst hk; omega
    · have := faultTo_le (all := all) (n := n) (show k < m by omega); omega
theorem faultTo_is {all n : Int} : ∀ {m : Nat}, 0 < m → ∃ k : Nat, k < m ∧ faultTo all n m = absI (wrongP all n k)
  | 1, _ => ⟨0, by omega, by rw [faultTo_succ]; simp only [faultTo, List.range_zero, List.foldl_nil]; unfold absI; omega⟩
  | m + 2, _ => by
    obtain ⟨k, h1, h2⟩ := faultTo_is (all := all) (n := n) (show 0 < m + 1 by omega)
    rw [faultTo_succ]
    by_cases h : faultTo all n (m + 1) ≤ absI (wrongP all n ((m + 1 : Nat) : Int))
    · exact ⟨m + 1, by omega, by omega⟩
    · exact ⟨k, by omega, by omega⟩
/-- How many lines are cut before their place, and behind it. -/
def offTo (all n : Int) (m : Nat) : Int × Int := (List.range m).foldl (fun (a : Int × Int) (k : Nat) => if wrongP all n k < 0 then (a.1 + 1, a.2) else if wrongP all n k > 0 then (a.1, a.2 + 1) else a) (0, 0)
theorem offTo_succ (all n : Int) (m : Nat) : offTo all n (m + 1) = if wrongP all n m < 0 then ((offTo all n m).1 + 1, (offTo all n m).2) else if wrongP all n m > 0 then ((offTo all n m).1, (offTo all n m).2 + 1) else offTo all n m := by
  unfold offTo; rw [List.range_succ, List.foldl_append]; rfl
theorem offTo_spec (all n : Int) : ∀ m : Nat, 0 ≤ (offTo all n m).1 ∧ 0 ≤ (offTo all n m).2 ∧ (offTo all n m).1 + (offTo all n m).2 ≤ m ∧ ((offTo all n m).1 = 0 ∧ (offTo all n m).2 = 0 → faultTo all n m = 0)
  | 0 => by simp [offTo, faultTo]
  | m + 1 => by
    obtain ⟨h1, h2, h3, h4⟩ := offTo_spec all n m
    rw [offTo_succ, faultTo_succ]
    split
    · simp only; refine ⟨by omega, by omega, by omega, by omega⟩
    · split
      · simp only; refine ⟨by omega, by omega, by omega, by omega⟩
      · refine ⟨h1, h2, by omega, fun h => ?_⟩
        rw [h4 h]; unfold absI; omega
/-- What is engraved. -/
def engrP (fault all : Int) : Int := (fault * 129600000 + all - 1) / all
theorem engr_up {f all : Int} (ha : 0 < all) : -((-(f * 129600000)) / all) = engrP f all := by
  unfold engrP
  generalize f * 129600000 = a
  have h1 := Int.mul_ediv_add_emod (-a) all
  have h2 := Int.emod_nonneg (-a) (show all ≠ 0 by omega)
  have h3 := Int.emod_lt_of_pos (-a) ha
  have e : a + all - 1 = (all - 1 - (-a) % all) + (-((-a) / all)) * all := by
    rw [Int.neg_mul, Int.mul_comm ((-a) / all) all]; omega
  have e2 : (all - 1 - (-a) % all) / all = 0 := Int.ediv_eq_zero_of_lt (by omega) (by omega)
  rw [e, Int.add_mul_ediv_right _ _ (by omega), e2]; omega
def cutE (t : Int) (l : List Int) (c n : Int) : List Int × Int × Int :=
  if headOk t l = false then ([], 0, 10) else if inB n 1 2000 = false then ([], 0, 11) else if inB c 0 ((l.length : Int) - 1) = false then ([], 0, 12) else
    ((List.range n.toNat).map (fun k : Nat => placeP (t * nthI l c) n k), engrP (faultP (t * nthI l c) n) (n * (t * nthI l c)), 0)
/-- The best circle of the first ones (one more than k), and its fault. -/
def bestK (t : Int) (l : List Int) (n : Int) : Nat → Int × Int
  | 0 => (0, faultP (t * nthI l 0) n)
  | k + 1 => if faultP (t * nthI l ((k + 1 : Nat) : Int)) n * nthI l (bestK t l n k).1 < (bestK t l n k).2 * nthI l ((k + 1 : Nat) : Int) then (((k + 1 : Nat) : Int), faultP (t * nthI l ((k + 1 : Nat) : Int)) n) else bestK t l n k
def bestE (t : Int) (l : List Int) (n : Int) : Int × Int × Int :=
  if headOk t l = false then (0, 0, 10) else if inB n 1 2000 = false then (0, 0, 11) else
    ((bestK t l n (l.length - 1)).1, engrP (bestK t l n (l.length - 1)).2 (n * (t * nthI l (bestK t l n (l.length - 1)).1)), 0)
theorem bestK_spec (t : Int) (l : List Int) (n : Int) (k : Nat) : 0 ≤ (bestK t l n k).1 ∧ (bestK t l n k).1 ≤ k ∧ (bestK t l n k).2 = faultP (t * nthI l (bestK t l n k).1) n := by
  induction k with
  | zero => exact ⟨Int.le_refl _, Int.le_refl _, rfl⟩
  | succ k ih =>
    rw [bestK]
    split
    · exact ⟨by simp only; omega, by simp only; omega, rfl⟩
    · exact ⟨ih.1, by omega, ih.2.2⟩
/-- Trains. -/
structure Tn where
  a : Int
  b : Int
  c : Int
  d : Int
  deriving DecidableEq
def Tn.cs (p : Tn) : List TV := [.int .i64 p.a, .int .i64 p.b, .int .i64 p.c, .int .i64 p.d]
def Tn.tv (p : Tn) : TV := .agg p.cs
def stockOk1 (st : List Int) : Bool := inB st.length 2 10 && st.all fun n => inB n 10 200
/-- Do wheels give the ratio? (every second one is driven) -/
def drvL (st : List Int) : Bool → Int → Int → List Int → Int × Int
  | _, x, y, [] => (x, y)
  | true, x, y, w :: l => drvL st false (x * nthI st w) y l
  | false, x, y, w :: l => drvL st true x (y * nthI st w) l
def fitsL (st : List Int) (p q : Int) (l : List Int) : Bool := (drvL st true q p l).1 == (drvL st true q p l).2
def tnOf : List Int → Tn
  | [a, b] => ⟨a, b, -1, -1⟩
  | [a, b, c, d] => ⟨a, b, c, d⟩
  | _ => ⟨-1, -1, -1, -1⟩
/-- The first wheels that fit, d more behind l. -/
def srch (st : List Int) (p q : Int) : Nat → List Int → Option (List Int)
  | 0, l => if fitsL st p q l = true then some l else none
  | d + 1, l => (List.range st.length).findSome? fun i : Nat => if l.contains (i : Int) then none else srch st p q d (l ++ [(i : Int)])
def trainP (st : List Int) (p q : Int) : Option Tn := match srch st p q 2 [] with
  | some l => some (tnOf l)
  | none => (srch st p q 4 []).map tnOf
def trainE (st : List Int) (p q : Int) : Tn × Int :=
  if (stockOk1 st && inB p 1 100000 && inB q 1 100000) = false then (⟨0, 0, 0, 0⟩, 13) else match trainP st p q with
    | none => (⟨0, 0, 0, 0⟩, 4)
    | some t => (t, 0)
/-- Differentials. -/
structure Df where
  m : Int
  p : Pl
  t : Tn
  on : Bool
  deriving DecidableEq
def Df.cs (x : Df) : List TV := .int .i64 x.m :: (x.p.cs ++ (x.t.cs ++ [.bool x.on]))
def Df.tv (x : Df) : TV := .agg x.cs
def diff1 (t : Int) (l st : List Int) (n aside m : Int) : Option Df :=
  if inB m 1 20000 = false then none else match plansP t l m with
    | [] => none
    | p :: _ => match trainP st (t * aside) m with
      | none => none
      | some tr => some ⟨m, p, tr, decide (m > n)⟩
def diff2 (t : Int) (l st : List Int) (n aside : Int) : Option Df := match diff1 t l st n aside (n - aside) with
  | some x => some x
  | none => diff1 t l st n aside (n + aside)
def diffP (t : Int) (l st : List Int) (n : Int) : Option Df := (List.range 20).findSome? fun i : Nat => diff2 t l st n ((i : Int) + 1)
def diffE (t : Int) (l st : List Int) (n : Int) : Df × Int :=
  if headOk t l = false then (⟨0, ⟨0, 0, 0⟩, ⟨0, 0, 0, 0⟩, false⟩, 10) else if inB n 1 2000 = false then (⟨0, ⟨0, 0, 0⟩, ⟨0, 0, 0, 0⟩, false⟩, 11) else if stockOk1 st = false then (⟨0, ⟨0, 0, 0⟩, ⟨0, 0, 0, 0⟩, false⟩, 13) else
    match diffP t l st n with
    | none => (⟨0, ⟨0, 0, 0⟩, ⟨0, 0, 0, 0⟩, false⟩, 4)
    | some x => (x, 0)
/-- Prefixes of a search. -/
def fsTo {α : Type} (f : Nat → Option α) (k : Nat) : Option α := (List.range k).findSome? f
theorem fsTo_succ {α : Type} (f : Nat → Option α) (k : Nat) : fsTo f (k + 1) = match fsTo f k with
    | some x => some x
    | none => f k := by
  unfold fsTo
  rw [List.range_succ, List.findSome?_append]
  cases (List.range k).findSome? f with
  | some x => rfl
  | none => simp
theorem fsTo_hit {α : Type} {f : Nat → Option α} {n k : Nat} {x : α} (h0 : fsTo f k = none) (hk : k < n) (h1 : f k = some x) : fsTo f n = some x := by
  have h2 : fsTo f (k + 1) = some x := by rw [fsTo_succ, h0]; exact h1
  clear h0 h1
  induction n with
  | zero => omega
  | succ n ih =>
    by_cases hkn : k = n
    · subst hkn; exact h2
    · rw [fsTo_succ, ih (by omega)]
theorem fsTo_some {α : Type} {f : Nat → Option α} {n : Nat} {x : α} (h : fsTo f n = some x) : ∃ k, k < n ∧ fsTo f k = none ∧ f k = some x := by
  induction n with
  | zero => simp [fsTo] at h
  | succ n ih =>
    rw [fsTo_succ] at h
    cases h' : fsTo f n with
    | some y =>
      rw [h'] at h
      obtain ⟨k, h1, h2, h3⟩ := ih (by rw [h']; exact h)
      exact ⟨k, by omega, h2, h3⟩
    | none => rw [h'] at h; exact ⟨n, by omega, h', h⟩
theorem fsTo_none {α : Type} {f : Nat → Option α} {n : Nat} : fsTo f n = none ↔ ∀ k, k < n → f k = none := by
  unfold fsTo
  rw [List.findSome?_eq_none_iff]
  simp
/-- The specification's search. -/
def r2 (st : List Int) (p q : Int) (a b : Nat) : Option Tn := if a ≠ b ∧ nthI st a * q = nthI st b * p then some ⟨a, b, -1, -1⟩ else none
def r4 (st : List Int) (p q : Int) (a b c d : Nat) : Option Tn :=
  if (a ≠ b ∧ a ≠ c ∧ a ≠ d ∧ b ≠ c ∧ b ≠ d ∧ c ≠ d) ∧ nthI st a * nthI st c * q = nthI st b * nthI st d * p then some ⟨a, b, c, d⟩ else none
def trainR (st : List Int) (p q : Int) : Option Tn := match fsTo (fun a => fsTo (r2 st p q a) st.length) st.length with
  | some t => some t
  | none => fsTo (fun a => fsTo (fun b => fsTo (fun c => fsTo (r4 st p q a b c) st.length) st.length) st.length) st.length
theorem srch_map (st : List Int) (p q : Int) (d : Nat) (l : List Int) : (srch st p q (d + 1) l).map tnOf = fsTo (fun i => if l.contains (i : Int) then none else (srch st p q d (l ++ [(i : Int)])).map tnOf) st.length := by
  unfold fsTo
  rw [srch, List.map_findSome?]
  congr 1
  funext i
  simp only [Function.comp]
  split <;> rfl
theorem fsTo_congr {α : Type} {f g : Nat → Option α} {n : Nat} (h : ∀ k, k < n → f k = g k) : fsTo f n = fsTo g n := by
  induction n with
  | zero => rfl
  | succ n ih => rw [fsTo_succ, fsTo_succ, ih fun k hk => h k (by omega), h n (by omega)]
theorem srch0 (st : List Int) (p q : Int) (l : List Int) : (srch st p q 0 l).map tnOf = if fitsL st p q l = true then some (tnOf l) else none := by
  unfold srch; split <;> rfl
theorem train_ref (st : List Int) (p q : Int) : trainR st p q = trainP st p q := by
  have h2 : (srch st p q 2 []).map tnOf = fsTo (fun a => fsTo (r2 st p q a) st.length) st.length := by
    rw [srch_map]
    refine fsTo_congr fun a _ => ?_
    rw [if_neg (by simp), srch_map]
    refine fsTo_congr fun b _ => ?_
    rw [srch0]
    simp only [List.nil_append, List.cons_append, List.contains_cons, List.contains_nil, Bool.or_false, fitsL, drvL, tnOf, r2, beq_iff_eq]
    rw [Int.mul_comm q, Int.mul_comm p]
    by_cases hab : a = b
    · subst hab; simp
    · have hab' : ¬ (b : Int) = a := by omega
      simp [hab, hab']
  have h4 : (srch st p q 4 []).map tnOf = fsTo (fun a => fsTo (fun b => fsTo (fun c => fsTo (r4 st p q a b c) st.length) st.length) st.length) st.length := by
    rw [srch_map]
    refine fsTo_congr fun a _ => ?_
    rw [if_neg (by simp), srch_map]
    refine fsTo_congr fun b _ => ?_
    by_cases hab : a = b
    · subst hab
      simp only [List.nil_append, List.contains_cons, List.contains_nil, Bool.or_false, beq_self_eq_true, if_true]
      symm
      rw [fsTo_none]; intro c _
      rw [fsTo_none]; intro d _
      simp [r4]
    · have hab' : ¬ (b : Int) = a := by omega
      rw [if_neg (by simpa using hab'), srch_map]
      refine fsTo_congr fun c _ => ?_
      by_cases hc : c = a ∨ c = b
      · rw [if_pos (by rcases hc with rfl | rfl <;> simp)]
        symm
        rw [fsTo_none]; intro d _
        unfold r4; rw [if_neg]; rintro ⟨h, _⟩; omega
      · rw [if_neg (by simp; omega), srch_map]
        refine fsTo_congr fun d _ => ?_
        by_cases hd : d = a ∨ d = b ∨ d = c
        · rw [if_pos (by rcases hd with rfl | rfl | rfl <;> simp)]
          symm
          unfold r4; rw [if_neg]; rintro ⟨h, _⟩; omega
        · rw [if_neg (by simp; omega), srch0]
          simp only [List.nil_append, List.cons_append, fitsL, drvL, tnOf, r4, beq_iff_eq]
          have e : (nthI st a * nthI st c * q = nthI st b * nthI st d * p) ↔ (q * nthI st a * nthI st c = p * nthI st b * nthI st d) := by
            rw [Int.mul_comm _ q, Int.mul_comm _ p, Int.mul_assoc, Int.mul_assoc]
          have hx : (a ≠ b ∧ a ≠ c ∧ a ≠ d ∧ b ≠ c ∧ b ≠ d ∧ c ≠ d) := by omega
          by_cases hp : q * nthI st a * nthI st c = p * nthI st b * nthI st d
          · rw [if_pos hp, if_pos ⟨hx, e.2 hp⟩]
          · rw [if_neg hp, if_neg fun h => hp (e.1 h.2)]
  unfold trainR trainP
  rw [← h2, ← h4]
  cases srch st p q 2 [] <;> rfl
end Go.Oc

/- Part Iu. -/
namespace Go.Oc
open Go Go.Pm
/-- So far all is well, and the last circle. -/
def chkTo (t : Int) (l : List Int) (k : Nat) : Bool := circTo (inB t 1 400 && inB l.length 1 12) 1 (l.take k)
def lastTo (l : List Int) : Nat → Int
  | 0 => 1
  | k + 1 => nthI l k
theorem circTo_snoc : ∀ (ok : Bool) (a : Int) (l : List Int) (x : Int), circTo ok a (l ++ [x]) = (circTo ok a l && inB x (IntKind.i64.wrap ((l.getLast?.getD a) + 1)) 200)
  | ok, a, [], x => rfl
  | ok, a, [y], x => rfl
  | ok, a, y :: z :: l, x => by
    rw [List.cons_append, circTo, circTo_snoc _ y (z :: l) x, circTo, List.getLast?_cons_cons]
    rfl
theorem chkTo_succ {t : Int} {l : List Int} {k : Nat} {x : Int} (h : l[k]? = some x) : chkTo t l (k + 1) = (chkTo t l k && inB x (IntKind.i64.wrap (lastTo l k + 1)) 200) := by
  unfold chkTo
  rw [take_snoc h, circTo_snoc]
  congr 4
  cases k with
  | zero => rfl
  | succ k =>
    have hk := (List.getElem?_eq_some_iff.1 h).1
    have hx : l[k]? = some l[k] := List.getElem?_eq_getElem (by omega)
    rw [take_snoc hx, List.getLast?_concat]
    show l[k] = nthI l k
    rw [nthI_at hx]
theorem chkTo_all (t : Int) (l : List Int) : chkTo t l l.length = headOk t l := by
  unfold chkTo headOk
  rw [List.take_length, circTo_eq _ (by omega), Bool.and_assoc]
end Go.Oc
namespace Go.Proofs.YtnoahnbjdapieaaDoor
open Go.RowKit Go.Pm Go.Oc
set_option maxRecDepth 100000
set_option linter.unusedVariables false
set_option maxHeartbeats 4000000

@[go_sem] theorem glob_noTrain : globP 0 = .t (.cptr [.int .i64 (-1), .int .i64 (-1), .int .i64 (-1), .int .i64 (-1)]) := rfl
theorem iWithin_c (n lo hi : Int) : PCalls Tryd.prog 45 [.int .i64 n, .int .i64 lo, .int .i64 hi] (.bool (inB n lo hi)) := by
  refine pcalls_by Tryd.mixes noSpec_ok (fn := Tryd.f45) Tryd.func45 rfl (by kernel_rfl) (by show 3 ≤ _; decide) ?_
  simp (decide := true) (maxSteps := 4000000) only [go_sem, Nat.reduceAdd, Nat.reduceSub, Nat.reduceMul, Nat.reduceDiv, Nat.reduceMod, Nat.reduceLT, Nat.reduceLeDiff, Nat.reduceEqDiff, Nat.reduceBEq, Nat.reduceBNe, Nat.reduceGT, Int.reduceAdd, Int.reduceSub, Int.reduceMul, Int.reduceNeg, Int.reduceLT, Int.reduceLE, Int.reduceEq, Int.reduceNe, Int.reduceBEq, Int.reduceBNe, Int.reduceToNat, Int.reduceGT, Int.reduceGE, ↓reduceIte, decide_true, decide_false, eq_self, Nat.mul_one, Nat.zero_mul, Nat.one_mul, Int.le_refl, Nat.le_refl, Int.cast_ofNat_Int, Tryd.f45, inB]
noncomputable def ixWithin : List TV → Option TV
  | [.int .i64 n, .int .i64 a, .int .i64 b] => some (.bool (inB n a b))
  | _ => none
theorem ixWithin_ok : ∀ xs r, ixWithin xs = some r → PCalls Tryd.prog 45 xs r := by
  intro xs r h
  unfold ixWithin at h
  split at h
  · cases h; exact iWithin_c _ _ _
  · cases h
attribute [go_sem] ixWithin
noncomputable def spU1 : Pm.Spec := noSpec.one 45 ixWithin
@[go_sem] theorem spU1_p (f : FuncId) (xs : List TV) : spU1.p f xs = Pm.Spec.p (noSpec.one 45 ixWithin) f xs := rfl
@[go_sem] theorem spU1_h (f : FuncId) (ps : List PV) (hl : List PO) : spU1.h f ps hl = Pm.Spec.h (noSpec.one 45 ixWithin) f ps hl := rfl
@[go_sem] theorem spU1_fz (f : FuncId) : spU1.fz f = Pm.Spec.fz (noSpec.one 45 ixWithin) f := rfl
@[go_sem] theorem spU1_fr (f : FuncId) : spU1.fr f = Pm.Spec.fr (noSpec.one 45 ixWithin) f := rfl
@[go_sem] theorem spU1_mu (t : TypeId) : spU1.mu t = Pm.Spec.mu (noSpec.one 45 ixWithin) t := rfl
theorem spU1_ok : SpecOk Tryd.prog spU1 := Spec.one_ok ixWithin_ok noSpec_ok
theorem iCheck_c (t : Int) {l : List Int} {s : TV} (hl : IsRow ic s l) (hll : l.length ≤ 17592186044415) : PCalls Tryd.prog 17 [.agg [.int .i64 t, s]] (.int .i64 (if headOk t l then 0 else 10)) := by
  have h0 : chkTo t l 0 = (inB t 1 400 && inB l.length 1 12) := rfl
  have hall := chkTo_all t l
  have fin : ∀ b : Bool, headOk t l = b → headOk t l = b := fun _ h => h
  refine pcalls_by Tryd.mixes spU1_ok (fn := Tryd.f17) Tryd.func17 rfl (by kernel_rfl) (by show 1 ≤ _; decide) ?_
  rcases hl with ⟨rfl, rfl⟩ | ⟨f, rfl⟩
  · cases h1 : inB t 1 400 <;> simp (decide := true) (maxSteps := 4000000) only [go_sem, Nat.reduceAdd, Nat.reduceSub, Nat.reduceMul, Nat.reduceDiv, Nat.reduceMod, Nat.reduceLT, Nat.reduceLeDiff, Nat.reduceEqDiff, Nat.reduceBEq, Nat.reduceBNe, Nat.reduceGT, Int.reduceAdd, Int.reduceSub, Int.reduceMul, Int.reduceNeg, Int.reduceLT, Int.reduceLE, Int.reduceEq, Int.reduceNe, Int.reduceBEq, Int.reduceBNe, Int.reduceToNat, Int.reduceGT, Int.reduceGE, ↓reduceIte, decide_true, decide_false, eq_self, Nat.mul_one, Nat.zero_mul, Nat.one_mul, Int.le_refl, Nat.le_refl, Int.cast_ofNat_Int, Tryd.f17, h1]
    all_goals refine pwpC_loopU (A := Unit) [1, 17, 18] (fun _ => [(19, .t (.int .i64 0)), (3, .t (.bool false)), (4, .t (.int .i64 1))]) (fun _ => []) (fun _ => 0) () (by decide) (fun _ => by rfl) ?_ fun Q1 hQ1 _ I1 hI1 => ?_
    all_goals first
      | (simp (decide := true) (maxSteps := 4000000) only [go_sem, Nat.reduceAdd, Nat.reduceSub, Nat.reduceMul, Nat.reduceDiv, Nat.reduceMod, Nat.reduceLT, Nat.reduceLeDiff, Nat.reduceEqDiff, Nat.reduceBEq, Nat.reduceBNe, Nat.reduceGT, Int.reduceAdd, Int.reduceSub, Int.reduceMul, Int.reduceNeg, Int.reduceLT, Int.reduceLE, Int.reduceEq, Int.reduceNe, Int.reduceBEq, Int.reduceBNe, Int.reduceToNat, Int.reduceGT, Int.reduceGE, ↓reduceIte, decide_true, decide_false, eq_self, Nat.mul_one, Nat.zero_mul, Nat.one_mul, Int.le_refl, Nat.le_refl, Int.cast_ofNat_Int, inB]; done)
      | (simp (decide := true) (maxSteps := 4000000) only [go_sem, Nat.reduceAdd, Nat.reduceSub, Nat.reduceMul, Nat.reduceDiv, Nat.reduceMod, Nat.reduceLT, Nat.reduceLeDiff, Nat.reduceEqDiff, Nat.reduceBEq, Nat.reduceBNe, Nat.reduceGT, Int.reduceAdd, Int.reduceSub, Int.reduceMul, Int.reduceNeg, Int.reduceLT, Int.reduceLE, Int.reduceEq, Int.reduceNe, Int.reduceBEq, Int.reduceBNe, Int.reduceToNat, Int.reduceGT, Int.reduceGE, ↓reduceIte, decide_true, decide_false, eq_self, Nat.mul_one, Nat.zero_mul, Nat.one_mul, Int.le_refl, Nat.le_refl, Int.cast_ofNat_Int]
         refine hQ1 _ _ ?_
         have e : headOk t [] = false := by simp [headOk, inB]
         simp (decide := true) (maxSteps := 4000000) only [go_sem, Nat.reduceAdd, Nat.reduceSub, Nat.reduceMul, Nat.reduceDiv, Nat.reduceMod, Nat.reduceLT, Nat.reduceLeDiff, Nat.reduceEqDiff, Nat.reduceBEq, Nat.reduceBNe, Nat.reduceGT, Int.reduceAdd, Int.reduceSub, Int.reduceMul, Int.reduceNeg, Int.reduceLT, Int.reduceLE, Int.reduceEq, Int.reduceNe, Int.reduceBEq, Int.reduceBNe, Int.reduceToNat, Int.reduceGT, Int.reduceGE, ↓reduceIte, decide_true, decide_false, eq_self, Nat.mul_one, Nat.zero_mul, Nat.one_mul, Int.le_refl, Nat.le_refl, Int.cast_ofNat_Int, e])
  · rw [ic_ints]
    cases h1 : inB t 1 400 <;> cases h2 : inB (l.length : Int) 1 12 <;> simp (decide := true) (maxSteps := 4000000) only [go_sem, Nat.reduceAdd, Nat.reduceSub, Nat.reduceMul, Nat.reduceDiv, Nat.reduceMod, Nat.reduceLT, Nat.reduceLeDiff, Nat.reduceEqDiff, Nat.reduceBEq, Nat.reduceBNe, Nat.reduceGT, Int.reduceAdd, Int.reduceSub, Int.reduceMul, Int.reduceNeg, Int.reduceLT, Int.reduceLE, Int.reduceEq, Int.reduceNe, Int.reduceBEq, Int.reduceBNe, Int.reduceToNat, Int.reduceGT, Int.reduceGE, ↓reduceIte, decide_true, decide_false, eq_self, Nat.mul_one, Nat.zero_mul, Nat.one_mul, Int.le_refl, Nat.le_refl, Int.cast_ofNat_Int, Tryd.f17, h1, h2]
    all_goals
      refine pwpC_loopU (A := { k : Nat // k ≤ l.length }) [1, 17, 18] (fun k => [(19, .t (.int .i64 k.1)), (3, .t (.bool (chkTo t l k.1))), (4, .t (.int .i64 (lastTo l k.1)))]) (fun _ => []) (fun k => l.length - k.1) ⟨0, by omega⟩ (by decide) (fun _ => by rfl) ?_ fun Q1 hQ1 ⟨k, hk⟩ I1 hI1 => ?_
      · simp (decide := true) (maxSteps := 4000000) only [go_sem, Nat.reduceAdd, Nat.reduceSub, Nat.reduceMul, Nat.reduceDiv, Nat.reduceMod, Nat.reduceLT, Nat.reduceLeDiff, Nat.reduceEqDiff, Nat.reduceBEq, Nat.reduceBNe, Nat.reduceGT, Int.reduceAdd, Int.reduceSub, Int.reduceMul, Int.reduceNeg, Int.reduceLT, Int.reduceLE, Int.reduceEq, Int.reduceNe, Int.reduceBEq, Int.reduceBNe, Int.reduceToNat, Int.reduceGT, Int.reduceGE, ↓reduceIte, decide_true, decide_false, eq_self, Nat.mul_one, Nat.zero_mul, Nat.one_mul, Int.le_refl, Nat.le_refl, Int.cast_ofNat_Int, h0, h1, h2, lastTo]
      · by_cases hlt : (k : Int) < l.length
        · obtain ⟨x, hx⟩ := get_lt hlt
          have hd := ints_at hx
          rw [Nat.mul_one] at hd
          have hc1 : IntKind.i64.wrap (k + 1) = ((k + 1 : Nat) : Int) := by rw [wrap_in (by omega) (by omega)]; omega
          have hs := chkTo_succ (t := t) hx
          have hn : lastTo l (k + 1) = x := nthI_at hx
          cases hok : chkTo t l k <;> rw [hok] at hs <;> simp (decide := true) (maxSteps := 4000000) only [go_sem, Nat.reduceAdd, Nat.reduceSub, Nat.reduceMul, Nat.reduceDiv, Nat.reduceMod, Nat.reduceLT, Nat.reduceLeDiff, Nat.reduceEqDiff, Nat.reduceBEq, Nat.reduceBNe, Nat.reduceGT, Int.reduceAdd, Int.reduceSub, Int.reduceMul, Int.reduceNeg, Int.reduceLT, Int.reduceLE, Int.reduceEq, Int.reduceNe, Int.reduceBEq, Int.reduceBNe, Int.reduceToNat, Int.reduceGT, Int.reduceGE, ↓reduceIte, decide_true, decide_false, eq_self, Nat.mul_one, Nat.zero_mul, Nat.one_mul, Int.le_refl, Nat.le_refl, Int.cast_ofNat_Int, hlt, hd, hok]
          all_goals refine hI1 _ ⟨k + 1, by omega⟩ (by simp only; omega) ?_
          all_goals simp (decide := true) (maxSteps := 4000000) only [go_sem, Nat.reduceAdd, Nat.reduceSub, Nat.reduceMul, Nat.reduceDiv, Nat.reduceMod, Nat.reduceLT, Nat.reduceLeDiff, Nat.reduceEqDiff, Nat.reduceBEq, Nat.reduceBNe, Nat.reduceGT, Int.reduceAdd, Int.reduceSub, Int.reduceMul, Int.reduceNeg, Int.reduceLT, Int.reduceLE, Int.reduceEq, Int.reduceNe, Int.reduceBEq, Int.reduceBNe, Int.reduceToNat, Int.reduceGT, Int.reduceGE, ↓reduceIte, decide_true, decide_false, eq_self, Nat.mul_one, Nat.zero_mul, Nat.one_mul, Int.le_refl, Nat.le_refl, Int.cast_ofNat_Int, hc1, hs, hn]
        · have hke : k = l.length := by omega
          subst hke
          simp (decide := true) (maxSteps := 4000000) only [go_sem, Nat.reduceAdd, Nat.reduceSub, Nat.reduceMul, Nat.reduceDiv, Nat.reduceMod, Nat.reduceLT, Nat.reduceLeDiff, Nat.reduceEqDiff, Nat.reduceBEq, Nat.reduceBNe, Nat.reduceGT, Int.reduceAdd, Int.reduceSub, Int.reduceMul, Int.reduceNeg, Int.reduceLT, Int.reduceLE, Int.reduceEq, Int.reduceNe, Int.reduceBEq, Int.reduceBNe, Int.reduceToNat, Int.reduceGT, Int.reduceGE, ↓reduceIte, decide_true, decide_false, eq_self, Nat.mul_one, Nat.zero_mul, Nat.one_mul, Int.le_refl, Nat.le_refl, Int.cast_ofNat_Int, hlt]
          refine hQ1 _ _ ?_
          rw [hall]
          cases h3 : headOk t l <;> simp (decide := true) (maxSteps := 4000000) only [go_sem, Nat.reduceAdd, Nat.reduceSub, Nat.reduceMul, Nat.reduceDiv, Nat.reduceMod, Nat.reduceLT, Nat.reduceLeDiff, Nat.reduceEqDiff, Nat.reduceBEq, Nat.reduceBNe, Nat.reduceGT, Int.reduceAdd, Int.reduceSub, Int.reduceMul, Int.reduceNeg, Int.reduceLT, Int.reduceLE, Int.reduceEq, Int.reduceNe, Int.reduceBEq, Int.reduceBNe, Int.reduceToNat, Int.reduceGT, Int.reduceGE, ↓reduceIte, decide_true, decide_false, eq_self, Nat.mul_one, Nat.zero_mul, Nat.one_mul, Int.le_refl, Nat.le_refl, Int.cast_ofNat_Int, h3]
noncomputable def ixCheck : List TV → Option TV
  | [.agg [.int .i64 t, s]] => match rowL unI s with
    | some l => if l.length ≤ 17592186044415 then some (.int .i64 (if headOk t l then 0 else 10)) else none
    | none => none
  | _ => none
theorem ixCheck_ok : ∀ xs r, ixCheck xs = some r → PCalls Tryd.prog 17 xs r := by
  intro xs r h
  unfold ixCheck at h
  split at h
  · split at h
    · rename_i l hl
      have hl := rowL_some (un := unI) rfl (@unI_some) hl
      split at h
      · rename_i hc; cases h; exact iCheck_c _ hl hc
      · cases h
    · cases h
  · cases h
attribute [go_sem] ixCheck
noncomputable def spU2 : Pm.Spec := spU1.one 17 ixCheck
@[go_sem] theorem spU2_p (f : FuncId) (xs : List TV) : spU2.p f xs = Pm.Spec.p (spU1.one 17 ixCheck) f xs := rfl
@[go_sem] theorem spU2_h (f : FuncId) (ps : List PV) (hl : List PO) : spU2.h f ps hl = Pm.Spec.h (spU1.one 17 ixCheck) f ps hl := rfl
@[go_sem] theorem spU2_fz (f : FuncId) : spU2.fz f = Pm.Spec.fz (spU1.one 17 ixCheck) f := rfl
@[go_sem] theorem spU2_fr (f : FuncId) : spU2.fr f = Pm.Spec.fr (spU1.one 17 ixCheck) f := rfl
@[go_sem] theorem spU2_mu (t : TypeId) : spU2.mu t = Pm.Spec.mu (spU1.one 17 ixCheck) t := rfl
theorem spU2_ok : SpecOk Tryd.prog spU2 := Spec.one_ok ixCheck_ok spU1_ok
/-- A head that is opened: the head, the error. -/
def openE (t : Int) (l : List Int) (n most : Int) : Int := if headOk t l = false then 10 else if inB n 1 most = false then 11 else 0
theorem iOpened_c (t : Int) {l : List Int} {s : TV} (hl : IsRow ic s l) (hll : l.length ≤ 17592186044415) (n most : Int) : PCalls Tryd.prog 42 [.agg [.int .i64 t, s], .int .i64 n, .int .i64 most]
    (.tup [if openE t l n most = 0 then .agg [.int .i64 t, s] else .agg [.int .i64 0, .nilSl], .int .i64 (openE t l n most)]) := by
  have rI := rowI_is hl
  unfold rowL at rI
  unfold openE
  refine pcalls_by Tryd.mixes spU2_ok (fn := Tryd.f42) Tryd.func42 rfl (by kernel_rfl) (by show 3 ≤ _; decide) ?_
  cases h1 : headOk t l
  · simp (decide := true) (maxSteps := 4000000) only [go_sem, Nat.reduceAdd, Nat.reduceSub, Nat.reduceMul, Nat.reduceDiv, Nat.reduceMod, Nat.reduceLT, Nat.reduceLeDiff, Nat.reduceEqDiff, Nat.reduceBEq, Nat.reduceBNe, Nat.reduceGT, Int.reduceAdd, Int.reduceSub, Int.reduceMul, Int.reduceNeg, Int.reduceLT, Int.reduceLE, Int.reduceEq, Int.reduceNe, Int.reduceBEq, Int.reduceBNe, Int.reduceToNat, Int.reduceGT, Int.reduceGE, ↓reduceIte, decide_true, decide_false, eq_self, Nat.mul_one, Nat.zero_mul, Nat.one_mul, Int.le_refl, Nat.le_refl, Int.cast_ofNat_Int, Tryd.f42, rI, hll, h1]
  · cases h2 : inB n 1 most <;> simp (decide := true) (maxSteps := 4000000) only [go_sem, Nat.reduceAdd, Nat.reduceSub, Nat.reduceMul, Nat.reduceDiv, Nat.reduceMod, Nat.reduceLT, Nat.reduceLeDiff, Nat.reduceEqDiff, Nat.reduceBEq, Nat.reduceBNe, Nat.reduceGT, Int.reduceAdd, Int.reduceSub, Int.reduceMul, Int.reduceNeg, Int.reduceLT, Int.reduceLE, Int.reduceEq, Int.reduceNe, Int.reduceBEq, Int.reduceBNe, Int.reduceToNat, Int.reduceGT, Int.reduceGE, ↓reduceIte, decide_true, decide_false, eq_self, Nat.mul_one, Nat.zero_mul, Nat.one_mul, Int.le_refl, Nat.le_refl, Int.cast_ofNat_Int, Tryd.f42, rI, hll, h1, h2]
noncomputable def ixOpened : List TV → Option TV
  | [.agg [.int .i64 t, s], .int .i64 n, .int .i64 most] => match rowL unI s with
    | some l => if l.length ≤ 17592186044415 then some (.tup [if openE t l n most = 0 then .agg [.int .i64 t, s] else .agg [.int .i64 0, .nilSl], .int .i64 (openE t l n most)]) else none
    | none => none
  | _ => none
theorem ixOpened_ok : ∀ xs r, ixOpened xs = some r → PCalls Tryd.prog 42 xs r := by
  intro xs r h
  unfold ixOpened at h
  split at h
  · split at h
    · rename_i l hl
      have hl := rowL_some (un := unI) rfl (@unI_some) hl
      split at h
      · rename_i hc; cases h; exact iOpened_c _ hl hc _ _
      · cases h
    · cases h
  · cases h
attribute [go_sem] ixOpened
noncomputable def spU3 : Pm.Spec := spU2.one 42 ixOpened
@[go_sem] theorem spU3_p (f : FuncId) (xs : List TV) : spU3.p f xs = Pm.Spec.p (spU2.one 42 ixOpened) f xs := rfl
@[go_sem] theorem spU3_h (f : FuncId) (ps : List PV) (hl : List PO) : spU3.h f ps hl = Pm.Spec.h (spU2.one 42 ixOpened) f ps hl := rfl
@[go_sem] theorem spU3_fz (f : FuncId) : spU3.fz f = Pm.Spec.fz (spU2.one 42 ixOpened) f := rfl
@[go_sem] theorem spU3_fr (f : FuncId) : spU3.fr f = Pm.Spec.fr (spU2.one 42 ixOpened) f := rfl
@[go_sem] theorem spU3_mu (t : TypeId) : spU3.mu t = Pm.Spec.mu (spU2.one 42 ixOpened) t := rfl
theorem spU3_ok : SpecOk Tryd.prog spU3 := Spec.one_ok ixOpened_ok spU2_ok
/-- Plans. -/
theorem iPlanCrank_c (p : Pl) (t : Int) {l : List Int} (f : Bool) {k : Nat} {h : Int} (hk : l[k]? = some h) (hc : p.c = k) : PCalls Tryd.prog 86 [p.tv, .agg [.int .i64 t, .sl (ints l) l.length f]] (.tup [.int .i64 (IntKind.i64.wrap (IntKind.i64.wrap (p.t * h) + p.h)), .int .i64 h]) := by
  obtain ⟨c, a, b⟩ := p
  simp only at hc
  subst hc
  have hlt : (k : Int) < l.length := by have := (List.getElem?_eq_some_iff.1 hk).1; omega
  have hd := ints_at hk
  rw [Nat.mul_one] at hd
  refine pcalls_by Tryd.mixes spU3_ok (fn := Tryd.f86) Tryd.func86 rfl (by kernel_rfl) (by show 2 ≤ _; decide) ?_
  simp (decide := true) (maxSteps := 4000000) only [go_sem, Nat.reduceAdd, Nat.reduceSub, Nat.reduceMul, Nat.reduceDiv, Nat.reduceMod, Nat.reduceLT, Nat.reduceLeDiff, Nat.reduceEqDiff, Nat.reduceBEq, Nat.reduceBNe, Nat.reduceGT, Int.reduceAdd, Int.reduceSub, Int.reduceMul, Int.reduceNeg, Int.reduceLT, Int.reduceLE, Int.reduceEq, Int.reduceNe, Int.reduceBEq, Int.reduceBNe, Int.reduceToNat, Int.reduceGT, Int.reduceGE, ↓reduceIte, decide_true, decide_false, eq_self, Nat.mul_one, Nat.zero_mul, Nat.one_mul, Int.le_refl, Nat.le_refl, Int.cast_ofNat_Int, Tryd.f86, Pl.tv, Pl.cs, hlt, hd]
noncomputable def ixPlanCrank : List TV → Option TV
  | [.agg [.int .i64 c, .int .i64 a, .int .i64 b], .agg [.int .i64 t, .sl cs n f]] => match unI cs with
    | some l => if n = l.length ∧ 0 ≤ c ∧ c < l.length then some (.tup [.int .i64 (IntKind.i64.wrap (IntKind.i64.wrap (a * nthI l c) + b)), .int .i64 (nthI l c)]) else none
    | none => none
  | _ => none
theorem ixPlanCrank_ok : ∀ xs r, ixPlanCrank xs = some r → PCalls Tryd.prog 86 xs r := by
  intro xs r h
  unfold ixPlanCrank at h
  split at h
  · rename_i c a b t cs n f
    split at h
    · rename_i l hl
      split at h
      · rename_i hc; cases h
        obtain ⟨rfl, h1, h2⟩ := hc
        have e := unI_some hl
        rw [ic_ints] at e
        subst e
        obtain ⟨x, hx⟩ := get_lt (l := l) (k := c.toNat) (by omega)
        have hn : nthI l c = x := by have := nthI_at hx; rwa [Int.toNat_of_nonneg h1] at this
        have := iPlanCrank_c ⟨c, a, b⟩ t f hx (by simp only; omega)
        rw [hn]
        exact this
      · cases h
    · cases h
  · cases h
attribute [go_sem] ixPlanCrank
noncomputable def spU4 : Pm.Spec := spU3.one 86 ixPlanCrank
@[go_sem] theorem spU4_p (f : FuncId) (xs : List TV) : spU4.p f xs = Pm.Spec.p (spU3.one 86 ixPlanCrank) f xs := rfl
@[go_sem] theorem spU4_h (f : FuncId) (ps : List PV) (hl : List PO) : spU4.h f ps hl = Pm.Spec.h (spU3.one 86 ixPlanCrank) f ps hl := rfl
@[go_sem] theorem spU4_fz (f : FuncId) : spU4.fz f = Pm.Spec.fz (spU3.one 86 ixPlanCrank) f := rfl
@[go_sem] theorem spU4_fr (f : FuncId) : spU4.fr f = Pm.Spec.fr (spU3.one 86 ixPlanCrank) f := rfl
@[go_sem] theorem spU4_mu (t : TypeId) : spU4.mu t = Pm.Spec.mu (spU3.one 86 ixPlanCrank) t := rfl
theorem spU4_ok : SpecOk Tryd.prog spU4 := Spec.one_ok ixPlanCrank_ok spU3_ok
theorem mthPlan : methodO Tryd.prog 102 ((nameAt Tryd.f62 0).getD Tryd.f45.name) = some 86 := by kernel_rfl
theorem iClosesPlan_c (p : Pl) (t n : Int) {l : List Int} (f : Bool) {k : Nat} {h : Int} (hk : l[k]? = some h) (hc : p.c = k) : PCalls Tryd.prog 62 [.agg [.int .i64 t, .sl (ints l) l.length f], .int .i64 n, .ifc 102 p.tv]
    (.bool (IntKind.i64.wrap (n * IntKind.i64.wrap (IntKind.i64.wrap (p.t * h) + p.h)) == IntKind.i64.wrap (t * h))) := by
  obtain ⟨c, a, b⟩ := p
  simp only at hc
  subst hc
  have hlt : (k : Int) < l.length := by have := (List.getElem?_eq_some_iff.1 hk).1; omega
  have hm := mth_of (l := nameAt Tryd.f62 0) rfl mthPlan
  have hn := nthI_at hk
  have h0 : (0 : Int) ≤ (k : Int) ∧ (k : Int) < l.length := ⟨by omega, hlt⟩
  refine pcalls_by Tryd.mixes spU4_ok (fn := Tryd.f62) Tryd.func62 rfl (by kernel_rfl) (by show 3 ≤ _; decide) ?_
  simp (decide := true) (maxSteps := 4000000) only [go_sem, Nat.reduceAdd, Nat.reduceSub, Nat.reduceMul, Nat.reduceDiv, Nat.reduceMod, Nat.reduceLT, Nat.reduceLeDiff, Nat.reduceEqDiff, Nat.reduceBEq, Nat.reduceBNe, Nat.reduceGT, Int.reduceAdd, Int.reduceSub, Int.reduceMul, Int.reduceNeg, Int.reduceLT, Int.reduceLE, Int.reduceEq, Int.reduceNe, Int.reduceBEq, Int.reduceBNe, Int.reduceToNat, Int.reduceGT, Int.reduceGE, ↓reduceIte, decide_true, decide_false, eq_self, Nat.mul_one, Nat.zero_mul, Nat.one_mul, Int.le_refl, Nat.le_refl, Int.cast_ofNat_Int, Tryd.f62, Pl.tv, Pl.cs, hlt, hm, unI_eq, hn, h0]
end Go.Proofs.YtnoahnbjdapieaaDoor

/- Part Iv. -/
namespace Go.Oc
open Go Go.Pm
theorem plansTo_at {t : Int} {l : List Int} {n : Int} {k m : Nat} {p : Pl} (hk : k < m) (h : planAt t (nthI l k) n k = some p) : (plansTo t l n m)[(plansTo t l n k).length]? = some p := by
  induction m with
  | zero => omega
  | succ m ih =>
    rw [plansTo_succ]
    by_cases hkm : k = m
    · subst hkm
      rw [List.getElem?_append_right (Nat.le_refl _), Nat.sub_self, h]; rfl
    · have h1 := ih (by omega)
      have h2 := (List.getElem?_eq_some_iff.1 h1).1
      rw [List.getElem?_append_left h2]; exact h1
def planV (t : Int) (l : List Int) (n : Int) : List (List TV) := (plansP t l n).map fun p => [p.tv]
theorem planV_len (t : Int) (l : List Int) (n : Int) : (planV t l n).length = (plansTo t l n l.length).length := by simp [planV, plansP]
theorem mulB {a b A B : Int} (ha : 0 ≤ a) (hb : 0 ≤ b) (h1 : a ≤ A) (h2 : b ≤ B) : 0 ≤ a * b ∧ a * b ≤ A * B :=
  ⟨Int.mul_nonneg ha hb, Int.mul_le_mul h1 h2 hb (by omega)⟩
end Go.Oc
namespace Go.Proofs.YtnoahnbjdapieaaDoor
open Go.RowKit Go.Pm Go.Oc
set_option maxRecDepth 100000
set_option linter.unusedVariables false
set_option maxHeartbeats 4000000

noncomputable def ixClosesPlan : List TV → Option TV
  | [.agg [.int .i64 t, .sl cs m f], .int .i64 n, .ifc ty (.agg [.int .i64 c, .int .i64 a, .int .i64 b])] => match unI cs with
    | some l => if m = l.length ∧ ty = 102 ∧ 0 ≤ c ∧ c < l.length then some (.bool (IntKind.i64.wrap (n * IntKind.i64.wrap (IntKind.i64.wrap (a * nthI l c) + b)) == IntKind.i64.wrap (t * nthI l c))) else none
    | none => none
  | _ => none
theorem ixClosesPlan_ok : ∀ xs r, ixClosesPlan xs = some r → PCalls Tryd.prog 62 xs r := by
  intro xs r h
  unfold ixClosesPlan at h
  split at h
  · rename_i t cs m f n ty c a b
    split at h
    · rename_i l hl
      split at h
      · rename_i hc; cases h
        obtain ⟨rfl, rfl, h1, h2⟩ := hc
        have e := unI_some hl
        rw [ic_ints] at e
        subst e
        obtain ⟨x, hx⟩ := get_lt (l := l) (k := c.toNat) (by omega)
        have hn : nthI l c = x := by have := nthI_at hx; rwa [Int.toNat_of_nonneg h1] at this
        have := iClosesPlan_c ⟨c, a, b⟩ t n f hx (by simp only; omega)
        rw [hn]
        exact this
      · cases h
    · cases h
  · cases h
attribute [go_sem] ixClosesPlan
noncomputable def spV1 : Pm.Spec := spU3.one 62 ixClosesPlan
@[go_sem] theorem spV1_p (f : FuncId) (xs : List TV) : spV1.p f xs = Pm.Spec.p (spU3.one 62 ixClosesPlan) f xs := rfl
@[go_sem] theorem spV1_h (f : FuncId) (ps : List PV) (hl : List PO) : spV1.h f ps hl = Pm.Spec.h (spU3.one 62 ixClosesPlan) f ps hl := rfl
@[go_sem] theorem spV1_fz (f : FuncId) : spV1.fz f = Pm.Spec.fz (spU3.one 62 ixClosesPlan) f := rfl
@[go_sem] theorem spV1_fr (f : FuncId) : spV1.fr f = Pm.Spec.fr (spU3.one 62 ixClosesPlan) f := rfl
@[go_sem] theorem spV1_mu (t : TypeId) : spV1.mu t = Pm.Spec.mu (spU3.one 62 ixClosesPlan) t := rfl
theorem spV1_ok : SpecOk Tryd.prog spV1 := Spec.one_ok ixClosesPlan_ok spU3_ok
theorem iPlans1_c {t : Int} {l : List Int} (f : Bool) (hh : headOk t l = true) {n : Int} (hn : 1 ≤ n) (hn2 : n ≤ 20000) :
    Iter Tryd.prog 61 [] [.cptr [.int .i64 t, .sl (ints l) l.length f], .cptr [.int .i64 n]] (planV t l n) := by
  have hh' := headOk_iff.1 hh
  have hzl := planV_len t l n
  have hn0 : ¬ n = 0 := by omega
  refine iter_by Tryd.mixes spV1_ok (fn := Tryd.f61) Tryd.func61 rfl (by kernel_rfl) rfl (by show 3 ≤ _; decide) ?_
  intro y M stop hm1 hm2 hm3
  simp (decide := true) (maxSteps := 4000000) only [go_sem, Nat.reduceAdd, Nat.reduceSub, Nat.reduceMul, Nat.reduceDiv, Nat.reduceMod, Nat.reduceLT, Nat.reduceLeDiff, Nat.reduceEqDiff, Nat.reduceBEq, Nat.reduceBNe, Nat.reduceGT, Int.reduceAdd, Int.reduceSub, Int.reduceMul, Int.reduceNeg, Int.reduceLT, Int.reduceLE, Int.reduceEq, Int.reduceNe, Int.reduceBEq, Int.reduceBNe, Int.reduceToNat, Int.reduceGT, Int.reduceGE, ↓reduceIte, decide_true, decide_false, eq_self, Nat.mul_one, Nat.zero_mul, Nat.one_mul, Int.le_refl, Nat.le_refl, Int.cast_ofNat_Int, Tryd.f61]
  refine pwpC_loopU (A := { k : Nat // k ≤ l.length ∧ (stop = true → (plansTo t l n k).length < M) }) [0, 1, 2, 10, 11] (fun k => [(12, .t (.int .i64 k.1))]) (fun k => [(0, .cnt (plansTo t l n k.1).length)]) (fun k => l.length - k.1) ⟨0, by omega, fun h => hm3 h⟩ (by decide) (fun _ => by rfl) ?_ fun Q1 hQ1 ⟨k, hk, hst⟩ I1 hI1 => ?_
  · simp (decide := true) (maxSteps := 4000000) only [go_sem, Nat.reduceAdd, Nat.reduceSub, Nat.reduceMul, Nat.reduceDiv, Nat.reduceMod, Nat.reduceLT, Nat.reduceLeDiff, Nat.reduceEqDiff, Nat.reduceBEq, Nat.reduceBNe, Nat.reduceGT, Int.reduceAdd, Int.reduceSub, Int.reduceMul, Int.reduceNeg, Int.reduceLT, Int.reduceLE, Int.reduceEq, Int.reduceNe, Int.reduceBEq, Int.reduceBNe, Int.reduceToNat, Int.reduceGT, Int.reduceGE, ↓reduceIte, decide_true, decide_false, eq_self, Nat.mul_one, Nat.zero_mul, Nat.one_mul, Int.le_refl, Nat.le_refl, Int.cast_ofNat_Int, plansTo, List.range_zero, List.filterMap_nil, List.length_nil]
  · by_cases hlt : (k : Int) < l.length
    · obtain ⟨h, hx⟩ := get_lt hlt
      have hd := ints_at hx
      rw [Nat.mul_one] at hd
      have hnth := nthI_at hx
      have hb := head_at hh hx
      have hk1 : IntKind.i64.wrap (k + 1) = ((k + 1 : Nat) : Int) := by rw [wrap_in (by omega) (by omega)]; omega
      have hb1 := mulB (a := t) (b := h) (A := 400) (B := 200) (by omega) (by omega) (by omega) (by omega)
      have w1 : IntKind.i64.wrap (t * h) = t * h := wrap_in (by omega) (by omega)
      obtain ⟨q, hq⟩ : ∃ q, t * h / n = q := ⟨_, rfl⟩
      have hq0 : 0 ≤ q := by rw [← hq]; exact Int.ediv_nonneg hb1.1 (by omega)
      have hq1 : q ≤ 80000 := by
        have := Int.ediv_le_self n hb1.1
        omega
      have w2 : IntKind.i64.wrap ((t * h).tdiv n) = q := by rw [Int.tdiv_eq_ediv_of_nonneg hb1.1, hq]; exact wrap_in (by omega) (by omega)
      have q1 := Int.mul_ediv_add_emod q h
      have q2 := Int.emod_nonneg q (show h ≠ 0 by omega)
      have q3 := Int.emod_lt_of_pos q (show 0 < h by omega)
      have q4 : 0 ≤ q / h := Int.ediv_nonneg hq0 (by omega)
      have q5 : q / h ≤ q := Int.ediv_le_self h hq0
      have w3 : IntKind.i64.wrap (q.tdiv h) = q / h := by rw [Int.tdiv_eq_ediv_of_nonneg hq0]; exact wrap_in (by omega) (by omega)
      have w4 : q.tmod h = q % h := Int.tmod_eq_emod_of_nonneg hq0
      have w5 : IntKind.i64.wrap (IntKind.i64.wrap (q / h * h) + q % h) = q := by
        have e : q / h * h + q % h = q := by rw [Int.mul_comm]; exact q1
        have hb2 : 0 ≤ q / h * h := Int.mul_nonneg q4 (by omega)
        rw [wrap_in (n := q / h * h) (by omega) (by omega), e]
        exact wrap_in (by omega) (by omega)
      have hb3 := mulB (a := n) (b := q) (A := 20000) (B := 80000) (by omega) hq0 hn2 hq1
      have w6 : IntKind.i64.wrap (n * q) = n * q := wrap_in (by omega) (by omega)
      have hh0 : ¬ h = 0 := by omega
      have hp : (0 : Int) ≤ (k : Int) ∧ (k : Int) < l.length := ⟨by omega, hlt⟩
      have hdm := Int.mul_ediv_add_emod (t * h) n
      rw [hq] at hdm
      have hpl : planAt t h n k = if t * h % n = 0 then some ⟨k, q / h, q % h⟩ else none := by unfold planAt; rw [hq]
      have hsu := plansTo_succ t l n k
      rw [hnth, hpl] at hsu
      by_cases hcl : t * h % n = 0
      · have hcl' : (n * q == t * h) = true := beq_int_t (by omega)
        rw [if_pos hcl] at hsu hpl
        have hlen : (plansTo t l n (k + 1)).length = (plansTo t l n k).length + 1 := by rw [hsu]; simp
        have hat : (planV t l n)[(plansTo t l n k).length]? = some [.agg [.int .i64 k, .int .i64 (q / h), .int .i64 (q % h)]] := by
          have := plansTo_at (m := l.length) (n := n) (t := t) (l := l) (k := k) (by omega) (by rw [hnth]; exact hpl)
          unfold planV plansP
          rw [List.getElem?_map, this]; rfl
        have hbd : (plansTo t l n k).length < (planV t l n).length := (List.getElem?_eq_some_iff.1 hat).1
        have hcm : (plansTo t l n k).length < M := by
          cases stop with
          | true => exact hst rfl
          | false => rw [hm2 rfl]; exact hbd
        by_cases hs : (stop && (plansTo t l n k).length + 1 == M) = true
        · have hs' := hs
          simp only [Bool.and_eq_true, beq_iff_eq] at hs'
          simp (decide := true) (maxSteps := 4000000) only [go_sem, Nat.reduceAdd, Nat.reduceSub, Nat.reduceMul, Nat.reduceDiv, Nat.reduceMod, Nat.reduceLT, Nat.reduceLeDiff, Nat.reduceEqDiff, Nat.reduceBEq, Nat.reduceBNe, Nat.reduceGT, Int.reduceAdd, Int.reduceSub, Int.reduceMul, Int.reduceNeg, Int.reduceLT, Int.reduceLE, Int.reduceEq, Int.reduceNe, Int.reduceBEq, Int.reduceBNe, Int.reduceToNat, Int.reduceGT, Int.reduceGE, ↓reduceIte, decide_true, decide_false, eq_self, Nat.mul_one, Nat.zero_mul, Nat.one_mul, Int.le_refl, Nat.le_refl, Int.cast_ofNat_Int, hlt, hd, w1, hn0, w2, hh0, w3, w4, unI_eq, hnth, hp, w5, w6, hcl', hat, hcm, hs]
          refine hQ1 _ _ ?_
          simp (decide := true) (maxSteps := 4000000) only [go_sem, Nat.reduceAdd, Nat.reduceSub, Nat.reduceMul, Nat.reduceDiv, Nat.reduceMod, Nat.reduceLT, Nat.reduceLeDiff, Nat.reduceEqDiff, Nat.reduceBEq, Nat.reduceBNe, Nat.reduceGT, Int.reduceAdd, Int.reduceSub, Int.reduceMul, Int.reduceNeg, Int.reduceLT, Int.reduceLE, Int.reduceEq, Int.reduceNe, Int.reduceBEq, Int.reduceBNe, Int.reduceToNat, Int.reduceGT, Int.reduceGE, ↓reduceIte, decide_true, decide_false, eq_self, Nat.mul_one, Nat.zero_mul, Nat.one_mul, Int.le_refl, Nat.le_refl, Int.cast_ofNat_Int, hs'.1, hs'.2]
        · have hs0 : (stop && (plansTo t l n k).length + 1 == M) = false := by simpa using hs
          simp (decide := true) (maxSteps := 4000000) only [go_sem, Nat.reduceAdd, Nat.reduceSub, Nat.reduceMul, Nat.reduceDiv, Nat.reduceMod, Nat.reduceLT, Nat.reduceLeDiff, Nat.reduceEqDiff, Nat.reduceBEq, Nat.reduceBNe, Nat.reduceGT, Int.reduceAdd, Int.reduceSub, Int.reduceMul, Int.reduceNeg, Int.reduceLT, Int.reduceLE, Int.reduceEq, Int.reduceNe, Int.reduceBEq, Int.reduceBNe, Int.reduceToNat, Int.reduceGT, Int.reduceGE, ↓reduceIte, decide_true, decide_false, eq_self, Nat.mul_one, Nat.zero_mul, Nat.one_mul, Int.le_refl, Nat.le_refl, Int.cast_ofNat_Int, hlt, hd, w1, hn0, w2, hh0, w3, w4, unI_eq, hnth, hp, w5, w6, hcl', hat, hcm, hs0]
          refine hI1 _ ⟨k + 1, by omega, fun h => ?_⟩ (by simp only; omega) ?_
          · subst h; simp at hs0; rw [hlen]; omega
          · simp (decide := true) (maxSteps := 4000000) only [go_sem, Nat.reduceAdd, Nat.reduceSub, Nat.reduceMul, Nat.reduceDiv, Nat.reduceMod, Nat.reduceLT, Nat.reduceLeDiff, Nat.reduceEqDiff, Nat.reduceBEq, Nat.reduceBNe, Nat.reduceGT, Int.reduceAdd, Int.reduceSub, Int.reduceMul, Int.reduceNeg, Int.reduceLT, Int.reduceLE, Int.reduceEq, Int.reduceNe, Int.reduceBEq, Int.reduceBNe, Int.reduceToNat, Int.reduceGT, Int.reduceGE, ↓reduceIte, decide_true, decide_false, eq_self, Nat.mul_one, Nat.zero_mul, Nat.one_mul, Int.le_refl, Nat.le_refl, Int.cast_ofNat_Int, hk1, hlen]
      · have hcl' : (n * q == t * h) = false := beq_int_f (by
          have := Int.emod_nonneg (t * h) (show n ≠ 0 by omega)
          omega)
        rw [if_neg hcl] at hsu
        have hlen : (plansTo t l n (k + 1)).length = (plansTo t l n k).length := by rw [hsu]; simp
        simp (decide := true) (maxSteps := 4000000) only [go_sem, Nat.reduceAdd, Nat.reduceSub, Nat.reduceMul, Nat.reduceDiv, Nat.reduceMod, Nat.reduceLT, Nat.reduceLeDiff, Nat.reduceEqDiff, Nat.reduceBEq, Nat.reduceBNe, Nat.reduceGT, Int.reduceAdd, Int.reduceSub, Int.reduceMul, Int.reduceNeg, Int.reduceLT, Int.reduceLE, Int.reduceEq, Int.reduceNe, Int.reduceBEq, Int.reduceBNe, Int.reduceToNat, Int.reduceGT, Int.reduceGE, ↓reduceIte, decide_true, decide_false, eq_self, Nat.mul_one, Nat.zero_mul, Nat.one_mul, Int.le_refl, Nat.le_refl, Int.cast_ofNat_Int, hlt, hd, w1, hn0, w2, hh0, w3, w4, unI_eq, hnth, hp, w5, w6, hcl']
        refine hI1 _ ⟨k + 1, by omega, fun h => by rw [hlen]; exact hst h⟩ (by simp only; omega) ?_
        simp (decide := true) (maxSteps := 4000000) only [go_sem, Nat.reduceAdd, Nat.reduceSub, Nat.reduceMul, Nat.reduceDiv, Nat.reduceMod, Nat.reduceLT, Nat.reduceLeDiff, Nat.reduceEqDiff, Nat.reduceBEq, Nat.reduceBNe, Nat.reduceGT, Int.reduceAdd, Int.reduceSub, Int.reduceMul, Int.reduceNeg, Int.reduceLT, Int.reduceLE, Int.reduceEq, Int.reduceNe, Int.reduceBEq, Int.reduceBNe, Int.reduceToNat, Int.reduceGT, Int.reduceGE, ↓reduceIte, decide_true, decide_false, eq_self, Nat.mul_one, Nat.zero_mul, Nat.one_mul, Int.le_refl, Nat.le_refl, Int.cast_ofNat_Int, hk1, hlen]
    · have hke : k = l.length := by omega
      subst hke
      simp (decide := true) (maxSteps := 4000000) only [go_sem, Nat.reduceAdd, Nat.reduceSub, Nat.reduceMul, Nat.reduceDiv, Nat.reduceMod, Nat.reduceLT, Nat.reduceLeDiff, Nat.reduceEqDiff, Nat.reduceBEq, Nat.reduceBNe, Nat.reduceGT, Int.reduceAdd, Int.reduceSub, Int.reduceMul, Int.reduceNeg, Int.reduceLT, Int.reduceLE, Int.reduceEq, Int.reduceNe, Int.reduceBEq, Int.reduceBNe, Int.reduceToNat, Int.reduceGT, Int.reduceGE, ↓reduceIte, decide_true, decide_false, eq_self, Nat.mul_one, Nat.zero_mul, Nat.one_mul, Int.le_refl, Nat.le_refl, Int.cast_ofNat_Int, hlt]
      refine hQ1 _ _ ?_
      simp (decide := true) (maxSteps := 4000000) only [go_sem, Nat.reduceAdd, Nat.reduceSub, Nat.reduceMul, Nat.reduceDiv, Nat.reduceMod, Nat.reduceLT, Nat.reduceLeDiff, Nat.reduceEqDiff, Nat.reduceBEq, Nat.reduceBNe, Nat.reduceGT, Int.reduceAdd, Int.reduceSub, Int.reduceMul, Int.reduceNeg, Int.reduceLT, Int.reduceLE, Int.reduceEq, Int.reduceNe, Int.reduceBEq, Int.reduceBNe, Int.reduceToNat, Int.reduceGT, Int.reduceGE, ↓reduceIte, decide_true, decide_false, eq_self, Nat.mul_one, Nat.zero_mul, Nat.one_mul, Int.le_refl, Nat.le_refl, Int.cast_ofNat_Int]
      cases stop with
      | false => rw [hm2 rfl, hzl]
      | true => have := hst rfl; omega
noncomputable def spV2 : Pm.Spec := { spV1 with fz := fun f => f == 61 }
theorem spV2_ok : SpecOk Tryd.prog spV2 := ⟨spV1_ok.1, spV1_ok.2⟩
@[go_sem] theorem spV2_p (f : FuncId) (xs : List TV) : spV2.p f xs = spV1.p f xs := rfl
@[go_sem] theorem spV2_h (f : FuncId) (ps : List PV) (hl : List PO) : spV2.h f ps hl = spV1.h f ps hl := rfl
@[go_sem] theorem spV2_fz (f : FuncId) : spV2.fz f = (f == 61) := rfl
@[go_sem] theorem spV2_fr (f : FuncId) : spV2.fr f = spV1.fr f := rfl
@[go_sem] theorem spV2_mu (t : TypeId) : spV2.mu t = spV1.mu t := rfl
theorem iHeadPlans_c (t n : Int) (s : TV) : PCalls Tryd.prog 43 [.agg [.int .i64 t, s], .int .i64 n] (.fn 61 [] [.cptr [.int .i64 t, s], .cptr [.int .i64 n]]) := by
  refine pcalls_by Tryd.mixes spV2_ok (fn := Tryd.f43) Tryd.func43 rfl (by kernel_rfl) (by show 2 ≤ _; decide) ?_
  simp (decide := true) (maxSteps := 4000000) only [go_sem, Nat.reduceAdd, Nat.reduceSub, Nat.reduceMul, Nat.reduceDiv, Nat.reduceMod, Nat.reduceLT, Nat.reduceLeDiff, Nat.reduceEqDiff, Nat.reduceBEq, Nat.reduceBNe, Nat.reduceGT, Int.reduceAdd, Int.reduceSub, Int.reduceMul, Int.reduceNeg, Int.reduceLT, Int.reduceLE, Int.reduceEq, Int.reduceNe, Int.reduceBEq, Int.reduceBNe, Int.reduceToNat, Int.reduceGT, Int.reduceGE, ↓reduceIte, decide_true, decide_false, eq_self, Nat.mul_one, Nat.zero_mul, Nat.one_mul, Int.le_refl, Nat.le_refl, Int.cast_ofNat_Int, Tryd.f43]
noncomputable def ixHeadPlans : List TV → Option TV
  | [.agg [.int .i64 t, s], .int .i64 n] => some (.fn 61 [] [.cptr [.int .i64 t, s], .cptr [.int .i64 n]])
  | _ => none
theorem ixHeadPlans_ok : ∀ xs r, ixHeadPlans xs = some r → PCalls Tryd.prog 43 xs r := by
  intro xs r h
  unfold ixHeadPlans at h
  split at h
  · cases h; exact iHeadPlans_c _ _ _
  · cases h
attribute [go_sem] ixHeadPlans
noncomputable def spV3 : Pm.Spec := spU3.one 43 ixHeadPlans
@[go_sem] theorem spV3_p (f : FuncId) (xs : List TV) : spV3.p f xs = Pm.Spec.p (spU3.one 43 ixHeadPlans) f xs := rfl
@[go_sem] theorem spV3_h (f : FuncId) (ps : List PV) (hl : List PO) : spV3.h f ps hl = Pm.Spec.h (spU3.one 43 ixHeadPlans) f ps hl := rfl
@[go_sem] theorem spV3_fz (f : FuncId) : spV3.fz f = Pm.Spec.fz (spU3.one 43 ixHeadPlans) f := rfl
@[go_sem] theorem spV3_fr (f : FuncId) : spV3.fr f = Pm.Spec.fr (spU3.one 43 ixHeadPlans) f := rfl
@[go_sem] theorem spV3_mu (t : TypeId) : spV3.mu t = Pm.Spec.mu (spU3.one 43 ixHeadPlans) t := rfl
theorem spV3_ok : SpecOk Tryd.prog spV3 := Spec.one_ok ixHeadPlans_ok spU3_ok
end Go.Proofs.YtnoahnbjdapieaaDoor

/- Part Iw. -/
namespace Go.Oc
open Go Go.Pm
set_option maxRecDepth 100000
def unPls : List TV → Option (List Pl)
  | [] => some []
  | .int .i64 a :: .int .i64 b :: .int .i64 c :: r => (unPls r).map (⟨a, b, c⟩ :: ·)
  | _ => none
theorem unPls_eq : ∀ l : List Pl, unPls (l.flatMap Pl.cs) = some l
  | [] => rfl
  | x :: l => by
    show (unPls (l.flatMap Pl.cs)).map (x :: ·) = some (x :: l)
    rw [unPls_eq l]; rfl
theorem unPls_some : ∀ {cs : List TV} {l : List Pl}, unPls cs = some l → cs = l.flatMap Pl.cs := by
  intro cs
  induction cs using unPls.induct with
  | case1 => intro l h; simp [unPls] at h; subst h; rfl
  | case2 a b c r ih =>
    intro l h
    simp only [unPls, Option.map_eq_some_iff] at h
    obtain ⟨l', h1, rfl⟩ := h
    rw [ih h1]; rfl
  | case3 cs h1 h2 => intro l h; simp [unPls] at h
def unPrs : List TV → Option (List Pr)
  | [] => some []
  | .int .i64 a :: .int .i64 b :: .int .i64 c :: .int .i64 d :: r => (unPrs r).map (⟨a, b, c, d⟩ :: ·)
  | _ => none
theorem unPrs_eq : ∀ l : List Pr, unPrs (l.flatMap Pr.cs) = some l
  | [] => rfl
  | x :: l => by
    show (unPrs (l.flatMap Pr.cs)).map (x :: ·) = some (x :: l)
    rw [unPrs_eq l]; rfl
theorem unPrs_some : ∀ {cs : List TV} {l : List Pr}, unPrs cs = some l → cs = l.flatMap Pr.cs := by
  intro cs
  induction cs using unPrs.induct with
  | case1 => intro l h; simp [unPrs] at h; subst h; rfl
  | case2 a b c d r ih =>
    intro l h
    simp only [unPrs, Option.map_eq_some_iff] at h
    obtain ⟨l', h1, rfl⟩ := h
    rw [ih h1]; rfl
  | case3 cs h1 h2 => intro l h; simp [unPrs] at h
/-- A row as a function hands it back that appends to none. -/
def rowG {α : Type} (c : α → List TV) (l : List α) : TV := if l.length = 0 then .nilSl else .sl (l.flatMap c) l.length false
theorem rowG_is {α : Type} (c : α → List TV) (l : List α) : IsRow c (rowG c l) l := by
  unfold rowG
  split
  · rename_i h; exact .inl ⟨rfl, List.length_eq_zero_iff.1 h⟩
  · exact .inr ⟨_, rfl⟩
/-- .. with no room behind it. -/
def rowF {α : Type} (c : α → List TV) (l : List α) : TV := if l.length = 0 then .nilSl else .sl (l.flatMap c) l.length true
theorem rowF_is {α : Type} (c : α → List TV) (l : List α) : IsRow c (rowF c l) l := by
  unfold rowF
  split
  · rename_i h; exact .inl ⟨rfl, List.length_eq_zero_iff.1 h⟩
  · exact .inr ⟨_, rfl⟩
theorem flR_len {α : Type} (c : α → List TV) {n : Nat} (hc : ∀ x, (c x).length = n) (l : List α) : (l.flatMap c).length = l.length * n := flat_len c hc l
theorem bestF_none (f : Pr → Pr → Bool) : ∀ l : List Pr, bestF f l = none ↔ l = [] := by
  intro l
  refine snocInd (P := fun l => bestF f l = none ↔ l = []) (by simp [bestF]) (fun l p ih => ?_) l
  rw [bestF_snoc]
  unfold bestS
  split
  · simp
  · split <;> simp
theorem bestF_mem (f : Pr → Pr → Bool) : ∀ {l : List Pr} {r : Pr}, bestF f l = some r → r ∈ l := by
  intro l
  refine snocInd (P := fun l => ∀ {r : Pr}, bestF f l = some r → r ∈ l) (fun h => by simp [bestF] at h) (fun l p ih => ?_) l
  intro r h
  rw [bestF_snoc] at h
  unfold bestS at h
  split at h
  · cases h; simp
  · rename_i q e
    split at h
    · cases h; simp
    · cases h; exact List.mem_append_left _ (ih e)
def prB (p : Pr) : Bool := inB p.x (-1000000) 1000000 && inB p.y (-1000000) 1000000
theorem prB_iff {p : Pr} : prB p = true ↔ (-1000000 ≤ p.x ∧ p.x ≤ 1000000) ∧ -1000000 ≤ p.y ∧ p.y ≤ 1000000 := by simp [prB, inB]
end Go.Oc
namespace Go.Proofs.YtnoahnbjdapieaaDoor
open Go.RowKit Go.Pm Go.Oc
set_option maxRecDepth 100000
set_option linter.unusedVariables false
set_option maxHeartbeats 4000000

theorem iPlans_c (t : Int) {l : List Int} {s : TV} (hl : IsRow ic s l) (hll : l.length ≤ 17592186044415) (n : Int) : PCalls Tryd.prog 14 [.agg [.int .i64 t, s], .int .i64 n] (.tup [rowF Pl.cs (plansE t l n).1, .int .i64 (plansE t l n).2]) := by
  have rI := rowI_is hl
  unfold rowL at rI
  have hop : openE t l n 20000 = if headOk t l = false then 10 else if inB n 1 20000 = false then 11 else 0 := rfl
  have e0 : rowF Pl.cs [] = .nilSl := rfl
  refine pcalls_by Tryd.mixes spV3_ok (fn := Tryd.f14) Tryd.func14 rfl (by kernel_rfl) (by show 2 ≤ _; decide) ?_
  unfold plansE
  cases h1 : headOk t l with
  | false =>
    rw [h1] at hop
    simp only [if_true] at hop
    simp (decide := true) (maxSteps := 4000000) only [go_sem, Nat.reduceAdd, Nat.reduceSub, Nat.reduceMul, Nat.reduceDiv, Nat.reduceMod, Nat.reduceLT, Nat.reduceLeDiff, Nat.reduceEqDiff, Nat.reduceBEq, Nat.reduceBNe, Nat.reduceGT, Int.reduceAdd, Int.reduceSub, Int.reduceMul, Int.reduceNeg, Int.reduceLT, Int.reduceLE, Int.reduceEq, Int.reduceNe, Int.reduceBEq, Int.reduceBNe, Int.reduceToNat, Int.reduceGT, Int.reduceGE, ↓reduceIte, decide_true, decide_false, eq_self, Nat.mul_one, Nat.zero_mul, Nat.one_mul, Int.le_refl, Nat.le_refl, Int.cast_ofNat_Int, Tryd.f14, rI, hll, hop, e0]
  | true =>
    rw [h1] at hop
    simp only [Bool.true_eq_false, if_false] at hop
    cases h2 : inB n 1 20000 with
    | false =>
      rw [h2] at hop
      simp only [if_true] at hop
      simp (decide := true) (maxSteps := 4000000) only [go_sem, Nat.reduceAdd, Nat.reduceSub, Nat.reduceMul, Nat.reduceDiv, Nat.reduceMod, Nat.reduceLT, Nat.reduceLeDiff, Nat.reduceEqDiff, Nat.reduceBEq, Nat.reduceBNe, Nat.reduceGT, Int.reduceAdd, Int.reduceSub, Int.reduceMul, Int.reduceNeg, Int.reduceLT, Int.reduceLE, Int.reduceEq, Int.reduceNe, Int.reduceBEq, Int.reduceBNe, Int.reduceToNat, Int.reduceGT, Int.reduceGE, ↓reduceIte, decide_true, decide_false, eq_self, Nat.mul_one, Nat.zero_mul, Nat.one_mul, Int.le_refl, Nat.le_refl, Int.cast_ofNat_Int, Tryd.f14, rI, hll, hop, e0]
    | true =>
      rw [h2] at hop
      simp only [Bool.true_eq_false, if_false] at hop
      have hh := headOk_iff.1 h1
      have hn := inB_iff.1 h2
      obtain ⟨f, rfl⟩ := hl.ne (by omega)
      rw [ic_ints] at rI ⊢
      simp only [unI_eq, if_true] at rI
      simp (decide := true) (maxSteps := 4000000) only [go_sem, Nat.reduceAdd, Nat.reduceSub, Nat.reduceMul, Nat.reduceDiv, Nat.reduceMod, Nat.reduceLT, Nat.reduceLeDiff, Nat.reduceEqDiff, Nat.reduceBEq, Nat.reduceBNe, Nat.reduceGT, Int.reduceAdd, Int.reduceSub, Int.reduceMul, Int.reduceNeg, Int.reduceLT, Int.reduceLE, Int.reduceEq, Int.reduceNe, Int.reduceBEq, Int.reduceBNe, Int.reduceToNat, Int.reduceGT, Int.reduceGE, ↓reduceIte, decide_true, decide_false, eq_self, Nat.mul_one, Nat.zero_mul, Nat.one_mul, Int.le_refl, Nat.le_refl, Int.cast_ofNat_Int, Tryd.f14, rI, hll, hop, unI_eq]
      refine pwpC_range rfl 61 [] [.cptr [.int .i64 t, .sl (ints l) l.length f], .cptr [.int .i64 n]] (planV t l n)
        [(21, .t (.fn 61 [] [.cptr [.int .i64 t, .sl (ints l) l.length f], .cptr [.int .i64 n]])), (8, .ptr 2 0)]
        (fun i => [.box [.t (.int .i64 t), .t (.sl (ints l) l.length f)], .box [.t (.int .i64 t), .t (.sl (ints l) l.length f)], .box [.own (((plansP t l n).take i).flatMap Pl.cs) ((plansP t l n).take i).length 3], .tok ((plansP t l n).take i).length 50]) 4 ?_ (by rfl) (by rfl) ?_ (iPlans1_c f h1 hn.1 hn.2) ?_ (fun i => by simp) (fun i => rfl) (fun i x hx => ?_) ?_
      · simp (decide := true) (maxSteps := 4000000) only [go_sem, Nat.reduceAdd, Nat.reduceSub, Nat.reduceMul, Nat.reduceDiv, Nat.reduceMod, Nat.reduceLT, Nat.reduceLeDiff, Nat.reduceEqDiff, Nat.reduceBEq, Nat.reduceBNe, Nat.reduceGT, Int.reduceAdd, Int.reduceSub, Int.reduceMul, Int.reduceNeg, Int.reduceLT, Int.reduceLE, Int.reduceEq, Int.reduceNe, Int.reduceBEq, Int.reduceBNe, Int.reduceToNat, Int.reduceGT, Int.reduceGE, ↓reduceIte, decide_true, decide_false, eq_self, Nat.mul_one, Nat.zero_mul, Nat.one_mul, Int.le_refl, Nat.le_refl, Int.cast_ofNat_Int, List.take_zero, List.length_nil, List.flatMap_nil]
        first | done | rfl
      · simp (decide := true) (maxSteps := 4000000) only [go_sem, Nat.reduceAdd, Nat.reduceSub, Nat.reduceMul, Nat.reduceDiv, Nat.reduceMod, Nat.reduceLT, Nat.reduceLeDiff, Nat.reduceEqDiff, Nat.reduceBEq, Nat.reduceBNe, Nat.reduceGT, Int.reduceAdd, Int.reduceSub, Int.reduceMul, Int.reduceNeg, Int.reduceLT, Int.reduceLE, Int.reduceEq, Int.reduceNe, Int.reduceBEq, Int.reduceBNe, Int.reduceToNat, Int.reduceGT, Int.reduceGE, ↓reduceIte, decide_true, decide_false, eq_self, Nat.mul_one, Nat.zero_mul, Nat.one_mul, Int.le_refl, Nat.le_refl, Int.cast_ofNat_Int]
      · intro x hx
        unfold planV at hx
        obtain ⟨y, _, rfl⟩ := List.mem_map.1 hx
        rfl
      · unfold planV at hx
        simp only [List.getElem?_map, Option.map_eq_some_iff] at hx
        obtain ⟨p, hp, rfl⟩ := hx
        have hpl := plansTo_len t l n l.length
        have htl : ((plansP t l n).take i).length ≤ 12 := by rw [List.length_take]; unfold plansP; omega
        have hfl := flR_len Pl.cs (n := 3) (fun _ => rfl) ((plansP t l n).take i)
        have hroom : (((plansP t l n).take i).length + 1) * 24 ≤ 140737488355328 := by omega
        have hcs : ((plansP t l n).take (i + 1)).flatMap Pl.cs = ((plansP t l n).take i).flatMap Pl.cs ++ [.int .i64 p.c, .int .i64 p.t, .int .i64 p.h] := by rw [take_snoc hp, List.flatMap_append]; rfl
        have hln : ((plansP t l n).take (i + 1)).length = ((plansP t l n).take i).length + 1 := by rw [take_snoc hp]; simp
        simp (decide := true) (maxSteps := 4000000) only [go_sem, Nat.reduceAdd, Nat.reduceSub, Nat.reduceMul, Nat.reduceDiv, Nat.reduceMod, Nat.reduceLT, Nat.reduceLeDiff, Nat.reduceEqDiff, Nat.reduceBEq, Nat.reduceBNe, Nat.reduceGT, Int.reduceAdd, Int.reduceSub, Int.reduceMul, Int.reduceNeg, Int.reduceLT, Int.reduceLE, Int.reduceEq, Int.reduceNe, Int.reduceBEq, Int.reduceBNe, Int.reduceToNat, Int.reduceGT, Int.reduceGE, ↓reduceIte, decide_true, decide_false, eq_self, Nat.mul_one, Nat.zero_mul, Nat.one_mul, Int.le_refl, Nat.le_refl, Int.cast_ofNat_Int, Pl.tv, Pl.cs, hfl, hroom, hcs, hln]
      · have hpv : (planV t l n).length = (plansP t l n).length := by simp [planV]
        have hpl := plansTo_len t l n l.length
        have hl12 : (plansP t l n).length ≤ 12 := by unfold plansP; omega
        rw [hpv, List.take_length]
        by_cases h0 : (plansP t l n).length = 0
        · have h0' : ((plansP t l n).length : Int) = 0 := by omega
          have en : plansP t l n = [] := List.length_eq_zero_iff.1 h0
          rw [en]
          simp (decide := true) (maxSteps := 4000000) only [go_sem, Nat.reduceAdd, Nat.reduceSub, Nat.reduceMul, Nat.reduceDiv, Nat.reduceMod, Nat.reduceLT, Nat.reduceLeDiff, Nat.reduceEqDiff, Nat.reduceBEq, Nat.reduceBNe, Nat.reduceGT, Int.reduceAdd, Int.reduceSub, Int.reduceMul, Int.reduceNeg, Int.reduceLT, Int.reduceLE, Int.reduceEq, Int.reduceNe, Int.reduceBEq, Int.reduceBNe, Int.reduceToNat, Int.reduceGT, Int.reduceGE, ↓reduceIte, decide_true, decide_false, eq_self, Nat.mul_one, Nat.zero_mul, Nat.one_mul, Int.le_refl, Nat.le_refl, Int.cast_ofNat_Int, List.length_nil, List.flatMap_nil, e0]
        · have h0' : (((plansP t l n).length : Int) == 0) = false := beq_int_f (by omega)
          have hfl := flR_len Pl.cs (n := 3) (fun _ => rfl) (plansP t l n)
          have er : rowF Pl.cs (plansP t l n) = .sl ((plansP t l n).flatMap Pl.cs) (plansP t l n).length true := by unfold rowF; rw [if_neg h0]
          have htk : List.take ((plansP t l n).length * 3) (List.flatMap Pl.cs (plansP t l n)) = List.flatMap Pl.cs (plansP t l n) := List.take_of_length_le (by omega)
          simp (decide := true) (maxSteps := 4000000) only [go_sem, Nat.reduceAdd, Nat.reduceSub, Nat.reduceMul, Nat.reduceDiv, Nat.reduceMod, Nat.reduceLT, Nat.reduceLeDiff, Nat.reduceEqDiff, Nat.reduceBEq, Nat.reduceBNe, Nat.reduceGT, Int.reduceAdd, Int.reduceSub, Int.reduceMul, Int.reduceNeg, Int.reduceLT, Int.reduceLE, Int.reduceEq, Int.reduceNe, Int.reduceBEq, Int.reduceBNe, Int.reduceToNat, Int.reduceGT, Int.reduceGE, ↓reduceIte, decide_true, decide_false, eq_self, Nat.mul_one, Nat.zero_mul, Nat.one_mul, Int.le_refl, Nat.le_refl, Int.cast_ofNat_Int, h0, h0', hfl, er, htk]
theorem iHoles_c (p : Pr) (hp : prB p = true) : PCalls Tryd.prog 50 [p.tv] (.int .i64 (holP p)) := by
  have hp := prB_iff.1 hp
  obtain ⟨a, b, x, y⟩ := p
  simp only at hp
  have w1 : IntKind.i64.wrap (0 - x) = -x := by rw [wrap_in (by omega) (by omega)]; omega
  have w2 : IntKind.i64.wrap (0 - y) = -y := by rw [wrap_in (by omega) (by omega)]; omega
  have w3 : IntKind.i64.wrap (max x (-x) + max y (-y)) = max x (-x) + max y (-y) := wrap_in (by omega) (by omega)
  refine pcalls_by Tryd.mixes spV3_ok (fn := Tryd.f50) Tryd.func50 rfl (by kernel_rfl) (by show 1 ≤ _; decide) ?_
  simp (decide := true) (maxSteps := 4000000) only [go_sem, Nat.reduceAdd, Nat.reduceSub, Nat.reduceMul, Nat.reduceDiv, Nat.reduceMod, Nat.reduceLT, Nat.reduceLeDiff, Nat.reduceEqDiff, Nat.reduceBEq, Nat.reduceBNe, Nat.reduceGT, Int.reduceAdd, Int.reduceSub, Int.reduceMul, Int.reduceNeg, Int.reduceLT, Int.reduceLE, Int.reduceEq, Int.reduceNe, Int.reduceBEq, Int.reduceBNe, Int.reduceToNat, Int.reduceGT, Int.reduceGE, ↓reduceIte, decide_true, decide_false, eq_self, Nat.mul_one, Nat.zero_mul, Nat.one_mul, Int.le_refl, Nat.le_refl, Int.cast_ofNat_Int, Tryd.f50, Pr.tv, Pr.cs, w1, w2, w3, holP]
noncomputable def ixHoles : List TV → Option TV
  | [.agg [.int .i64 a, .int .i64 b, .int .i64 x, .int .i64 y]] => if prB ⟨a, b, x, y⟩ = true then some (.int .i64 (holP ⟨a, b, x, y⟩)) else none
  | _ => none
theorem ixHoles_ok : ∀ xs r, ixHoles xs = some r → PCalls Tryd.prog 50 xs r := by
  intro xs r h
  unfold ixHoles at h
  split at h
  · split at h
    · rename_i hc; cases h; exact iHoles_c ⟨_, _, _, _⟩ hc
    · cases h
  · cases h
attribute [go_sem] ixHoles
noncomputable def spW1 : Pm.Spec := spV3.one 50 ixHoles
@[go_sem] theorem spW1_p (f : FuncId) (xs : List TV) : spW1.p f xs = Pm.Spec.p (spV3.one 50 ixHoles) f xs := rfl
@[go_sem] theorem spW1_h (f : FuncId) (ps : List PV) (hl : List PO) : spW1.h f ps hl = Pm.Spec.h (spV3.one 50 ixHoles) f ps hl := rfl
@[go_sem] theorem spW1_fz (f : FuncId) : spW1.fz f = Pm.Spec.fz (spV3.one 50 ixHoles) f := rfl
@[go_sem] theorem spW1_fr (f : FuncId) : spW1.fr f = Pm.Spec.fr (spV3.one 50 ixHoles) f := rfl
@[go_sem] theorem spW1_mu (t : TypeId) : spW1.mu t = Pm.Spec.mu (spV3.one 50 ixHoles) t := rfl
theorem spW1_ok : SpecOk Tryd.prog spW1 := Spec.one_ok ixHoles_ok spV3_ok
theorem iShorter_c (p q : Pr) (hp : prB p = true) (hq : prB q = true) : PCalls Tryd.prog 47 [p.tv, q.tv] (.bool (lessH p q)) := by
  refine pcalls_by Tryd.mixes spW1_ok (fn := Tryd.f47) Tryd.func47 rfl (by kernel_rfl) (by show 2 ≤ _; decide) ?_
  simp (decide := true) (maxSteps := 4000000) only [go_sem, Nat.reduceAdd, Nat.reduceSub, Nat.reduceMul, Nat.reduceDiv, Nat.reduceMod, Nat.reduceLT, Nat.reduceLeDiff, Nat.reduceEqDiff, Nat.reduceBEq, Nat.reduceBNe, Nat.reduceGT, Int.reduceAdd, Int.reduceSub, Int.reduceMul, Int.reduceNeg, Int.reduceLT, Int.reduceLE, Int.reduceEq, Int.reduceNe, Int.reduceBEq, Int.reduceBNe, Int.reduceToNat, Int.reduceGT, Int.reduceGE, ↓reduceIte, decide_true, decide_false, eq_self, Nat.mul_one, Nat.zero_mul, Nat.one_mul, Int.le_refl, Nat.le_refl, Int.cast_ofNat_Int, Tryd.f47, Pr.tv, Pr.cs, hp, hq, lessH]
noncomputable def ixShorter : List TV → Option TV
  | [.agg [.int .i64 a, .int .i64 b, .int .i64 x, .int .i64 y], .agg [.int .i64 a', .int .i64 b', .int .i64 x', .int .i64 y']] => if prB ⟨a, b, x, y⟩ = true ∧ prB ⟨a', b', x', y'⟩ = true then some (.bool (lessH ⟨a, b, x, y⟩ ⟨a', b', x', y'⟩)) else none
  | _ => none
theorem ixShorter_ok : ∀ xs r, ixShorter xs = some r → PCalls Tryd.prog 47 xs r := by
  intro xs r h
  unfold ixShorter at h
  split at h
  · split at h
    · rename_i hc; cases h; exact iShorter_c ⟨_, _, _, _⟩ ⟨_, _, _, _⟩ hc.1 hc.2
    · cases h
  · cases h
attribute [go_sem] ixShorter
noncomputable def spW2 : Pm.Spec := spW1.one 47 ixShorter
@[go_sem] theorem spW2_p (f : FuncId) (xs : List TV) : spW2.p f xs = Pm.Spec.p (spW1.one 47 ixShorter) f xs := rfl
@[go_sem] theorem spW2_h (f : FuncId) (ps : List PV) (hl : List PO) : spW2.h f ps hl = Pm.Spec.h (spW1.one 47 ixShorter) f ps hl := rfl
@[go_sem] theorem spW2_fz (f : FuncId) : spW2.fz f = Pm.Spec.fz (spW1.one 47 ixShorter) f := rfl
@[go_sem] theorem spW2_fr (f : FuncId) : spW2.fr f = Pm.Spec.fr (spW1.one 47 ixShorter) f := rfl
@[go_sem] theorem spW2_mu (t : TypeId) : spW2.mu t = Pm.Spec.mu (spW1.one 47 ixShorter) t := rfl
theorem spW2_ok : SpecOk Tryd.prog spW2 := Spec.one_ok ixShorter_ok spW1_ok
theorem iLessB_c (p q : Pr) (hp : prB p = true) (hq : prB q = true) : PCalls Tryd.prog 49 [p.tv, q.tv] (.bool (lessB p q)) := by
  obtain ⟨pa, pb, px, py⟩ := p
  obtain ⟨qa, qb, qx, qy⟩ := q
  refine pcalls_by Tryd.mixes spW2_ok (fn := Tryd.f49) Tryd.func49 rfl (by kernel_rfl) (by show 2 ≤ _; decide) ?_
  unfold lessB
  by_cases h : holP ⟨pa, pb, px, py⟩ = holP ⟨qa, qb, qx, qy⟩
  · have h1 : (holP ⟨pa, pb, px, py⟩ != holP ⟨qa, qb, qx, qy⟩) = false := bne_int_f h
    rw [if_neg (fun hn => hn h)]
    cases h2 : decide (pa < qa) <;> cases h3 : (pa == qa) <;> simp (decide := true) (maxSteps := 4000000) only [go_sem, Nat.reduceAdd, Nat.reduceSub, Nat.reduceMul, Nat.reduceDiv, Nat.reduceMod, Nat.reduceLT, Nat.reduceLeDiff, Nat.reduceEqDiff, Nat.reduceBEq, Nat.reduceBNe, Nat.reduceGT, Int.reduceAdd, Int.reduceSub, Int.reduceMul, Int.reduceNeg, Int.reduceLT, Int.reduceLE, Int.reduceEq, Int.reduceNe, Int.reduceBEq, Int.reduceBNe, Int.reduceToNat, Int.reduceGT, Int.reduceGE, ↓reduceIte, decide_true, decide_false, eq_self, Nat.mul_one, Nat.zero_mul, Nat.one_mul, Int.le_refl, Nat.le_refl, Int.cast_ofNat_Int, Tryd.f49, Pr.tv, Pr.cs, hp, hq, h1, h2, h3]
  · have h1 : (holP ⟨pa, pb, px, py⟩ != holP ⟨qa, qb, qx, qy⟩) = true := bne_int_t h
    rw [if_pos h]
    simp (decide := true) (maxSteps := 4000000) only [go_sem, Nat.reduceAdd, Nat.reduceSub, Nat.reduceMul, Nat.reduceDiv, Nat.reduceMod, Nat.reduceLT, Nat.reduceLeDiff, Nat.reduceEqDiff, Nat.reduceBEq, Nat.reduceBNe, Nat.reduceGT, Int.reduceAdd, Int.reduceSub, Int.reduceMul, Int.reduceNeg, Int.reduceLT, Int.reduceLE, Int.reduceEq, Int.reduceNe, Int.reduceBEq, Int.reduceBNe, Int.reduceToNat, Int.reduceGT, Int.reduceGE, ↓reduceIte, decide_true, decide_false, eq_self, Nat.mul_one, Nat.zero_mul, Nat.one_mul, Int.le_refl, Nat.le_refl, Int.cast_ofNat_Int, Tryd.f49, Pr.tv, Pr.cs, hp, hq, h1, lessH]
noncomputable def ixLessB : List TV → Option TV
  | [.agg [.int .i64 a, .int .i64 b, .int .i64 x, .int .i64 y], .agg [.int .i64 a', .int .i64 b', .int .i64 x', .int .i64 y']] => if prB ⟨a, b, x, y⟩ = true ∧ prB ⟨a', b', x', y'⟩ = true then some (.bool (lessB ⟨a, b, x, y⟩ ⟨a', b', x', y'⟩)) else none
  | _ => none
theorem ixLessB_ok : ∀ xs r, ixLessB xs = some r → PCalls Tryd.prog 49 xs r := by
  intro xs r h
  unfold ixLessB at h
  split at h
  · split at h
    · rename_i hc; cases h; exact iLessB_c ⟨_, _, _, _⟩ ⟨_, _, _, _⟩ hc.1 hc.2
    · cases h
  · cases h
/-- The best of a list, by whatever is better. -/
def bestV (cmp : Pr → Pr → Bool) (l : List Pr) : TV := .tup [((bestF cmp l).getD ⟨0, 0, 0, 0⟩).tv, .bool (decide (0 < l.length))]
theorem iBest_c {F : FuncId} {g : List TV → Option TV} {cmp : Pr → Pr → Bool} (hg : ∀ p q, prB p = true → prB q = true → g [p.tv, q.tv] = some (.bool (cmp p q))) (hok : ∀ xs r, g xs = some r → PCalls Tryd.prog F xs r)
    {l : List Pr} {s : TV} (hl : IsRow Pr.cs s l) (hb : ∀ p ∈ l, prB p = true) (hlen : l.length ≤ 1000000) : PCalls Tryd.prog 46 [.fn F [] [], s] (bestV cmp l) := by
  unfold bestV
  refine pcalls_by Tryd.mixes (Spec.one_ok hok noSpec_ok) (fn := Tryd.f46) Tryd.func46 rfl (by kernel_rfl) (by show 2 ≤ _; decide) ?_
  rcases hl with ⟨rfl, rfl⟩ | ⟨f, rfl⟩
  · simp (decide := true) (maxSteps := 4000000) only [go_sem, Nat.reduceAdd, Nat.reduceSub, Nat.reduceMul, Nat.reduceDiv, Nat.reduceMod, Nat.reduceLT, Nat.reduceLeDiff, Nat.reduceEqDiff, Nat.reduceBEq, Nat.reduceBNe, Nat.reduceGT, Int.reduceAdd, Int.reduceSub, Int.reduceMul, Int.reduceNeg, Int.reduceLT, Int.reduceLE, Int.reduceEq, Int.reduceNe, Int.reduceBEq, Int.reduceBNe, Int.reduceToNat, Int.reduceGT, Int.reduceGE, ↓reduceIte, decide_true, decide_false, eq_self, Nat.mul_one, Nat.zero_mul, Nat.one_mul, Int.le_refl, Nat.le_refl, Int.cast_ofNat_Int, Tryd.f46]
    refine pwpC_loopU (A := Unit) [0, 1, 4, 5, 6, 9, 10] (fun _ => [(11, .t (.int .i64 0))]) (fun _ => []) (fun _ => 0) () (by decide) (fun _ => by rfl) ?_ fun Q1 hQ1 _ I1 hI1 => ?_
    · simp (decide := true) (maxSteps := 4000000) only [go_sem, Nat.reduceAdd, Nat.reduceSub, Nat.reduceMul, Nat.reduceDiv, Nat.reduceMod, Nat.reduceLT, Nat.reduceLeDiff, Nat.reduceEqDiff, Nat.reduceBEq, Nat.reduceBNe, Nat.reduceGT, Int.reduceAdd, Int.reduceSub, Int.reduceMul, Int.reduceNeg, Int.reduceLT, Int.reduceLE, Int.reduceEq, Int.reduceNe, Int.reduceBEq, Int.reduceBNe, Int.reduceToNat, Int.reduceGT, Int.reduceGE, ↓reduceIte, decide_true, decide_false, eq_self, Nat.mul_one, Nat.zero_mul, Nat.one_mul, Int.le_refl, Nat.le_refl, Int.cast_ofNat_Int]
    · simp (decide := true) (maxSteps := 4000000) only [go_sem, Nat.reduceAdd, Nat.reduceSub, Nat.reduceMul, Nat.reduceDiv, Nat.reduceMod, Nat.reduceLT, Nat.reduceLeDiff, Nat.reduceEqDiff, Nat.reduceBEq, Nat.reduceBNe, Nat.reduceGT, Int.reduceAdd, Int.reduceSub, Int.reduceMul, Int.reduceNeg, Int.reduceLT, Int.reduceLE, Int.reduceEq, Int.reduceNe, Int.reduceBEq, Int.reduceBNe, Int.reduceToNat, Int.reduceGT, Int.reduceGE, ↓reduceIte, decide_true, decide_false, eq_self, Nat.mul_one, Nat.zero_mul, Nat.one_mul, Int.le_refl, Nat.le_refl, Int.cast_ofNat_Int]
      refine hQ1 _ _ ?_
      simp (decide := true) (maxSteps := 4000000) only [go_sem, Nat.reduceAdd, Nat.reduceSub, Nat.reduceMul, Nat.reduceDiv, Nat.reduceMod, Nat.reduceLT, Nat.reduceLeDiff, Nat.reduceEqDiff, Nat.reduceBEq, Nat.reduceBNe, Nat.reduceGT, Int.reduceAdd, Int.reduceSub, Int.reduceMul, Int.reduceNeg, Int.reduceLT, Int.reduceLE, Int.reduceEq, Int.reduceNe, Int.reduceBEq, Int.reduceBNe, Int.reduceToNat, Int.reduceGT, Int.reduceGE, ↓reduceIte, decide_true, decide_false, eq_self, Nat.mul_one, Nat.zero_mul, Nat.one_mul, Int.le_refl, Nat.le_refl, Int.cast_ofNat_Int, bestF, List.length_nil, Pr.tv, Pr.cs]
  · simp (decide := true) (maxSteps := 4000000) only [go_sem, Nat.reduceAdd, Nat.reduceSub, Nat.reduceMul, Nat.reduceDiv, Nat.reduceMod, Nat.reduceLT, Nat.reduceLeDiff, Nat.reduceEqDiff, Nat.reduceBEq, Nat.reduceBNe, Nat.reduceGT, Int.reduceAdd, Int.reduceSub, Int.reduceMul, Int.reduceNeg, Int.reduceLT, Int.reduceLE, Int.reduceEq, Int.reduceNe, Int.reduceBEq, Int.reduceBNe, Int.reduceToNat, Int.reduceGT, Int.reduceGE, ↓reduceIte, decide_true, decide_false, eq_self, Nat.mul_one, Nat.zero_mul, Nat.one_mul, Int.le_refl, Nat.le_refl, Int.cast_ofNat_Int, Tryd.f46]
    refine pwpC_loopU (A := { k : Nat // k ≤ l.length }) [0, 1, 4, 5, 6, 9, 10] (fun k => [(11, .t (.int .i64 k.1))]) (fun k => [(1, .box (((bestF cmp (l.take k.1)).getD ⟨0, 0, 0, 0⟩).cs.map .t))]) (fun k => l.length - k.1) ⟨0, by omega⟩ (by decide) (fun _ => by rfl) ?_ fun Q1 hQ1 ⟨k, hk⟩ I1 hI1 => ?_
    · simp (decide := true) (maxSteps := 4000000) only [go_sem, Nat.reduceAdd, Nat.reduceSub, Nat.reduceMul, Nat.reduceDiv, Nat.reduceMod, Nat.reduceLT, Nat.reduceLeDiff, Nat.reduceEqDiff, Nat.reduceBEq, Nat.reduceBNe, Nat.reduceGT, Int.reduceAdd, Int.reduceSub, Int.reduceMul, Int.reduceNeg, Int.reduceLT, Int.reduceLE, Int.reduceEq, Int.reduceNe, Int.reduceBEq, Int.reduceBNe, Int.reduceToNat, Int.reduceGT, Int.reduceGE, ↓reduceIte, decide_true, decide_false, eq_self, Nat.mul_one, Nat.zero_mul, Nat.one_mul, Int.le_refl, Nat.le_refl, Int.cast_ofNat_Int, List.take_zero, bestF, List.foldl_nil, Pr.cs]
      first | done | rfl
    · by_cases hlt : (k : Int) < l.length
      · obtain ⟨x, hx⟩ := get_lt hlt
        have hd := flat_at Pr.cs (n := 4) (fun _ => rfl) hx
        have hc1 : IntKind.i64.wrap (k + 1) = ((k + 1 : Nat) : Int) := by rw [wrap_in (by omega) (by omega)]; omega
        have hs := bestF_snoc cmp (l.take k) x
        rw [← take_snoc hx] at hs
        have hbx := hb x (List.mem_of_getElem? hx)
        by_cases h0 : k = 0
        · have h0' : ((k : Int) == 0) = true := beq_int_t (by omega)
          have hs' : bestF cmp (l.take (k + 1)) = some x := by
            rw [hs, h0, List.take_zero]; rfl
          have hn' : bestF cmp (l.take k) = none := by rw [h0, List.take_zero]; rfl
          have hgx := hg x ⟨0, 0, 0, 0⟩ hbx rfl
          unfold Pr.tv Pr.cs at hgx
          simp (decide := true) (maxSteps := 4000000) only [go_sem, Nat.reduceAdd, Nat.reduceSub, Nat.reduceMul, Nat.reduceDiv, Nat.reduceMod, Nat.reduceLT, Nat.reduceLeDiff, Nat.reduceEqDiff, Nat.reduceBEq, Nat.reduceBNe, Nat.reduceGT, Int.reduceAdd, Int.reduceSub, Int.reduceMul, Int.reduceNeg, Int.reduceLT, Int.reduceLE, Int.reduceEq, Int.reduceNe, Int.reduceBEq, Int.reduceBNe, Int.reduceToNat, Int.reduceGT, Int.reduceGE, ↓reduceIte, decide_true, decide_false, eq_self, Nat.mul_one, Nat.zero_mul, Nat.one_mul, Int.le_refl, Nat.le_refl, Int.cast_ofNat_Int, hlt, hd, h0', Pr.cs, Int.toNat_natCast, hn', hgx]
          refine hI1 _ ⟨k + 1, by omega⟩ (by simp only; omega) ?_
          simp (decide := true) (maxSteps := 4000000) only [go_sem, Nat.reduceAdd, Nat.reduceSub, Nat.reduceMul, Nat.reduceDiv, Nat.reduceMod, Nat.reduceLT, Nat.reduceLeDiff, Nat.reduceEqDiff, Nat.reduceBEq, Nat.reduceBNe, Nat.reduceGT, Int.reduceAdd, Int.reduceSub, Int.reduceMul, Int.reduceNeg, Int.reduceLT, Int.reduceLE, Int.reduceEq, Int.reduceNe, Int.reduceBEq, Int.reduceBNe, Int.reduceToNat, Int.reduceGT, Int.reduceGE, ↓reduceIte, decide_true, decide_false, eq_self, Nat.mul_one, Nat.zero_mul, Nat.one_mul, Int.le_refl, Nat.le_refl, Int.cast_ofNat_Int, hc1, hs', Pr.cs]
        · have h0' : ((k : Int) == 0) = false := beq_int_f (by omega)
          cases hq : bestF cmp (l.take k) with
          | none =>
            rw [bestF_none] at hq
            have := congrArg List.length hq
            rw [List.length_take, List.length_nil] at this; omega
          | some q =>
            rw [hq] at hs
            have hbq := hb q (List.mem_of_mem_take (bestF_mem cmp hq))
            have hgx := hg x q hbx hbq
            unfold Pr.tv Pr.cs at hgx
            simp only [bestS] at hs
            cases hcm : cmp x q with
            | true =>
              rw [hcm] at hs hgx
              simp only [if_true] at hs
              simp (decide := true) (maxSteps := 4000000) only [go_sem, Nat.reduceAdd, Nat.reduceSub, Nat.reduceMul, Nat.reduceDiv, Nat.reduceMod, Nat.reduceLT, Nat.reduceLeDiff, Nat.reduceEqDiff, Nat.reduceBEq, Nat.reduceBNe, Nat.reduceGT, Int.reduceAdd, Int.reduceSub, Int.reduceMul, Int.reduceNeg, Int.reduceLT, Int.reduceLE, Int.reduceEq, Int.reduceNe, Int.reduceBEq, Int.reduceBNe, Int.reduceToNat, Int.reduceGT, Int.reduceGE, ↓reduceIte, decide_true, decide_false, eq_self, Nat.mul_one, Nat.zero_mul, Nat.one_mul, Int.le_refl, Nat.le_refl, Int.cast_ofNat_Int, hlt, hd, h0', Pr.cs, hgx, Int.toNat_natCast]
              refine hI1 _ ⟨k + 1, by omega⟩ (by simp only; omega) ?_
              simp (decide := true) (maxSteps := 4000000) only [go_sem, Nat.reduceAdd, Nat.reduceSub, Nat.reduceMul, Nat.reduceDiv, Nat.reduceMod, Nat.reduceLT, Nat.reduceLeDiff, Nat.reduceEqDiff, Nat.reduceBEq, Nat.reduceBNe, Nat.reduceGT, Int.reduceAdd, Int.reduceSub, Int.reduceMul, Int.reduceNeg, Int.reduceLT, Int.reduceLE, Int.reduceEq, Int.reduceNe, Int.reduceBEq, Int.reduceBNe, Int.reduceToNat, Int.reduceGT, Int.reduceGE, ↓reduceIte, decide_true, decide_false, eq_self, Nat.mul_one, Nat.zero_mul, Nat.one_mul, Int.le_refl, Nat.le_refl, Int.cast_ofNat_Int, hc1, hs, Pr.cs]
            | false =>
              rw [hcm] at hs hgx
              simp only [Bool.false_eq_true, if_false] at hs
              simp (decide := true) (maxSteps := 4000000) only [go_sem, Nat.reduceAdd, Nat.reduceSub, Nat.reduceMul, Nat.reduceDiv, Nat.reduceMod, Nat.reduceLT, Nat.reduceLeDiff, Nat.reduceEqDiff, Nat.reduceBEq, Nat.reduceBNe, Nat.reduceGT, Int.reduceAdd, Int.reduceSub, Int.reduceMul, Int.reduceNeg, Int.reduceLT, Int.reduceLE, Int.reduceEq, Int.reduceNe, Int.reduceBEq, Int.reduceBNe, Int.reduceToNat, Int.reduceGT, Int.reduceGE, ↓reduceIte, decide_true, decide_false, eq_self, Nat.mul_one, Nat.zero_mul, Nat.one_mul, Int.le_refl, Nat.le_refl, Int.cast_ofNat_Int, hlt, hd, h0', Pr.cs, hgx, Int.toNat_natCast]
              refine hI1 _ ⟨k + 1, by omega⟩ (by simp only; omega) ?_
              simp (decide := true) (maxSteps := 4000000) only [go_sem, Nat.reduceAdd, Nat.reduceSub, Nat.reduceMul, Nat.reduceDiv, Nat.reduceMod, Nat.reduceLT, Nat.reduceLeDiff, Nat.reduceEqDiff, Nat.reduceBEq, Nat.reduceBNe, Nat.reduceGT, Int.reduceAdd, Int.reduceSub, Int.reduceMul, Int.reduceNeg, Int.reduceLT, Int.reduceLE, Int.reduceEq, Int.reduceNe, Int.reduceBEq, Int.reduceBNe, Int.reduceToNat, Int.reduceGT, Int.reduceGE, ↓reduceIte, decide_true, decide_false, eq_self, Nat.mul_one, Nat.zero_mul, Nat.one_mul, Int.le_refl, Nat.le_refl, Int.cast_ofNat_Int, hc1, hs, Pr.cs]
      · have hke : k = l.length := by omega
        subst hke
        simp (decide := true) (maxSteps := 4000000) only [go_sem, Nat.reduceAdd, Nat.reduceSub, Nat.reduceMul, Nat.reduceDiv, Nat.reduceMod, Nat.reduceLT, Nat.reduceLeDiff, Nat.reduceEqDiff, Nat.reduceBEq, Nat.reduceBNe, Nat.reduceGT, Int.reduceAdd, Int.reduceSub, Int.reduceMul, Int.reduceNeg, Int.reduceLT, Int.reduceLE, Int.reduceEq, Int.reduceNe, Int.reduceBEq, Int.reduceBNe, Int.reduceToNat, Int.reduceGT, Int.reduceGE, ↓reduceIte, decide_true, decide_false, eq_self, Nat.mul_one, Nat.zero_mul, Nat.one_mul, Int.le_refl, Nat.le_refl, Int.cast_ofNat_Int, hlt]
        refine hQ1 _ _ ?_
        rw [List.take_length]
        have hgt : decide ((l.length : Int) > 0) = decide (0 < l.length) := by rw [decide_eq_decide]; omega
        simp (decide := true) (maxSteps := 4000000) only [go_sem, Nat.reduceAdd, Nat.reduceSub, Nat.reduceMul, Nat.reduceDiv, Nat.reduceMod, Nat.reduceLT, Nat.reduceLeDiff, Nat.reduceEqDiff, Nat.reduceBEq, Nat.reduceBNe, Nat.reduceGT, Int.reduceAdd, Int.reduceSub, Int.reduceMul, Int.reduceNeg, Int.reduceLT, Int.reduceLE, Int.reduceEq, Int.reduceNe, Int.reduceBEq, Int.reduceBNe, Int.reduceToNat, Int.reduceGT, Int.reduceGE, ↓reduceIte, decide_true, decide_false, eq_self, Nat.mul_one, Nat.zero_mul, Nat.one_mul, Int.le_refl, Nat.le_refl, Int.cast_ofNat_Int, Pr.tv, Pr.cs, hgt]
noncomputable def ixBest : List TV → Option TV
  | [.fn F [] [], s] => match rowL unPrs s with
    | some l => if l.length ≤ 1000000 ∧ l.all prB = true then (if F = 47 then some (bestV lessH l) else if F = 49 then some (bestV lessB l) else none) else none
    | none => none
  | _ => none
theorem ixBest_ok : ∀ xs r, ixBest xs = some r → PCalls Tryd.prog 46 xs r := by
  intro xs r h
  unfold ixBest at h
  split at h
  · split at h
    · rename_i l hl
      have hl := rowL_some (un := unPrs) rfl (@unPrs_some) hl
      split at h
      · rename_i hc
        have hb := List.all_eq_true.1 hc.2
        split at h
        · rename_i hF; cases h; subst hF
          refine iBest_c (g := ixShorter) (cmp := lessH) (fun p q hp hq => ?_) ixShorter_ok hl hb hc.1
          obtain ⟨a, b, c, d⟩ := p
          obtain ⟨a', b', c', d'⟩ := q
          show (if _ then _ else _) = _
          rw [if_pos ⟨hp, hq⟩]
        · split at h
          · rename_i hF; cases h; subst hF
            refine iBest_c (g := ixLessB) (cmp := lessB) (fun p q hp hq => ?_) ixLessB_ok hl hb hc.1
            obtain ⟨a, b, c, d⟩ := p
            obtain ⟨a', b', c', d'⟩ := q
            show (if _ then _ else _) = _
            rw [if_pos ⟨hp, hq⟩]
          · cases h
      · cases h
    · cases h
  · cases h
attribute [go_sem] ixBest
end Go.Proofs.YtnoahnbjdapieaaDoor

/- Part Ix. -/
namespace Go.Oc
open Go Go.Pm
set_option maxRecDepth 100000
theorem tmod_iff {a b : Int} : a.tmod b = 0 ↔ a % b = 0 := by rw [← Int.dvd_iff_tmod_eq_zero, Int.dvd_iff_emod_eq_zero]
theorem tdiv_of {a b : Int} (h : a % b = 0) : a.tdiv b = a / b := Int.tdiv_eq_ediv_of_dvd (Int.dvd_iff_emod_eq_zero.2 h)
theorem prAt_no {t a b n i k x : Int} (h : ¬ t * a * b % n = 0) : prAt t a b n i k x = none := by unfold prAt; rw [if_neg fun hc => h hc.1]
theorem prsTo_no {t a b n i k : Int} (h : ¬ t * a * b % n = 0) (m : Nat) : prsTo t a b n i k m = [] := by
  induction m with
  | zero => rfl
  | succ m ih => rw [prsTo_succ, ih, prAt_no h]; rfl
/-- All that the program finds, before the circle b, and of this one with the first m. -/
def allTo (t : Int) (l : List Int) (n : Int) (b m : Nat) : List Pr := allB t l n b ++ allA t l n b m
theorem allTo_zero (t : Int) (l : List Int) (n : Int) (b : Nat) : allTo t l n b 0 = allB t l n b := by unfold allTo allA; simp
theorem allTo_next (t : Int) (l : List Int) (n : Int) (b : Nat) : allTo t l n b b = allB t l n (b + 1) := by
  unfold allTo allB; rw [List.range_succ, List.flatMap_append]; simp
theorem allTo_succ (t : Int) (l : List Int) (n : Int) (b m : Nat) : allTo t l n b (m + 1) = allTo t l n b m ++ (minL (candK t l n m b)).toList := by
  unfold allTo allA
  rw [List.range_succ, List.filterMap_append, List.append_assoc]
  simp only [List.filterMap_cons, List.filterMap_nil]
  cases minL (candK t l n m b) <;> rfl
theorem allA_len (t : Int) (l : List Int) (n : Int) (b m : Nat) : (allA t l n b m).length ≤ m := by
  unfold allA
  have := List.length_filterMap_le (fun a : Nat => minL (candK t l n a b)) (List.range m)
  simpa using this
theorem allB_len (t : Int) (l : List Int) (n : Int) (b : Nat) : (allB t l n b).length ≤ b * b := by
  induction b with
  | zero => simp [allB]
  | succ b ih =>
    rw [← allTo_next]
    unfold allTo
    rw [List.length_append]
    have := allA_len t l n b b
    have e : (b + 1) * (b + 1) = b * b + b + b + 1 := by rw [Nat.add_mul, Nat.mul_add]; omega
    omega
theorem prsP_b (t a b n i k : Int) : (prsP t a b n i k).all prB = true := by
  rw [List.all_eq_true]
  intro p hp
  obtain ⟨j, h1, h2⟩ := prsTo_mem.1 hp
  have := prAt_eq h2
  rw [prB_iff]; omega
end Go.Oc
namespace Go.Proofs.YtnoahnbjdapieaaDoor
open Go.RowKit Go.Pm Go.Oc
set_option maxRecDepth 100000
set_option linter.unusedVariables false
set_option maxHeartbeats 4000000

theorem iPairCrank_c (p : Pr) (t : Int) {l : List Int} (f : Bool) {i k : Nat} {a b : Int} (hi : l[i]? = some a) (hk : l[k]? = some b) (hpa : p.a = i) (hpb : p.b = k) : PCalls Tryd.prog 85 [p.tv, .agg [.int .i64 t, .sl (ints l) l.length f]]
    (.tup [.int .i64 (IntKind.i64.wrap (IntKind.i64.wrap (p.x * b) + IntKind.i64.wrap (p.y * a))), .int .i64 (IntKind.i64.wrap (a * b))]) := by
  obtain ⟨pa, pb, x, y⟩ := p
  simp only at hpa hpb
  subst hpa; subst hpb
  have hli : (i : Int) < l.length := by have := (List.getElem?_eq_some_iff.1 hi).1; omega
  have hlk : (k : Int) < l.length := by have := (List.getElem?_eq_some_iff.1 hk).1; omega
  have hdi := ints_at hi
  have hdk := ints_at hk
  rw [Nat.mul_one] at hdi hdk
  refine pcalls_by Tryd.mixes spW2_ok (fn := Tryd.f85) Tryd.func85 rfl (by kernel_rfl) (by show 2 ≤ _; decide) ?_
  simp (decide := true) (maxSteps := 4000000) only [go_sem, Nat.reduceAdd, Nat.reduceSub, Nat.reduceMul, Nat.reduceDiv, Nat.reduceMod, Nat.reduceLT, Nat.reduceLeDiff, Nat.reduceEqDiff, Nat.reduceBEq, Nat.reduceBNe, Nat.reduceGT, Int.reduceAdd, Int.reduceSub, Int.reduceMul, Int.reduceNeg, Int.reduceLT, Int.reduceLE, Int.reduceEq, Int.reduceNe, Int.reduceBEq, Int.reduceBNe, Int.reduceToNat, Int.reduceGT, Int.reduceGE, ↓reduceIte, decide_true, decide_false, eq_self, Nat.mul_one, Nat.zero_mul, Nat.one_mul, Int.le_refl, Nat.le_refl, Int.cast_ofNat_Int, Tryd.f85, Pr.tv, Pr.cs, hli, hdi, hlk, hdk]
noncomputable def ixPairCrank : List TV → Option TV
  | [.agg [.int .i64 c, .int .i64 d, .int .i64 x, .int .i64 y], .agg [.int .i64 t, .sl cs n f]] => match unI cs with
    | some l => if n = l.length ∧ (0 ≤ c ∧ c < l.length) ∧ 0 ≤ d ∧ d < l.length then some (.tup [.int .i64 (IntKind.i64.wrap (IntKind.i64.wrap (x * nthI l d) + IntKind.i64.wrap (y * nthI l c))), .int .i64 (IntKind.i64.wrap (nthI l c * nthI l d))]) else none
    | none => none
  | _ => none
theorem nthI_of {l : List Int} {c : Int} (h1 : 0 ≤ c) (h2 : c < l.length) : l[c.toNat]? = some (nthI l c) := by
  obtain ⟨x, hx⟩ := get_lt (l := l) (k := c.toNat) (by omega)
  have hn : nthI l c = x := by have := nthI_at hx; rwa [Int.toNat_of_nonneg h1] at this
  rw [hn]; exact hx
theorem ixPairCrank_ok : ∀ xs r, ixPairCrank xs = some r → PCalls Tryd.prog 85 xs r := by
  intro xs r h
  unfold ixPairCrank at h
  split at h
  · rename_i c d x y t cs n f
    split at h
    · rename_i l hl
      split at h
      · rename_i hc; cases h
        obtain ⟨rfl, h1, h2⟩ := hc
        have e := unI_some hl
        rw [ic_ints] at e
        subst e
        exact iPairCrank_c ⟨c, d, x, y⟩ t f (nthI_of h1.1 h1.2) (nthI_of h2.1 h2.2) (by simp only; omega) (by simp only; omega)
      · cases h
    · cases h
  · cases h
attribute [go_sem] ixPairCrank
noncomputable def spX1 : Pm.Spec := spW2.one 85 ixPairCrank
@[go_sem] theorem spX1_p (f : FuncId) (xs : List TV) : spX1.p f xs = Pm.Spec.p (spW2.one 85 ixPairCrank) f xs := rfl
@[go_sem] theorem spX1_h (f : FuncId) (ps : List PV) (hl : List PO) : spX1.h f ps hl = Pm.Spec.h (spW2.one 85 ixPairCrank) f ps hl := rfl
@[go_sem] theorem spX1_fz (f : FuncId) : spX1.fz f = Pm.Spec.fz (spW2.one 85 ixPairCrank) f := rfl
@[go_sem] theorem spX1_fr (f : FuncId) : spX1.fr f = Pm.Spec.fr (spW2.one 85 ixPairCrank) f := rfl
@[go_sem] theorem spX1_mu (t : TypeId) : spX1.mu t = Pm.Spec.mu (spW2.one 85 ixPairCrank) t := rfl
theorem spX1_ok : SpecOk Tryd.prog spX1 := Spec.one_ok ixPairCrank_ok spW2_ok
theorem mthPair : methodO Tryd.prog 81 ((nameAt Tryd.f62 0).getD Tryd.f45.name) = some 85 := by kernel_rfl
theorem iClosesPair_c (p : Pr) (t n : Int) {l : List Int} (f : Bool) (h1 : 0 ≤ p.a ∧ p.a < l.length) (h2 : 0 ≤ p.b ∧ p.b < l.length) : PCalls Tryd.prog 62 [.agg [.int .i64 t, .sl (ints l) l.length f], .int .i64 n, .ifc 81 p.tv]
    (.bool (IntKind.i64.wrap (n * IntKind.i64.wrap (IntKind.i64.wrap (p.x * nthI l p.b) + IntKind.i64.wrap (p.y * nthI l p.a))) == IntKind.i64.wrap (t * IntKind.i64.wrap (nthI l p.a * nthI l p.b)))) := by
  obtain ⟨c, d, x, y⟩ := p
  simp only at h1 h2
  have hm := mth_of (l := nameAt Tryd.f62 0) rfl mthPair
  refine pcalls_by Tryd.mixes spX1_ok (fn := Tryd.f62) Tryd.func62 rfl (by kernel_rfl) (by show 3 ≤ _; decide) ?_
  simp (decide := true) (maxSteps := 4000000) only [go_sem, Nat.reduceAdd, Nat.reduceSub, Nat.reduceMul, Nat.reduceDiv, Nat.reduceMod, Nat.reduceLT, Nat.reduceLeDiff, Nat.reduceEqDiff, Nat.reduceBEq, Nat.reduceBNe, Nat.reduceGT, Int.reduceAdd, Int.reduceSub, Int.reduceMul, Int.reduceNeg, Int.reduceLT, Int.reduceLE, Int.reduceEq, Int.reduceNe, Int.reduceBEq, Int.reduceBNe, Int.reduceToNat, Int.reduceGT, Int.reduceGE, ↓reduceIte, decide_true, decide_false, eq_self, Nat.mul_one, Nat.zero_mul, Nat.one_mul, Int.le_refl, Nat.le_refl, Int.cast_ofNat_Int, Tryd.f62, Pr.tv, Pr.cs, hm, unI_eq, h1, h2]
noncomputable def ixClosesPair : List TV → Option TV
  | [.agg [.int .i64 t, .sl cs m f], .int .i64 n, .ifc ty (.agg [.int .i64 c, .int .i64 d, .int .i64 x, .int .i64 y])] => match unI cs with
    | some l => if m = l.length ∧ ty = 81 ∧ (0 ≤ c ∧ c < l.length) ∧ 0 ≤ d ∧ d < l.length then some (.bool (IntKind.i64.wrap (n * IntKind.i64.wrap (IntKind.i64.wrap (x * nthI l d) + IntKind.i64.wrap (y * nthI l c))) == IntKind.i64.wrap (t * IntKind.i64.wrap (nthI l c * nthI l d)))) else none
    | none => none
  | _ => none
theorem ixClosesPair_ok : ∀ xs r, ixClosesPair xs = some r → PCalls Tryd.prog 62 xs r := by
  intro xs r h
  unfold ixClosesPair at h
  split at h
  · rename_i t cs m f n ty c d x y
    split at h
    · rename_i l hl
      split at h
      · rename_i hc; cases h
        obtain ⟨rfl, rfl, h1, h2⟩ := hc
        have e := unI_some hl
        rw [ic_ints] at e
        subst e
        exact iClosesPair_c ⟨c, d, x, y⟩ t n f h1 h2
      · cases h
    · cases h
  · cases h
attribute [go_sem] ixClosesPair
noncomputable def spX2 : Pm.Spec := spW2.one 62 ixClosesPair
@[go_sem] theorem spX2_p (f : FuncId) (xs : List TV) : spX2.p f xs = Pm.Spec.p (spW2.one 62 ixClosesPair) f xs := rfl
@[go_sem] theorem spX2_h (f : FuncId) (ps : List PV) (hl : List PO) : spX2.h f ps hl = Pm.Spec.h (spW2.one 62 ixClosesPair) f ps hl := rfl
@[go_sem] theorem spX2_fz (f : FuncId) : spX2.fz f = Pm.Spec.fz (spW2.one 62 ixClosesPair) f := rfl
@[go_sem] theorem spX2_fr (f : FuncId) : spX2.fr f = Pm.Spec.fr (spW2.one 62 ixClosesPair) f := rfl
@[go_sem] theorem spX2_mu (t : TypeId) : spX2.mu t = Pm.Spec.mu (spW2.one 62 ixClosesPair) t := rfl
theorem spX2_ok : SpecOk Tryd.prog spX2 := Spec.one_ok ixClosesPair_ok spW2_ok
theorem iPairs_c {t : Int} {l : List Int} (f : Bool) (hh : headOk t l = true) {n : Int} (hn : 1 ≤ n) (hn2 : n ≤ 20000) {i k : Nat} (hi : i < l.length) (hk : k < l.length) :
    PCalls Tryd.prog 48 [.agg [.int .i64 t, .sl (ints l) l.length f], .int .i64 n, .int .i64 i, .int .i64 k] (rowG Pr.cs (candK t l n i k)) := by
  have hh' := headOk_iff.1 hh
  have hxi : l[i]? = some l[i] := List.getElem?_eq_getElem hi
  have hxk : l[k]? = some l[k] := List.getElem?_eq_getElem hk
  have hbi := head_at hh hxi
  have hbk := head_at hh hxk
  have hdi := ints_at hxi
  have hdk := ints_at hxk
  rw [Nat.mul_one] at hdi hdk
  have hni := nthI_at hxi
  have hnk := nthI_at hxk
  unfold candK
  rw [hni, hnk]
  generalize l[i] = a at *
  generalize l[k] = b at *
  have hli : (i : Int) < l.length := by omega
  have hlk : (k : Int) < l.length := by omega
  have hi0 : (0 : Int) ≤ (i : Int) ∧ (i : Int) < l.length := by omega
  have hk0 : (0 : Int) ≤ (k : Int) ∧ (k : Int) < l.length := by omega
  have m1 := mulB (a := t) (b := a) (A := 400) (B := 200) (by omega) (by omega) (by omega) (by omega)
  have w1 : IntKind.i64.wrap (t * a) = t * a := wrap_in (by omega) (by omega)
  have m2 := mulB (a := t * a) (b := b) (A := 80000) (B := 200) m1.1 (by omega) (by omega) (by omega)
  have w2 : IntKind.i64.wrap (t * a * b) = t * a * b := wrap_in (by omega) (by omega)
  have m3 := mulB (a := a) (b := b) (A := 200) (B := 200) (by omega) (by omega) (by omega) (by omega)
  have w3 : IntKind.i64.wrap (a * b) = a * b := wrap_in (by omega) (by omega)
  have w4 : IntKind.i64.wrap (t * (a * b)) = t * a * b := by rw [← Int.mul_assoc]; exact w2
  have hn0 : ¬ n = 0 := by omega
  have ha0 : ¬ a = 0 := by omega
  have e0 : rowG Pr.cs [] = .nilSl := rfl
  refine pcalls_by Tryd.mixes spX2_ok (fn := Tryd.f48) Tryd.func48 rfl (by kernel_rfl) (by show 4 ≤ _; decide) ?_
  by_cases hd : t * a * b % n = 0
  · have hd1 : ((t * a * b).tmod n != 0) = false := bne_int_f (tmod_iff.2 hd)
    obtain ⟨W, hW⟩ : ∃ W, t * a * b / n = W := ⟨_, rfl⟩
    have hW0 : 0 ≤ W := by rw [← hW]; exact Int.ediv_nonneg m2.1 (by omega)
    have hW1 : W ≤ 16000000 := by have := Int.ediv_le_self n m2.1; omega
    have hnW : n * W = t * a * b := by have := Int.mul_ediv_add_emod (t * a * b) n; rw [hW] at this; omega
    have w5 : IntKind.i64.wrap ((t * a * b).tdiv n) = W := by rw [tdiv_of hd, hW]; exact wrap_in (by omega) (by omega)
    simp (decide := true) (maxSteps := 4000000) only [go_sem, Nat.reduceAdd, Nat.reduceSub, Nat.reduceMul, Nat.reduceDiv, Nat.reduceMod, Nat.reduceLT, Nat.reduceLeDiff, Nat.reduceEqDiff, Nat.reduceBEq, Nat.reduceBNe, Nat.reduceGT, Int.reduceAdd, Int.reduceSub, Int.reduceMul, Int.reduceNeg, Int.reduceLT, Int.reduceLE, Int.reduceEq, Int.reduceNe, Int.reduceBEq, Int.reduceBNe, Int.reduceToNat, Int.reduceGT, Int.reduceGE, ↓reduceIte, decide_true, decide_false, eq_self, Nat.mul_one, Nat.zero_mul, Nat.one_mul, Int.le_refl, Nat.le_refl, Int.cast_ofNat_Int, Tryd.f48, hli, hdi, hlk, hdk, w1, w2, hn0, hd1]
    refine pwpC_loopU (A := { m : Nat // m ≤ 4001 }) [1, 2, 3, 4, 8, 9, 10, 11] (fun m => [(40, .t (.int .i64 m.1)), (12, .own ((prsTo t a b n i k m.1).flatMap Pr.cs) (prsTo t a b n i k m.1).length 1)]) (fun m => [(1, .tok (prsTo t a b n i k m.1).length 81)]) (fun m => 4001 - m.1) ⟨0, by omega⟩ (by decide) (fun _ => by rfl) ?_ fun Q1 hQ1 ⟨m, hm⟩ I1 hI1 => ?_
    · simp (decide := true) (maxSteps := 4000000) only [go_sem, Nat.reduceAdd, Nat.reduceSub, Nat.reduceMul, Nat.reduceDiv, Nat.reduceMod, Nat.reduceLT, Nat.reduceLeDiff, Nat.reduceEqDiff, Nat.reduceBEq, Nat.reduceBNe, Nat.reduceGT, Int.reduceAdd, Int.reduceSub, Int.reduceMul, Int.reduceNeg, Int.reduceLT, Int.reduceLE, Int.reduceEq, Int.reduceNe, Int.reduceBEq, Int.reduceBNe, Int.reduceToNat, Int.reduceGT, Int.reduceGE, ↓reduceIte, decide_true, decide_false, eq_self, Nat.mul_one, Nat.zero_mul, Nat.one_mul, Int.le_refl, Nat.le_refl, Int.cast_ofNat_Int, prsTo, List.range_zero, List.filterMap_nil, List.flatMap_nil, List.length_nil]
      first | done | exact ⟨⟨rfl, rfl⟩, rfl⟩ | exact ⟨rfl, rfl⟩ | rfl
    · by_cases hlt : (m : Int) < 4001
      · have hc1 : IntKind.i64.wrap (m + 1) = ((m + 1 : Nat) : Int) := by rw [wrap_in (by omega) (by omega)]; omega
        have wx : IntKind.i64.wrap ((m : Int) - 2000) = (m : Int) - 2000 := wrap_in (by omega) (by omega)
        obtain ⟨x, hx⟩ : ∃ x, (m : Int) - 2000 = x := ⟨_, rfl⟩
        have hx1 : -2000 ≤ x ∧ x ≤ 2000 := by omega
        have mx : -400000 ≤ x * b ∧ x * b ≤ 400000 := by
          have h1 : x * b ≤ 2000 * b := Int.mul_le_mul_of_nonneg_right hx1.2 (by omega)
          have h2 : -2000 * b ≤ x * b := Int.mul_le_mul_of_nonneg_right hx1.1 (by omega)
          omega
        have wxb : IntKind.i64.wrap (x * b) = x * b := wrap_in (by omega) (by omega)
        obtain ⟨R, hR⟩ : ∃ R, W - x * b = R := ⟨_, rfl⟩
        have wR : IntKind.i64.wrap (W - x * b) = R := by rw [← hR]; exact wrap_in (by omega) (by omega)
        have hsu := prsTo_succ t a b n i k m
        rw [hx] at wx hsu
        have hpr : prAt t a b n i k x = if R % a = 0 ∧ inB (R / a) (-2000) 2000 = true then some ⟨i, k, x, R / a⟩ else none := by
          unfold prAt
          rw [hW, hR]
          by_cases h : R % a = 0 ∧ inB (R / a) (-2000) 2000 = true
          · rw [if_pos ⟨hd, h.1, h.2⟩, if_pos h]
          · rw [if_neg fun hc => h ⟨hc.2.1, hc.2.2⟩, if_neg h]
        rw [hpr] at hsu
        have hpl := prsTo_len t a b n i k m
        by_cases hRa : R % a = 0
        · have hRa1 : (R.tmod a == 0) = true := beq_int_t (tmod_iff.2 hRa)
          have wy : IntKind.i64.wrap (R.tdiv a) = R / a := by
            rw [tdiv_of hRa]
            have h1 : R / a ≤ 20000000 := by
              have := Int.ediv_le_ediv (show 0 < a by omega) (show R ≤ 20000000 * a by omega)
              rwa [Int.mul_ediv_cancel _ ha0] at this
            have h2 : -20000000 ≤ R / a := by
              have := Int.ediv_le_ediv (show 0 < a by omega) (show -20000000 * a ≤ R by omega)
              rwa [Int.mul_ediv_cancel _ ha0] at this
            exact wrap_in (by omega) (by omega)
          cases hY : inB (R / a) (-2000) 2000 with
          | false =>
            rw [hY, if_neg (by simp)] at hsu
            simp only [Option.toList, List.append_nil] at hsu
            simp (decide := true) (maxSteps := 4000000) only [go_sem, Nat.reduceAdd, Nat.reduceSub, Nat.reduceMul, Nat.reduceDiv, Nat.reduceMod, Nat.reduceLT, Nat.reduceLeDiff, Nat.reduceEqDiff, Nat.reduceBEq, Nat.reduceBNe, Nat.reduceGT, Int.reduceAdd, Int.reduceSub, Int.reduceMul, Int.reduceNeg, Int.reduceLT, Int.reduceLE, Int.reduceEq, Int.reduceNe, Int.reduceBEq, Int.reduceBNe, Int.reduceToNat, Int.reduceGT, Int.reduceGE, ↓reduceIte, decide_true, decide_false, eq_self, Nat.mul_one, Nat.zero_mul, Nat.one_mul, Int.le_refl, Nat.le_refl, Int.cast_ofNat_Int, hlt, wx, hx, hn0, w5, wxb, wR, ha0, wy, hRa1, hY, unI_eq, hi0, hk0]
            refine hI1 _ ⟨m + 1, by omega⟩ (by simp only; omega) ?_
            simp (decide := true) (maxSteps := 4000000) only [go_sem, Nat.reduceAdd, Nat.reduceSub, Nat.reduceMul, Nat.reduceDiv, Nat.reduceMod, Nat.reduceLT, Nat.reduceLeDiff, Nat.reduceEqDiff, Nat.reduceBEq, Nat.reduceBNe, Nat.reduceGT, Int.reduceAdd, Int.reduceSub, Int.reduceMul, Int.reduceNeg, Int.reduceLT, Int.reduceLE, Int.reduceEq, Int.reduceNe, Int.reduceBEq, Int.reduceBNe, Int.reduceToNat, Int.reduceGT, Int.reduceGE, ↓reduceIte, decide_true, decide_false, eq_self, Nat.mul_one, Nat.zero_mul, Nat.one_mul, Int.le_refl, Nat.le_refl, Int.cast_ofNat_Int, hc1, hsu]
          | true =>
            rw [hY, if_pos ⟨hRa, rfl⟩] at hsu
            simp only [Option.toList] at hsu
            have hYb := inB_iff.1 hY
            have hya : R / a * a = R := by have := Int.mul_ediv_add_emod R a; rw [Int.mul_comm]; omega
            have wya : IntKind.i64.wrap (R / a * a) = R := by rw [hya]; exact wrap_in (by omega) (by omega)
            have wsum : IntKind.i64.wrap (x * b + R) = W := by rw [wrap_in (by omega) (by omega)]; omega
            have wnW : IntKind.i64.wrap (n * W) = t * a * b := by rw [hnW]; exact w2
            have hfl := flR_len Pr.cs (n := 4) (fun _ => rfl) (prsTo t a b n i k m)
            have hroom : ((prsTo t a b n i k m).length + 1) * 32 ≤ 140737488355328 := by omega
            have hcs : (prsTo t a b n i k (m + 1)).flatMap Pr.cs = (prsTo t a b n i k m).flatMap Pr.cs ++ [.int .i64 i, .int .i64 k, .int .i64 x, .int .i64 (R / a)] := by rw [hsu, List.flatMap_append]; rfl
            have hln : (prsTo t a b n i k (m + 1)).length = (prsTo t a b n i k m).length + 1 := by rw [hsu]; simp
            simp (decide := true) (maxSteps := 4000000) only [go_sem, Nat.reduceAdd, Nat.reduceSub, Nat.reduceMul, Nat.reduceDiv, Nat.reduceMod, Nat.reduceLT, Nat.reduceLeDiff, Nat.reduceEqDiff, Nat.reduceBEq, Nat.reduceBNe, Nat.reduceGT, Int.reduceAdd, Int.reduceSub, Int.reduceMul, Int.reduceNeg, Int.reduceLT, Int.reduceLE, Int.reduceEq, Int.reduceNe, Int.reduceBEq, Int.reduceBNe, Int.reduceToNat, Int.reduceGT, Int.reduceGE, ↓reduceIte, decide_true, decide_false, eq_self, Nat.mul_one, Nat.zero_mul, Nat.one_mul, Int.le_refl, Nat.le_refl, Int.cast_ofNat_Int, hlt, wx, hx, hn0, w5, wxb, wR, ha0, wy, hRa1, hY, unI_eq, hi0, hk0, hni, hnk, wya, wsum, wnW, w3, w4, beq_self_eq_true, hfl, hroom]
            refine hI1 _ ⟨m + 1, by omega⟩ (by simp only; omega) ?_
            simp (decide := true) (maxSteps := 4000000) only [go_sem, Nat.reduceAdd, Nat.reduceSub, Nat.reduceMul, Nat.reduceDiv, Nat.reduceMod, Nat.reduceLT, Nat.reduceLeDiff, Nat.reduceEqDiff, Nat.reduceBEq, Nat.reduceBNe, Nat.reduceGT, Int.reduceAdd, Int.reduceSub, Int.reduceMul, Int.reduceNeg, Int.reduceLT, Int.reduceLE, Int.reduceEq, Int.reduceNe, Int.reduceBEq, Int.reduceBNe, Int.reduceToNat, Int.reduceGT, Int.reduceGE, ↓reduceIte, decide_true, decide_false, eq_self, Nat.mul_one, Nat.zero_mul, Nat.one_mul, Int.le_refl, Nat.le_refl, Int.cast_ofNat_Int, hc1, hcs, hln]
        · have hRa1 : (R.tmod a == 0) = false := beq_int_f (fun h => hRa (tmod_iff.1 h))
          rw [if_neg (fun h => hRa h.1)] at hsu
          simp only [Option.toList, List.append_nil] at hsu
          simp (decide := true) (maxSteps := 4000000) only [go_sem, Nat.reduceAdd, Nat.reduceSub, Nat.reduceMul, Nat.reduceDiv, Nat.reduceMod, Nat.reduceLT, Nat.reduceLeDiff, Nat.reduceEqDiff, Nat.reduceBEq, Nat.reduceBNe, Nat.reduceGT, Int.reduceAdd, Int.reduceSub, Int.reduceMul, Int.reduceNeg, Int.reduceLT, Int.reduceLE, Int.reduceEq, Int.reduceNe, Int.reduceBEq, Int.reduceBNe, Int.reduceToNat, Int.reduceGT, Int.reduceGE, ↓reduceIte, decide_true, decide_false, eq_self, Nat.mul_one, Nat.zero_mul, Nat.one_mul, Int.le_refl, Nat.le_refl, Int.cast_ofNat_Int, hlt, wx, hx, hn0, w5, wxb, wR, ha0, hRa1, unI_eq, hi0, hk0]
          refine hI1 _ ⟨m + 1, by omega⟩ (by simp only; omega) ?_
          simp (decide := true) (maxSteps := 4000000) only [go_sem, Nat.reduceAdd, Nat.reduceSub, Nat.reduceMul, Nat.reduceDiv, Nat.reduceMod, Nat.reduceLT, Nat.reduceLeDiff, Nat.reduceEqDiff, Nat.reduceBEq, Nat.reduceBNe, Nat.reduceGT, Int.reduceAdd, Int.reduceSub, Int.reduceMul, Int.reduceNeg, Int.reduceLT, Int.reduceLE, Int.reduceEq, Int.reduceNe, Int.reduceBEq, Int.reduceBNe, Int.reduceToNat, Int.reduceGT, Int.reduceGE, ↓reduceIte, decide_true, decide_false, eq_self, Nat.mul_one, Nat.zero_mul, Nat.one_mul, Int.le_refl, Nat.le_refl, Int.cast_ofNat_Int, hc1, hsu]
      · have hme : m = 4001 := by omega
        subst hme
        simp (decide := true) (maxSteps := 4000000) only [go_sem, Nat.reduceAdd, Nat.reduceSub, Nat.reduceMul, Nat.reduceDiv, Nat.reduceMod, Nat.reduceLT, Nat.reduceLeDiff, Nat.reduceEqDiff, Nat.reduceBEq, Nat.reduceBNe, Nat.reduceGT, Int.reduceAdd, Int.reduceSub, Int.reduceMul, Int.reduceNeg, Int.reduceLT, Int.reduceLE, Int.reduceEq, Int.reduceNe, Int.reduceBEq, Int.reduceBNe, Int.reduceToNat, Int.reduceGT, Int.reduceGE, ↓reduceIte, decide_true, decide_false, eq_self, Nat.mul_one, Nat.zero_mul, Nat.one_mul, Int.le_refl, Nat.le_refl, Int.cast_ofNat_Int]
        refine hQ1 _ _ ?_
        simp (decide := true) (maxSteps := 4000000) only [go_sem, Nat.reduceAdd, Nat.reduceSub, Nat.reduceMul, Nat.reduceDiv, Nat.reduceMod, Nat.reduceLT, Nat.reduceLeDiff, Nat.reduceEqDiff, Nat.reduceBEq, Nat.reduceBNe, Nat.reduceGT, Int.reduceAdd, Int.reduceSub, Int.reduceMul, Int.reduceNeg, Int.reduceLT, Int.reduceLE, Int.reduceEq, Int.reduceNe, Int.reduceBEq, Int.reduceBNe, Int.reduceToNat, Int.reduceGT, Int.reduceGE, ↓reduceIte, decide_true, decide_false, eq_self, Nat.mul_one, Nat.zero_mul, Nat.one_mul, Int.le_refl, Nat.le_refl, Int.cast_ofNat_Int]
        rfl
  · have hd1 : ((t * a * b).tmod n != 0) = true := bne_int_t (fun h => hd (tmod_iff.1 h))
    have en : prsP t a b n i k = [] := prsTo_no hd _
    rw [en]
    simp (decide := true) (maxSteps := 4000000) only [go_sem, Nat.reduceAdd, Nat.reduceSub, Nat.reduceMul, Nat.reduceDiv, Nat.reduceMod, Nat.reduceLT, Nat.reduceLeDiff, Nat.reduceEqDiff, Nat.reduceBEq, Nat.reduceBNe, Nat.reduceGT, Int.reduceAdd, Int.reduceSub, Int.reduceMul, Int.reduceNeg, Int.reduceLT, Int.reduceLE, Int.reduceEq, Int.reduceNe, Int.reduceBEq, Int.reduceBNe, Int.reduceToNat, Int.reduceGT, Int.reduceGE, ↓reduceIte, decide_true, decide_false, eq_self, Nat.mul_one, Nat.zero_mul, Nat.one_mul, Int.le_refl, Nat.le_refl, Int.cast_ofNat_Int, Tryd.f48, hli, hdi, hlk, hdk, w1, w2, hn0, hd1, e0]
noncomputable def ixPairs : List TV → Option TV
  | [.agg [.int .i64 t, .sl cs m f], .int .i64 n, .int .i64 i, .int .i64 k] => match unI cs with
    | some l => if m = l.length ∧ headOk t l = true ∧ (1 ≤ n ∧ n ≤ 20000) ∧ (0 ≤ i ∧ i < l.length) ∧ 0 ≤ k ∧ k < l.length then some (rowG Pr.cs (candK t l n i.toNat k.toNat)) else none
    | none => none
  | _ => none
theorem ixPairs_ok : ∀ xs r, ixPairs xs = some r → PCalls Tryd.prog 48 xs r := by
  intro xs r h
  unfold ixPairs at h
  split at h
  · rename_i t cs m f n i k
    split at h
    · rename_i l hl
      split at h
      · rename_i hc; cases h
        obtain ⟨rfl, h0, h1, h2, h3⟩ := hc
        have e := unI_some hl
        rw [ic_ints] at e
        subst e
        have := iPairs_c f h0 h1.1 h1.2 (i := i.toNat) (k := k.toNat) (by omega) (by omega)
        rwa [Int.toNat_of_nonneg h2.1, Int.toNat_of_nonneg h3.1] at this
      · cases h
    · cases h
  · cases h
attribute [go_sem] ixPairs
noncomputable def spX3 : Pm.Spec := (spV3.one 48 ixPairs).one 46 ixBest
@[go_sem] theorem spX3_p (f : FuncId) (xs : List TV) : spX3.p f xs = Pm.Spec.p ((spV3.one 48 ixPairs).one 46 ixBest) f xs := rfl
@[go_sem] theorem spX3_h (f : FuncId) (ps : List PV) (hl : List PO) : spX3.h f ps hl = Pm.Spec.h ((spV3.one 48 ixPairs).one 46 ixBest) f ps hl := rfl
@[go_sem] theorem spX3_fz (f : FuncId) : spX3.fz f = Pm.Spec.fz ((spV3.one 48 ixPairs).one 46 ixBest) f := rfl
@[go_sem] theorem spX3_fr (f : FuncId) : spX3.fr f = Pm.Spec.fr ((spV3.one 48 ixPairs).one 46 ixBest) f := rfl
@[go_sem] theorem spX3_mu (t : TypeId) : spX3.mu t = Pm.Spec.mu ((spV3.one 48 ixPairs).one 46 ixBest) t := rfl
theorem spX3_ok : SpecOk Tryd.prog spX3 := Spec.one_ok ixBest_ok (Spec.one_ok ixPairs_ok spV3_ok)
end Go.Proofs.YtnoahnbjdapieaaDoor
