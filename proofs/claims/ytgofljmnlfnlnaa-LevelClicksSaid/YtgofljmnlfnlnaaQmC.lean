/- The pure machine, part C: what an operation does (pop), one step of a region (OpStep), a walk through code (pwp). -/
import Derived.Test.YtgofljmnlfnlnaaQmB
namespace Go.Pm
open Go Go.RowKit

def ofVal : Value → Option TV
  | .int k n => some (.int k n)
  | .bool b => some (.bool b)
  | .string s => some (.str s)
  | .nilIface => some .nilIf
  | .nilFunc => some .nilFn
  | .slice none 0 0 => some .nilSl
  | .pointer none => some .nilPtr
  | .map none => some .nilMap
  | _ => none

def allO {α : Type} : List (Option α) → Option (List α)
  | [] => some []
  | some x :: l => (allO l).map (x :: ·)
  | none :: _ => none

/-- What a type is, as far as the machine asks. -/
def zeroL (P : Program) (t : TypeId) : Option (List TV) :=
  match P.info? t with
  | some i => match i.zero with
    | some z => allO (z.cells.toList.map ofVal)
    | none => none
  | none => none
def aggO (P : Program) (t : TypeId) : Option Bool := (P.underlying t).map fun | .struct _ | .array _ _ => true | _ => false
def szO (P : Program) (t : TypeId) : Option Nat := (P.info? t).map (·.size)
def fieldO (P : Program) (s f : Nat) : Option (Nat × TypeId) :=
  match P.underlying s with
  | some (.struct fs) => (fs[f]?).map fun x => (x.offset, x.type)
  | _ => none
/-- A slice's or an array's elements: their type; an array's length. -/
def sliceO (P : Program) (t : TypeId) : Option TypeId := match P.underlying t with | some (.slice e) => some e | _ => none
def arrayO (P : Program) (t : TypeId) : Option (Nat × TypeId) := match P.underlying t with | some (.array n e) => some (n, e) | _ => none
def kindO (P : Program) (t : TypeId) : Option IntKind := match P.underlying t with | some (.int k) => some k | _ => none
/-- cells, bytes of an element. -/
def smallO (P : Program) (e : TypeId) : Option (Nat × Nat) :=
  match P.info? e with
  | some i => match i.zero with
    | some z => if 0 < i.size ∧ z.cells.size = i.size ∧ 0 < i.bytes then some (i.size, i.bytes) else none
    | none => none
  | none => none
/-- So many bytes may be appended. -/
def roomy (n by_ : Nat) : Prop := n * by_ ≤ 140737488355328
instance (n b : Nat) : Decidable (roomy n b) := inferInstanceAs (Decidable (_ ≤ _))
def zeroT (P : Program) (t : TypeId) : Option TV :=
  match P.info? t with
  | some i => match i.zero with
    | some (.agg cs) => (allO (cs.toList.map ofVal)).map .agg
    | some v => ofVal v
    | none => none
  | none => none
def plainO (P : Program) (t : TypeId) : Option Bool := match P.underlying t with | some (.interface _) => some false | some _ => some true | none => none
theorem plainO_true {P : Program} {t : TypeId} (h : plainO P t = some true) : ∃ d, P.underlying t = some d ∧ ∀ ms, d ≠ .interface ms := by
  unfold plainO at h
  split at h
  · cases h
  · rename_i d hn hd; exact ⟨d, hd, fun ms hm => by subst hm; exact hn _ rfl⟩
  · cases h
def mapO (P : Program) (t : TypeId) : Option (TypeId × TypeId) := match P.underlying t with | some (.map k e) => some (k, e) | _ => none

def partT (P : Program) (t : TypeId) (cs : List TV) (off : Nat) : Option TV :=
  match aggO P t with
  | some true => match szO P t with
    | some n => if off + n ≤ cs.length then some (.agg ((cs.drop off).take n)) else none
    | none => none
  | some false => cs[off]?
  | none => none

def pcells : PV → Option (List PV)
  | .t (.tup _) => none
  | .t x => some (x.cells.map .t)
  | .junk => none
  | .cond _ _ => none
  | .nil b => if b then none else some []
  | .cons b p q => if b then none else (pcells q).map (p :: ·)
  | p => some [p]

/-- An aggregate of these cells (b: a tuple). -/
def consP (b : Bool) : List PV → PV
  | [] => .nil b
  | p :: l => .cons b p (consP b l)
def aggP (b : Bool) (ps : List PV) : PV := match allO (ps.map PV.toT) with
  | some xs => .t (if b then .tup xs else .agg xs)
  | none => consP b ps

def loadB (P : Program) (t : TypeId) (cells : List PV) (off : Nat) : Option PV :=
  match aggO P t with
  | some true => match szO P t with
    | some n => if off + n ≤ cells.length then some (aggP false ((cells.drop off).take n)) else none
    | none => none
  | some false => cells[off]?
  | none => none

def storeB (P : Program) (t : TypeId) (cells : List PV) (off : Nat) (v : PV) : Option (List PV) :=
  match pcells v with
  | some vs => if szO P t = some vs.length ∧ off + vs.length ≤ cells.length then some (cells.take off ++ vs ++ cells.drop (off + vs.length)) else none
  | none => none

def cmpT (op : BinOp) (a b : Int) : Option Bool :=
  match op with
  | .eql => some (a == b)
  | .neq => some (a != b)
  | .lss => some (decide (a < b))
  | .leq => some (decide (a ≤ b))
  | .gtr => some (decide (a > b))
  | .geq => some (decide (a ≥ b))
  | _ => none

def intT (op : BinOp) (k : IntKind) (a b : Int) : Option TV :=
  match op with
  | .add => some (.int k (k.wrap (a + b)))
  | .sub => some (.int k (k.wrap (a - b)))
  | .mul => some (.int k (k.wrap (a * b)))
  | .quo => if b = 0 then none else some (.int k (k.wrap (a.tdiv b)))
  | .rem => if b = 0 then none else some (.int k (a.tmod b))
  | .and => some (.int k (k.wrap (BitVec.ofInt k.bits a &&& BitVec.ofInt k.bits b).toNat))
  | .or => some (.int k (k.wrap (BitVec.ofInt k.bits a ||| BitVec.ofInt k.bits b).toNat))
  | .xor => some (.int k (k.wrap (BitVec.ofInt k.bits a ^^^ BitVec.ofInt k.bits b).toNat))
  | .andNot => some (.int k (k.wrap (BitVec.ofInt k.bits a &&& ~~~BitVec.ofInt k.bits b).toNat))
  | op => (cmpT op a b).map .bool

def shiftT (op : BinOp) (k : IntKind) (a b : Int) : Option TV :=
  if b < 0 then none else
  match op with
  | .shl => some (.int k (k.wrap (a * 2 ^ (min b.toNat k.bits))))
  | .shr => some (.int k (a.fdiv (2 ^ (min b.toNat k.bits))))
  | _ => none

def eqFs (P : Program) (eq : TypeId → TV → TV → Option Bool) (xs ys : List TV) : List Field → Option Bool
  | [] => some true
  | f :: fs =>
    if f.name ≠ "_" then
      match partT P f.type xs f.offset, partT P f.type ys f.offset with
      | some u, some v => match eq f.type u v, eqFs P eq xs ys fs with
        | some b, some c => some (b && c)
        | _, _ => none
      | _, _ => none
    else eqFs P eq xs ys fs
def eqAs (P : Program) (eq : TypeId → TV → TV → Option Bool) (xs ys : List TV) (e n : Nat) : Nat → Nat → Option Bool
  | 0, _ => some true
  | k + 1, i =>
    match partT P e xs (i * n), partT P e ys (i * n) with
    | some u, some v => match eq e u v, eqAs P eq xs ys e n k (i + 1) with
      | some b, some c => some (b && c)
      | _, _ => none
    | _, _ => none
/-- '==' on what needs no memory. -/
def eqT (P : Program) : Nat → TypeId → TV → TV → Option Bool
  | 0, _, _, _ => none
  | d + 1, t, x, y =>
    match P.underlying t, x, y with
    | some .bool, .bool a, .bool b => some (a == b)
    | some (.int _), .int k a, .int k' b => if k = k' then some (a == b) else none
    | some .string, .str a, .str b => some (a.toList == b.toList)
    | some (.slice _), .nilSl, .nilSl => some true
    | some (.slice _), .sl _ _ _, .nilSl => some false
    | some (.slice _), .nilSl, .sl _ _ _ => some false
    | some (.struct fs), .agg xs, .agg ys => if P.stoodInHeld t then none else eqFs P (eqT P d) xs ys fs.toList
    | some (.array len e), .agg xs, .agg ys => match szO P e with
      | some n => eqAs P (eqT P d) xs ys e n len 0
      | none => none
    | _, _, _ => none

def binT (P : Program) (op : BinOp) (xt : TypeId) (x y : TV) : Option TV :=
  match op, x, y with
  | .shl, .int k a, .int _ b => shiftT .shl k a b
  | .shr, .int k a, .int _ b => shiftT .shr k a b
  | op, .int k a, .int k' b => if k = k' then intT op k a b else none
  | .eql, .agg xs, .agg ys => if P.eqGuardType P.depth xt then none else (eqT P 20 xt (.agg xs) (.agg ys)).map .bool
  | .neq, .agg xs, .agg ys => if P.eqGuardType P.depth xt then none else (eqT P 20 xt (.agg xs) (.agg ys)).map fun b => .bool !b
  | .eql, .bool a, .bool b => (eqT P 20 xt (.bool a) (.bool b)).map .bool
  | .neq, .bool a, .bool b => (eqT P 20 xt (.bool a) (.bool b)).map fun b => .bool !b
  | .eql, .nilSl, .nilSl => (eqT P 20 xt .nilSl .nilSl).map .bool
  | .neq, .nilSl, .nilSl => (eqT P 20 xt .nilSl .nilSl).map fun b => .bool !b
  | .eql, .sl cs n f, .nilSl => (eqT P 20 xt (.sl cs n f) .nilSl).map .bool
  | .neq, .sl cs n f, .nilSl => (eqT P 20 xt (.sl cs n f) .nilSl).map fun b => .bool !b
  | .eql, .str a, .str b => some (.bool (a.toList == b.toList))
  | .neq, .str a, .str b => some (.bool !(a.toList == b.toList))
  | .add, .str a, .str b => if a.size + b.size ≤ 4294967296 then some (.str (a ++ b)) else none
  | .lss, .str a, .str b => some (.bool (Op.bytesLess a.toList b.toList))
  | .leq, .str a, .str b => some (.bool (Op.bytesLess a.toList b.toList || a.toList == b.toList))
  | .gtr, .str a, .str b => some (.bool !(Op.bytesLess a.toList b.toList || a.toList == b.toList))
  | .geq, .str a, .str b => some (.bool !(Op.bytesLess a.toList b.toList))
  | _, _, _ => none

def unT (op : UnOp) (x : TV) : Option TV :=
  match op, x with
  | .neg, .int k n => some (.int k (k.wrap (0 - n)))
  | .not, .bool b => some (.bool !b)
  | _, _ => none

def fillT (place : Nat → Option (Nat × Nat)) (cells : List TV) : List (Nat × TV) → Option (List TV)
  | [] => some cells
  | (i, v) :: rest =>
    match place i with
    | none => none
    | some (off, size) =>
      match v with
      | .tup _ => none
      | v => if v.cells.length ≠ size ∨ off + v.cells.length > cells.length then none
        else fillT place (cells.take off ++ v.cells ++ cells.drop (off + v.cells.length)) rest

def partsO (ρ : Operand → PV) (parts : Array (Nat × Operand)) : Option (List (Nat × TV)) := allO (parts.toList.map fun p => ((ρ p.2).toT).map fun x => (p.1, x))

def placesO (P : Program) (fs : Array Field) : Option (List (Nat × Nat)) := allO (fs.toList.map fun f => (szO P f.type).map fun n => (f.offset, n))

def buildO (P : Program) (t : TypeId) (parts : List (Nat × TV)) : Option TV :=
  match zeroL P t, P.underlying t with
  | some z, some (.struct fs) => match placesO P fs with
    | some pl => (fillT (fun i => pl[i]?) z parts).map .agg
    | none => none
  | some z, some (.array _ e) => match szO P e with
    | some n => (fillT (fun i => some (i * n, n)) z parts).map .agg
    | none => none
  | _, _ => none

def buildSliceO (P : Program) (t : TypeId) (len : Nat) (parts : List (Nat × TV)) : Option (List TV) :=
  match sliceO P t with
  | some e => match szO P e, zeroL P e with
    | some n, some z => if len * n ≤ 100000 ∧ z.length = n ∧ 0 < n then fillT (fun i => some (i * n, n)) ((List.range (len * n)).map fun i => z.getD (i % n) .nilPtr) parts else none
    | _, _ => none
  | none => none

def min2T (x y : TV) : Option TV := match x, y with | .int k a, .int k' b => if k = k' then some (.int k (min a b)) else none | _, _ => none
def max2T (x y : TV) : Option TV := match x, y with | .int k a, .int k' b => if k = k' then some (.int k (max a b)) else none | _, _ => none
def minO : List TV → Option TV
  | [] => none
  | x :: l => l.foldl (fun acc y => match acc with | some x => min2T x y | none => none) (some x)
def maxO : List TV → Option TV
  | [] => none
  | x :: l => l.foldl (fun acc y => match acc with | some x => max2T x y | none => none) (some x)

def lenO (P : Program) (t : TypeId) (x : TV) : Option Int :=
  match P.underlying t, x with
  | some (.slice _), .sl _ n _ => some n
  | some (.slice _), .nilSl => some 0
  | some .string, .str s => some s.size
  | some (.array n _), _ => some n
  | _, _ => none

/-- What is appended: its cells and how many elements they are. -/
def srcO (sz : Nat) : TV → Option (List TV × Nat)
  | .nilSl => some ([], 0)
  | .sl cs n _ => if cs.length = n * sz then some (cs, n) else none
  | _ => none

def isRes : PO → Bool | .res => true | _ => false
theorem isRes_iff {o : PO} : isRes o = true ↔ o = .res := by cases o <;> simp [isRes]
def tokIs (o : PO) (n : Nat) (e : TypeId) : Bool := match o with | .tok m e' => m == n && e' == e | _ => false
theorem tokIs_eq {o : PO} {n : Nat} {e : TypeId} (h : tokIs o n e = true) : o = .tok n e := by cases o <;> simp [tokIs] at h; simp [h]

/-- What a row holds, in this version of it. -/
def growCells (o : PO) (ver : Nat) : Option (List PV) := match o with
  | .grow v cells _ _ => if v = ver then some cells else none
  | .gro v cells _ _ => if v = ver then some (cells.map .t) else none
  | _ => none
/-- What is appended, in memory or not. -/
def srcG (sz : Nat) (x : PV) (h : Hp) : Option (List PV × Nat) :=
  match x with
  | .gsl id ver sz' o n _ => (growCells (h id) ver).bind fun cells => if sz' = sz ∧ (o + n) * sz ≤ cells.length then some ((cells.drop (o * sz)).take (n * sz), n) else none
  | x => x.toT.bind fun x => (srcO sz x).map fun r => (r.1.map .t, r.2)

abbrev Wr := List (Nat × PO)
/-- A new row: one that is written (mu), or one that only grows. -/
def freshO (mu : Bool) (cs : List PV) (n : Nat) (e : TypeId) (sz rid : Nat) : Option (PV × Wr) :=
  if mu then some (.gsl rid 0 sz 0 n false, [(rid, .grow 0 cs e sz)])
  else (allO (cs.map PV.toT)).map fun xs => (.own xs n rid, [(rid, .tok n e)])
def growIs (o : PO) (v : Nat) (e : TypeId) (sz : Nat) : Option (List PV) := match o with
  | .grow v' cells e' sz' => if v' = v ∧ e' = e ∧ sz' = sz then some cells else none
  | _ => none
def appendG (P : Program) (mu : Bool) (t t' : TypeId) (s x : PV) (h : Hp) (rid : Nat) : Option (PV × Wr) :=
  if t = t' then
  match sliceO P t with
  | none => none
  | some e => match smallO P e with
    | none => none
    | some (sz, by_) => match srcG sz x h with
      | none => none
      | some (ds, m) =>
        match s with
        | .t .nilSl => if m = 0 then some (.t .nilSl, []) else if roomy m by_ ∧ isRes (h rid) = true then freshO mu ds m e sz rid else none
        | .t (.sl cs n true) => if cs.length = n * sz then
            if m = 0 then some (.t (.sl cs n true), []) else if roomy (n + m) by_ ∧ isRes (h rid) = true then freshO mu (cs.map .t ++ ds) (n + m) e sz rid else none
          else none
        | .gsl id ver sz' o n true => match growCells (h id) ver with
          | some cells => if sz' = sz ∧ (o + n) * sz ≤ cells.length then
              if m = 0 then some (.gsl id ver sz' o n true, []) else if roomy (n + m) by_ ∧ isRes (h rid) = true then freshO mu ((cells.drop (o * sz)).take (n * sz) ++ ds) (n + m) e sz rid else none
            else none
          | none => none
        | .gsl id ver sz' 0 n false => match growIs (h id) ver e sz with
          | some cells => if sz' = sz ∧ cells.length = n * sz then
              if m = 0 then some (.gsl id ver sz' 0 n false, []) else if roomy (n + m) by_ then some (.gsl id (ver + 1) sz 0 (n + m) false, [(id, .grow (ver + 1) (cells ++ ds) e sz)]) else none
            else none
          | none => none
        | .own cs n id => match allO (ds.map PV.toT) with
          | some ds => if cs.length = n * sz ∧ tokIs (h id) n e = true then
              if m = 0 then some (.own cs n id, []) else if roomy (n + m) by_ then some (.own (cs ++ ds) (n + m) id, [(id, .tok (n + m) e)]) else none
            else none
          | none => none
        | _ => none
  else none
def popB (P : Program) (b : Builtin) (ts : Array TypeId) (args : List PV) (h : Hp) (rid : Nat) : Option (PV × Wr) :=
  match b, ts.toList, args with
  | .len, t :: _, [x] => match x with
    | .gsl _ _ _ _ n _ => (sliceO P t).map fun _ => (.t (.int .i64 n), [])
    | .own _ n _ => (sliceO P t).map fun _ => (.t (.int .i64 n), [])
    | x => match x.toT with
      | some x => (lenO P t x).map fun n => (.t (.int .i64 n), [])
      | none => none
  | .min, _, args => (allO (args.map PV.toT)).bind fun l => (minO l).map fun x => (.t x, [])
  | .max, _, args => (allO (args.map PV.toT)).bind fun l => (maxO l).map fun x => (.t x, [])
  | .append, [t, t'], [s, x] => appendG P false t t' s x h rid
  | _, _, _ => none

def indexO (P : Program) (t : TypeId) (x : PV) (i : Int) : Option PV :=
  match x with
  | .ptr id off => match arrayO P t with
    | some (n, e) => match szO P e with
      | some sz => if 0 ≤ i ∧ i < n then some (.ptr id (off + i.toNat * sz)) else none
      | none => none
    | none => none
  | .t (.cptr cs) => match arrayO P t with
    | some (n, e) => match szO P e with
      | some sz => if 0 ≤ i ∧ i < n then some (.t (.cptr (cs.drop (i.toNat * sz)))) else none
      | none => none
    | none => none
  | .gptr id ver off => match arrayO P t with
    | some (n, e) => match szO P e with
      | some sz => if 0 ≤ i ∧ i < n then some (.gptr id ver (off + i.toNat * sz)) else none
      | none => none
    | none => none
  | .gsl id ver sz o n _ => match sliceO P t with
    | some e => if szO P e = some sz ∧ 0 ≤ i ∧ i < n then some (.gptr id ver ((o + i.toNat) * sz)) else none
    | none => none
  | .own cs n _ => match sliceO P t with
    | some e => match szO P e with
      | some sz => if 0 ≤ i ∧ i < n then some (.t (.cptr (cs.drop (i.toNat * sz)))) else none
      | none => none
    | none => none
  | x => match x.toT, sliceO P t with
    | some (.sl cs n _), some e => match szO P e with
      | some sz => if 0 ≤ i ∧ i < n then some (.t (.cptr (cs.drop (i.toNat * sz)))) else none
      | none => none
    | _, _ => none

def boundO (x : Option PV) (dflt top : Nat) : Option Nat :=
  match x with
  | none => some dflt
  | some (.t (.int _ i)) => if 0 ≤ i ∧ i ≤ top then some i.toNat else none
  | _ => none

/-- 'x[lo:hi]' and 'x[lo:hi:hi]' of a slice (hi is asked to be at most the length); of a string. -/
def sliceX (P : Program) (t : TypeId) (x : TV) (lo hi mx : Option PV) : Option TV :=
  match P.underlying t, x with
  | some (.slice e), .sl cs n _ => match szO P e, boundO hi n n, boundO mx n n with
    | some sz, some b, some c => match boundO lo 0 b with
      | some a => if mx.isSome ∧ (c ≠ b ∨ hi.isNone) then none
          else if cs.length = n * sz then some (.sl ((cs.take (b * sz)).drop (a * sz)) (b - a) mx.isSome) else none
      | none => none
    | _, _, _ => none
  | some (.slice e), .nilSl => match boundO hi 0 0, boundO lo 0 0, boundO mx 0 0, szO P e with
    | some _, some _, some _, some _ => if mx.isSome ∧ hi.isNone then none else some .nilSl
    | _, _, _, _ => none
  | some .string, .str s => if mx.isSome then none else match boundO hi s.size s.size with
    | some b => (boundO lo 0 b).map fun a => .str (s.extract a b)
    | none => none
  | _, _ => none

/-- .. of a row that is written. -/
def sliceG (P : Program) (t : TypeId) (id ver sz o n : Nat) (full : Bool) (lo hi mx : Option PV) : Option PV :=
  match sliceO P t with
  | some e => match boundO hi n n, boundO mx n n with
    | some b, some c => match boundO lo 0 b with
      | some a => if szO P e = some sz then
          if mx.isSome then (if c = b ∧ hi.isSome then some (.gsl id ver sz (o + a) (b - a) true) else none)
          else if full then (if b = n then some (.gsl id ver sz (o + a) (b - a) true) else none)
          else some (.gsl id ver sz (o + a) (b - a) false)
        else none
      | none => none
    | _, _ => none
  | none => none

def capId : PV → Option Nat
  | .ptr id 0 => some id
  | _ => none

/-- What stands where b holds, for whoever runs where b holds. -/
def strip (b : Bool) : PV → PV
  | .cond b' p => bif b' == b then p else .cond b' p
  | p => p
def pickP (c : Bool) (p q : PV) : PV :=
  match strip c p, strip (!c) q with
  | .t (.bool x), .t (.bool y) => .t (.bool ((c && x) || (!c && y)))
  | p, q => if c then p else q

def nthP : PV → Nat → Option PV
  | .cons _ p _, 0 => some p
  | .cons _ _ q, i + 1 => nthP q i
  | _, _ => none
open Classical in
noncomputable def updT (f : TV → Option TV) (k x : TV) : TV → Option TV := fun k' => if k' = k then some x else f k'
noncomputable def updateO (P : Program) (t : TypeId) (m k x : PV) (h : Hp) : Option (PV × Wr) :=
  match m, k.toT, x.toT with
  | .mapr id, some k, some x => match h id with
    | .mp t' f => if t' = t ∧ keyOk P t k = true then some (.t (.tup []), [(id, .mp t (updT f k x))]) else none
    | _ => none
  | _, _, _ => none
/-- AN OPERATION: what it gives, and the heap behind it. rid: the place reserved for what it makes. -/
noncomputable def pop (P : Program) (op : Op) (ρ : Operand → PV) (h : Hp) (rid : Nat) : Option (PV × Wr) :=
  match op with
  | .move x | .assign x => some (ρ x, [])
  | .pick c a b => match ρ c with
    | .t (.bool c) => some (pickP c (ρ a) (ρ b), [])
    | _ => none
  | .alloc e => (zeroL P e).bind fun z => if isRes (h rid) then some (.ptr rid 0, [(rid, .box (z.map .t))]) else none
  | .box _ x => (pcells (ρ x)).bind fun z => if isRes (h rid) then some (.ptr rid 0, [(rid, .box z)]) else none
  | .build t parts => (partsO ρ parts).bind fun ps => (buildO P t ps).map fun x => (.t x, [])
  | .buildSlice t n parts => (partsO ρ parts).bind fun ps => (buildSliceO P t n ps).map fun cs => (.t (.sl cs n true), [])
  | .makeSlice t l c => match ρ l, ρ c with
    | .t (.int _ l), .t (.int _ c) => match sliceO P t with
      | some e => match smallO P e, zeroL P e with
        | some (sz, by_), some z => if 0 ≤ l ∧ l = c ∧ roomy l.toNat by_ ∧ isRes (h rid) = true ∧ z.length = sz then some (.gsl rid 0 sz 0 l.toNat false, [(rid, .grow 0 (List.replicate l.toNat (z.map .t)).flatten e sz)]) else none
        | _, _ => none
      | none => none
    | _, _ => none
  | .makeMap t none => match mapO P t with
    | some _ => if isRes (h rid) then some (.mapr rid, [(rid, .mp t fun _ => none)]) else none
    | none => none
  | .mapUpdate t m k x => updateO P t (ρ m) (ρ k) (ρ x) h
  | .insert t m k x => updateO P t (ρ m) (ρ k) (ρ x) h
  | .lookup t m k ok => match ρ m, (ρ k).toT, mapO P t with
    | .mapr id, some k, some (_, et) => match h id, zeroT P et with
      | .mp t' f, some z => if t' = t ∧ keyOk P t k = true then some (.t (if ok then .tup [(f k).getD z, .bool (f k).isSome] else (f k).getD z), []) else none
      | _, _ => none
    | .t .nilMap, some k, some (_, et) => match zeroT P et with
      | some z => if keyOk P t k = true then some (.t (if ok then .tup [z, .bool false] else z), []) else none
      | none => none
    | _, _, _ => none
  | .load t a => match ρ a with
    | .gptr id ver off => (growCells (h id) ver).bind fun cells => (loadB P t cells off).map fun x => (x, [])
    | .ptr id off => match h id with
      | .box cells => (loadB P t cells off).map fun x => (x, [])
      | .ro cells => (partT P t (cells.drop off) 0).map fun x => (.t x, [])
      | _ => none
    | .t (.cptr cs) => (partT P t cs 0).map fun x => (.t x, [])
    | _ => none
  | .store t a x => match ρ a with
    | .gptr id ver off => match h id with
      | .grow v cells e sz => if v = ver then (storeB P t cells off (ρ x)).map fun c => (.t (.tup []), [(id, .grow v c e sz)]) else none
      | _ => none
    | .ptr id off => match h id with
      | .box cells => (storeB P t cells off (ρ x)).map fun c => (.t (.tup []), [(id, .box c)])
      | _ => none
    | _ => none
  | .nilCheck x => match ρ x with
    | .ptr id off => some (.ptr id off, [])
    | .t (.cptr cs) => some (.t (.cptr cs), [])
    | .t (.fn f pre caps) => some (.t (.fn f pre caps), [])
    | .gptr id ver off => some (.gptr id ver off, [])
    | .fnc f ids => some (.fnc f ids, [])
    | _ => none
  | .binOp op xt x y _ => match ρ x, ρ y with
    | .gsl _ _ _ _ _ _, .t .nilSl => match sliceO P xt, op with
      | some _, .eql => some (.t (.bool false), [])
      | some _, .neq => some (.t (.bool true), [])
      | _, _ => none
    | .own _ n _, .t .nilSl => match sliceO P xt, op with
      | some _, .eql => some (.t (.bool (decide (n = 0))), [])
      | some _, .neq => some (.t (.bool (decide (0 < n))), [])
      | _, _ => none
    | p, q => match p.toT, q.toT with
      | some x, some y => (binT P op xt x y).map fun v => (.t v, [])
      | _, _ => none
  | .unOp op _ x => match (ρ x).toT with
    | some x => (unT op x).map fun v => (.t v, [])
    | none => none
  | .convert src dst x => match ρ x with
    | .t (.int _ n) => match kindO P dst, P.underlying src with
      | some k, some (.int _) => some (.t (.int k (k.wrap n)), [])
      | _, _ => none
    | _ => none
  | .makeInterface t x => match (ρ x).toT with
    | some x => match plainO P t with
      | some true => some (.t (.ifc t x), [])
      | _ => none
    | none => none
  | .makeFunc (.func f) first caps => if caps.isEmpty then (allO (first.toList.map fun x => (ρ x).toT)).map fun xs => (.t (.fn f xs []), []) else if !first.isEmpty then none
      else (allO (caps.toList.map fun c => capId (ρ c))).map fun ids => (.fnc f ids, [])
  | .fieldAddr s x f => match fieldO P s f with
    | some (o, ft) => if (szO P ft).getD 0 = 0 then none else
      match ρ x with
      | .ptr id off => some (.ptr id (off + o), [])
      | .t (.cptr cs) => some (.t (.cptr (cs.drop o)), [])
      | .gptr id ver off => some (.gptr id ver (off + o), [])
      | _ => none
    | none => none
  | .field s x f => match fieldO P s f, ρ x with
    | some (o, ft), .t (.agg cs) => (partT P ft cs o).map fun v => (.t v, [])
    | some (o, ft), .cons b p q => if b then none else (pcells (.cons false p q)).bind fun cs => (loadB P ft cs o).map fun v => (v, [])
    | _, _ => none
  | .indexAddr t x i => match ρ i with
    | .t (.int _ i) => (indexO P t (ρ x) i).map fun v => (v, [])
    | _ => none
  | .index t x i => match ρ i, (ρ x).toT with
    | .t (.int _ i), some (.agg cs) => match arrayO P t with
      | some (n, e) => match szO P e with
        | some sz => if 0 ≤ i ∧ i < n then (partT P e cs (i.toNat * sz)).map fun v => (.t v, []) else none
        | none => none
      | none => none
    | .t (.int _ i), some (.str s) => match P.underlying t with
      | some .string => if 0 ≤ i ∧ i < s.size then some (.t (.int .u8 (s.data.getD i.toNat 0).toNat), []) else none
      | _ => none
    | _, _ => none
  | .slice t x lo hi mx => match ρ x with
    | .gsl id ver sz o n full => (sliceG P t id ver sz o n full (lo.map ρ) (hi.map ρ) (mx.map ρ)).map fun v => (v, [])
    | x => match x.toT with
    | some x => (sliceX P t x (lo.map ρ) (hi.map ρ) (mx.map ρ)).map fun v => (.t v, [])
    | none => none
  | .extract x i => match ρ x with
    | .t (.tup vs) => (vs[i]?).map fun v => (.t v, [])
    | .cons b p q => if b then (nthP (.cons b p q) i).map fun v => (v, []) else none
    | _ => none
  | .call { callee := .builtin b, args := args, argTypes := ts } => popB P b ts (args.toList.map ρ) h rid
  | _ => none

def constP (v : Value) : PV := match ofVal v with | some x => .t x | none => .junk
structure PS where
  tmps : List PV
  heap : Hp
def PS.eval (σ : PS) : Operand → PV
  | .tmp t => σ.tmps.getD t .junk
  | .const v => constP v
  | .func f => .t (.fn f [] [])
  | .global _ => .junk

/-- Writes into the heap. -/
def wr (h : Hp) (W : Wr) : Hp := W.foldl (fun h p => upo h p.1 p.2) h
def PS.put (σ : PS) (dst : Option Tmp) (v : PV) (h : Hp) : PS := { tmps := match dst with | some d => σ.tmps.set d v | none => σ.tmps, heap := h }

/-- A method of a value that an interface holds. -/
def methodO (P : Program) (t : TypeId) (name : String) : Option FuncId :=
  match P.info? t with
  | none => none
  | some i => match i.methods.find? (·.name == name) with
    | none => none
    | some m => match m.path.toList, m.func, P.underlying t with
      | [], some (_, false), some (.pointer _) => none
      | [], some (f, false), some _ => some f
      | _, _, _ => none

/-- An argument: a row of one's own is handed over as a tree. -/
def normA (p : PV) : PV := match p.toT with | some x => .t x | none => p
/-- A call of a function of the program: whom, with what. -/
def targetO (P : Program) (c : Call) (ρ : Operand → PV) : Option (FuncId × List PV) :=
  match c.callee with
  | .value g => match ρ g with
    | .t (.fn f pre caps) => some (f, pre.map .t ++ c.args.toList.map (fun a => normA (ρ a)) ++ caps.map .t)
    | .fnc f ids => some (f, c.args.toList.map (fun a => normA (ρ a)) ++ ids.map fun id => .ptr id 0)
    | _ => none
  | .invoke r name => match ρ r with
    | .t (.ifc t x) => match methodO P t name with
      | some f => some (f, .t x :: c.args.toList.map fun a => normA (ρ a))
      | none => none
    | _ => none
  | .builtin _ => none

/-- One numbering of objects for another: i is ids[i]. -/
def PV.ren (ids : List Nat) : PV → PV
  | .ptr i off => .ptr (ids.getD i 0) off
  | .own cs n i => .own cs n (ids.getD i 0)
  | .fnc f is => .fnc f (is.map fun i => ids.getD i 0)
  | .cond b p => .cond b (p.ren ids)
  | .gsl i ver sz o n full => .gsl (ids.getD i 0) ver sz o n full
  | .gptr i ver off => .gptr (ids.getD i 0) ver off
  | .mapr i => .mapr (ids.getD i 0)
  | .cons b p q => .cons b (p.ren ids) (q.ren ids)
  | p => p
def PO.ren (ids : List Nat) : PO → PO
  | .box cells => .box (cells.map (PV.ren ids))
  | .grow v cells e sz => .grow v (cells.map (PV.ren ids)) e sz
  | o => o
def PV.under (k : Nat) : PV → Bool
  | .ptr i _ => i < k
  | .own _ _ i => i < k
  | .fnc _ is => is.all (· < k)
  | .cond _ p => p.under k
  | .gsl i _ _ _ _ _ => i < k
  | .gptr i _ _ => i < k
  | .mapr i => i < k
  | .cons _ p q => p.under k && q.under k
  | _ => true
def PO.under (k : Nat) : PO → Bool
  | .box cells => cells.all (PV.under k)
  | .grow _ cells _ _ => cells.all (PV.under k)
  | _ => true

abbrev Foot := List Nat × Bool
def sfoot (s x : PV) (rid : Nat) : List Nat :=
  (match s with | .own _ _ id => [id] | .gsl id _ _ _ _ full => if full then [id, rid] else [id] | _ => [rid]) ++ (match x with | .gsl id _ _ _ _ _ => [id] | _ => [])
def mfoot (m : PV) : List Nat := match m with | .mapr id => [id] | _ => []
/-- Which objects an operation touches; does it write. -/
def footO (op : Op) (ρ : Operand → PV) (rid : Nat) : Foot :=
  match op with
  | .load _ a => match ρ a with | .ptr id _ => ([id], false) | .gptr id _ _ => ([id], false) | _ => ([], false)
  | .store _ a _ => match ρ a with | .ptr id _ => ([id], true) | .gptr id _ _ => ([id], true) | _ => ([], true)
  | .alloc _ | .box _ _ | .makeSlice _ _ _ | .makeMap _ _ | .buildSlice _ _ _ => ([rid], true)
  | .mapUpdate _ m _ _ | .insert _ m _ _ => (mfoot (ρ m), true)
  | .lookup _ m _ _ => (mfoot (ρ m), false)
  | .call { callee := .builtin .append, args := args, .. } => match args.toList.map ρ with
    | s :: x :: _ => (sfoot s x rid, true)
    | _ => ([rid], true)
  | _ => ([], false)

/-- The same, where a new row of trees is no object. -/
def footQ (op : Op) (ρ : Operand → PV) (rid : Nat) : Foot :=
  match op with
  | .buildSlice _ _ _ => ([], true)
  | op => footO op ρ rid

/-- A closure whose variables are never written again: these are frozen. -/
def frozenO (h : Hp) (id : Nat) : Option (List TV) := match h id with
  | .box cells => allO (cells.map PV.toT)
  | .ro cells => some cells
  | _ => none
def popF (op : Op) (ρ : Operand → PV) (h : Hp) : Option (PV × Wr × List Nat) :=
  match op with
  | .makeFunc (.func f) first caps => if !first.isEmpty then none else
      match allO (caps.toList.map fun c => capId (ρ c)) with
      | some ids => (allO (ids.map (frozenO h))).map fun cs => (.t (.fn f [] (cs.map .cptr)), (ids.zip cs).map (fun p => (p.1, PO.ro p.2)), ids)
      | none => none
  | _ => none

/-- What is made to be written. -/
def popM (P : Program) (op : Op) (ρ : Operand → PV) (h : Hp) (rid : Nat) : Option (PV × Wr) :=
  match op with
  | .buildSlice t n parts => (partsO ρ parts).bind fun ps => (buildSliceO P t n ps).bind fun cs => match sliceO P t with
    | some e => match smallO P e with
      | some (sz, _) => if isRes (h rid) then some (.gsl rid 0 sz 0 n false, [(rid, .grow 0 (cs.map .t) e sz)]) else none
      | none => none
    | none => none
  | .call { callee := .builtin .append, args := args, argTypes := ts } => match ts.toList, args.toList.map ρ with
    | [t, t'], [s, x] => appendG P true t t' s x h rid
    | _, _ => none
  | _ => none

/-- The rounds of a range over a function, seen by the function: yield, what it is called with, how many calls there are, and whether the last one says 'no more'. -/
structure YS where
  l : Nat
  xs : List (List TV)
  m : Nat
  stop : Bool

/-- A call of a function of the program. -/
def CallVal (P : Program) (c : Call) (ρ : Operand → PV) (h : Hp) (v : PV) (W : Wr) (f : Foot) : Prop :=
  ∃ (fn : FuncId) (as as' : List PV) (hl hl' : Hp) (v' : PV) (ids : List Nat), targetO P c ρ = some (fn, as) ∧ HCalls P fn as' hl v' hl' ∧ as = as'.map (PV.ren ids) ∧ ids.Nodup ∧
    as'.all (PV.under ids.length) = true ∧ (∀ (i j : Nat), ids[i]? = some j → h j = (hl i).ren ids ∧ (hl i).under ids.length = true) ∧ (∀ i, ids.length ≤ i → hl i = .res ∧ hl' i = .res) ∧
    (∀ (i j : Nat), ids[i]? = some j → ∀ n, hl i ≠ .cnt n) ∧ (∀ (i j : Nat), ids[i]? = some j → ∀ n, hl' i ≠ .cnt n) ∧
    v = v'.ren ids ∧ W = (List.range ids.length).map (fun i => (ids.getD i 0, (hl' i).ren ids)) ∧ f = (ids, true)
/-- A call of yield. -/
def YieldVal (Y : YS) (c : Call) (ρ : Operand → PV) (h : Hp) (v : PV) (W : Wr) (f : Foot) : Prop :=
  ∃ g as k, c.callee = .value g ∧ ρ g = .yld Y.l ∧ allO (c.args.toList.map fun a => (ρ a).toT) = some as ∧ h 0 = .cnt k ∧ k < Y.m ∧ Y.xs[k]? = some as ∧
    v = .t (.bool (!(Y.stop && k + 1 == Y.m))) ∧ W = [(0, .cnt (k + 1))] ∧ f = ([0], true)

/-- What an operation may give. -/
def OpVal0 (P : Program) (Y : YS) (op : Op) (ρ : Operand → PV) (h : Hp) (rid : Nat) (v : PV) (W : Wr) (f : Foot) : Prop :=
  ((pop P op ρ h rid = some (v, W) ∧ f = footQ op ρ rid) ∨ (popM P op ρ h rid = some (v, W) ∧ f = footO op ρ rid)) ∨ (∃ ids, popF op ρ h = some (v, W, ids) ∧ f = (ids, true)) ∨
  ∃ c, op = .call c ∧ (CallVal P c ρ h v W f ∨ YieldVal Y c ρ h v W f)

/-- A row that is never written again from now on (its cells, as trees, with the help of what is frozen already). -/
def thawC (h : Hp) : PV → Option TV
  | .gsl id ver sz o n full => match h id with
    | .gro v cells _ sz' => if v = ver ∧ sz' = sz ∧ (o + n) * sz ≤ cells.length then some (.sl ((cells.drop (o * sz)).take (n * sz)) n full) else none
    | _ => none
  | p => p.toT
def thawA (h : Hp) : PV → Option (List TV)
  | .nil _ => some []
  | .cons _ p q => match thawC h p, thawA h q with
    | some x, some l => some (x :: l)
    | _, _ => none
  | _ => none
def thawP (h : Hp) (p : PV) : PV := match p with
  | .cons b p q => match thawA h (.cons b p q) with
    | some l => .t (if b then .tup l else .agg l)
    | none => .cons b p q
  | p => match thawC h p with
    | some x => .t x
    | none => p
def idsG : PV → List Nat
  | .gsl id _ _ _ _ _ => [id]
  | .cons _ p q => idsG p ++ idsG q
  | _ => []
def freezeO (h : Hp) (id : Nat) : Option PO := match h id with
  | .grow v cells e sz => (allO (cells.map (thawC h))).map fun cs => .gro v cs e sz
  | .gro v cells e sz => some (.gro v cells e sz)
  | _ => none
/-- One row after the other is frozen. -/
def freezeW (h : Hp) : List Nat → Option Wr
  | [] => some []
  | id :: l => match freezeO h id with
    | some o => (freezeW (upo h id o) l).map fun W => (id, o) :: W
    | none => none
/-- Do the rows ids speak of no other row? -/
def closedG (h : Hp) (ids : List Nat) : Bool := ids.all fun id => match h id with | .grow _ cells _ _ => (cells.flatMap idsG).all ids.contains | _ => true
/-- What is looked at, with the rows ids frozen. -/
def seenF (h : Hp) (ids : List Nat) (ρ : Operand → PV) (x : Operand) : PV := if (idsG (ρ x)).all ids.contains then thawP h (ρ x) else ρ x
/-- What an operation may give, where rows that it looks at are frozen ahead of it. -/
def OpVal (P : Program) (Y : YS) (op : Op) (ρ : Operand → PV) (h : Hp) (rid : Nat) (v : PV) (W : Wr) (f : Foot) : Prop :=
  OpVal0 P Y op ρ h rid v W f ∨ ∃ ids Wf W0 f0, closedG h ids = true ∧ freezeW h ids = some Wf ∧ OpVal0 P Y op (seenF (wr h Wf) ids ρ) (wr h Wf) rid v W0 f0 ∧ W = Wf ++ W0 ∧ f = (ids ++ f0.1, true)

/-- Is an operation wanted? (none: that is not known) -/
def guardO (ops : Array Oper) (o : Oper) (σ : PS) : Option Bool :=
  match o.guard with
  | none => some true
  | some (j, want) => match (ops[j]?).bind (·.dst) with
    | none => some false
    | some d => match σ.tmps[d]? with
      | none => some false
      | some (.t (.bool b)) => some (b == want)
      | some (.cond c (.t (.bool b))) => some (c && (b == want))
      | some (.cond _ _) => none
      | some .junk => none
      | some _ => some false

def pv_undef : PV := .t (.tup [])

/-- What an operation looks at: where it is guarded, by what its guard gives. -/
def seenBy (o : Oper) (b : Bool) (ρ : Operand → PV) (x : Operand) : PV := match o.guard with | none => ρ x | some _ => strip b (ρ x)
def condW (o : Oper) (b : Bool) (v : PV) : PV := match o.guard with | none => v | some _ => .cond b v

/-- One operation of a region. -/
def OpStep (P : Program) (Y : YS) (ops : Array Oper) (o : Oper) (σ σ' : PS) (W : Wr) (f : Foot) : Prop :=
  ∃ b v rid, guardO ops o σ = some b ∧ (b = true → OpVal P Y o.op (seenBy o b σ.eval) σ.heap rid v W f) ∧ (b = false → W = []) ∧ σ' = σ.put o.dst (condW o b v) (wr σ.heap W)

end Go.Pm
