/- The pure machine, part A: tree values, what they stand for in memory, and the relation between an abstract state and a real one. -/
import Derived.WalkKit
import Derived.Orders
import Derived.Laws.CopyRow
namespace Go.Pm
open Go Go.RowKit

inductive TV where
  | int (k : IntKind) (n : Int)
  | bool (b : Bool)
  | str (s : ByteArray)
  | nilSl
  | sl (cs : List TV) (n : Nat) (full : Bool)
  | agg (cs : List TV)
  | tup (vs : List TV)
  | nilIf
  | ifc (t : TypeId) (v : TV)
  | nilFn
  | fn (f : FuncId) (pre caps : List TV)
  | cptr (cs : List TV)
  | nilPtr
  | nilMap
  deriving Inhabited

inductive PV where
  | t (x : TV)
  | ptr (id off : Nat)
  | own (cs : List TV) (n id : Nat)
  | fnc (f : FuncId) (ids : List Nat)
  | yld (l : Nat)
  | cond (b : Bool) (p : PV)
  | gsl (id ver sz o n : Nat) (full : Bool)
  | gptr (id ver off : Nat)
  | mapr (id : Nat)
  | nil (b : Bool)
  | cons (b : Bool) (p q : PV)
  | junk
  deriving Inhabited

/-- Objects: variables; variables that are never written again; rows that are written (which version, the cells, the element's type and size), and such that are never written again; maps; a growing row's token; a number of rounds; nothing. -/
inductive PO where
  | box (cells : List PV)
  | ro (cells : List TV)
  | grow (ver : Nat) (cells : List PV) (e : TypeId) (sz : Nat)
  | gro (ver : Nat) (cells : List TV) (e : TypeId) (sz : Nat)
  | mp (t : TypeId) (m : TV → Option TV)
  | tok (n : Nat) (e : TypeId)
  | cnt (n : Nat)
  | res
  deriving Inhabited

abbrev Hp := Nat → PO
def upo (h : Hp) (i : Nat) (o : PO) : Hp := fun j => if j = i then o else h j
theorem upo_same (h : Hp) (i : Nat) (o : PO) : upo h i o i = o := by simp [upo]
theorem upo_other (h : Hp) {i j : Nat} (o : PO) (hj : j ≠ i) : upo h i o j = h j := by simp [upo, hj]

/-- What memory is known never to be written again. -/
abbrev Fz := Addr → Option Value

inductive RepT (F : Fz) : TV → Value → Prop
  | int (k : IntKind) (n : Int) : RepT F (.int k n) (.int k n)
  | bool (b : Bool) : RepT F (.bool b) (.bool b)
  | str (s : ByteArray) : RepT F (.str s) (.string s)
  | nilSl : RepT F .nilSl (.slice none 0 0)
  | sl (cs : List TV) (n : Nat) (full : Bool) (a : Addr) (cap : Nat) (us : List Value) : us.length = cs.length → (∀ (i : Nat) (u : Value), us[i]? = some u → F (a.add i) = some u ∧ u.oneCell' = true) →
      (∀ (i : Nat) (c : TV) (u : Value), cs[i]? = some c → us[i]? = some u → RepT F c u) → n ≤ cap → (full = true → cap = n) → cap ≤ maxLen → RepT F (.sl cs n full) (.slice (some a) n cap)
  | agg (cs : List TV) (us : List Value) : us.length = cs.length → (∀ (i : Nat) (u : Value), us[i]? = some u → u.oneCell' = true) →
      (∀ (i : Nat) (c : TV) (u : Value), cs[i]? = some c → us[i]? = some u → RepT F c u) → RepT F (.agg cs) (.agg us.toArray)
  | tup (cs : List TV) (us : List Value) : us.length = cs.length → (∀ (i : Nat) (c : TV) (u : Value), cs[i]? = some c → us[i]? = some u → RepT F c u) → RepT F (.tup cs) (.tuple us.toArray)
  | nilIf : RepT F .nilIf .nilIface
  | ifc (t : TypeId) (x : TV) (u : Value) : RepT F x u → RepT F (.ifc t x) (.iface t u)
  | nilFn : RepT F .nilFn .nilFunc
  | fn (f : FuncId) (pre caps : List TV) (vs us : List Value) : vs.length = pre.length → (∀ (i : Nat) (c : TV) (u : Value), pre[i]? = some c → vs[i]? = some u → RepT F c u) →
      us.length = caps.length → (∀ (i : Nat) (c : TV) (u : Value), caps[i]? = some c → us[i]? = some u → RepT F c u) → RepT F (.fn f pre caps) (.func (.func f) vs.toArray us.toArray)
  | cptr (cs : List TV) (a : Addr) (us : List Value) : us.length = cs.length → (∀ (i : Nat) (u : Value), us[i]? = some u → F (a.add i) = some u ∧ u.oneCell' = true) →
      (∀ (i : Nat) (c : TV) (u : Value), cs[i]? = some c → us[i]? = some u → RepT F c u) → RepT F (.cptr cs) (.pointer (some a))
  | nilPtr : RepT F .nilPtr (.pointer none)
  | nilMap : RepT F .nilMap (.map none)

def Fz.le (F F' : Fz) : Prop := ∀ a u, F a = some u → F' a = some u
theorem Fz.le_refl (F : Fz) : F.le F := fun _ _ h => h
theorem Fz.le_trans {F F' F'' : Fz} (h : F.le F') (h' : F'.le F'') : F.le F'' := fun _ _ e => h' _ _ (h _ _ e)

theorem RepT.mono {F F' : Fz} (h : F.le F') {x : TV} {u : Value} (hr : RepT F x u) : RepT F' x u := by
  induction hr with
  | int => exact .int ..
  | bool => exact .bool ..
  | str => exact .str ..
  | nilSl => exact .nilSl
  | sl cs n full a cap us hl hF _ h1 h2 h3 ih => exact .sl cs n full a cap us hl (fun i u hu => ⟨h _ _ (hF i u hu).1, (hF i u hu).2⟩) ih h1 h2 h3
  | agg cs us hl h1 _ ih => exact .agg cs us hl h1 ih
  | tup cs us hl _ ih => exact .tup cs us hl ih
  | nilIf => exact .nilIf
  | ifc t x u _ ih => exact .ifc t x u ih
  | nilFn => exact .nilFn
  | fn f pre caps vs us hv _ hl _ ih1 ih => exact .fn f pre caps vs us hv ih1 hl ih
  | cptr cs a us hl hF _ ih => exact .cptr cs a us hl (fun i u hu => ⟨h _ _ (hF i u hu).1, (hF i u hu).2⟩) ih
  | nilPtr => exact .nilPtr
  | nilMap => exact .nilMap

/-- Lists of trees and of values. -/
def RepL (F : Fz) (cs : List TV) (us : List Value) : Prop := us.length = cs.length ∧ ∀ (i : Nat) (c : TV) (u : Value), cs[i]? = some c → us[i]? = some u → RepT F c u
theorem RepL.mono {F F' : Fz} (h : F.le F') {cs : List TV} {us : List Value} (hr : RepL F cs us) : RepL F' cs us := ⟨hr.1, fun i c u h1 h2 => (hr.2 i c u h1 h2).mono h⟩
theorem RepL.nil {F : Fz} : RepL F [] [] := ⟨rfl, fun i c u h => by simp at h⟩
theorem RepL.cons {F : Fz} {c : TV} {u : Value} {cs : List TV} {us : List Value} (h : RepT F c u) (hs : RepL F cs us) : RepL F (c :: cs) (u :: us) := by
  refine ⟨by simp [hs.1], fun i d v h1 h2 => ?_⟩
  cases i with
  | zero => simp at h1 h2; subst h1; subst h2; exact h
  | succ i => simp at h1 h2; exact hs.2 i d v h1 h2
theorem RepL.append {F : Fz} {cs ds : List TV} {us vs : List Value} (h : RepL F cs us) (h' : RepL F ds vs) : RepL F (cs ++ ds) (us ++ vs) := by
  induction cs generalizing us with
  | nil => have : us = [] := List.eq_nil_of_length_eq_zero (by simpa using h.1)
           subst this; simpa using h'
  | cons c cs ih =>
    cases us with
    | nil => have := h.1; simp at this
    | cons u us => exact RepL.cons (h.2 0 c u rfl rfl) (ih ⟨by have := h.1; simpa using this, fun i d v a b => h.2 (i + 1) d v (by simpa using a) (by simpa using b)⟩)
theorem RepL.drop {F : Fz} {cs : List TV} {us : List Value} (h : RepL F cs us) (k : Nat) : RepL F (cs.drop k) (us.drop k) :=
  ⟨by simp [h.1], fun i c u a b => h.2 (k + i) c u (by simpa using a) (by simpa using b)⟩
theorem RepL.take {F : Fz} {cs : List TV} {us : List Value} (h : RepL F cs us) (k : Nat) : RepL F (cs.take k) (us.take k) :=
  ⟨by simp [h.1], fun i c u a b => by
    rw [List.getElem?_take] at a b
    split at a
    · rename_i hk; rw [if_pos hk] at b; exact h.2 i c u a b
    · simp at a⟩

/-- A value that takes one cell. -/
def TV.flat : TV → Bool
  | .agg _ | .tup _ => false
  | _ => true
theorem RepT.oneCell {F : Fz} {x : TV} {u : Value} (h : RepT F x u) (hx : x.flat = true) : u.oneCell' = true := by
  cases h <;> first | rfl | (simp [TV.flat] at hx)
theorem RepT.flat_of {F : Fz} {x : TV} {u : Value} (h : RepT F x u) (hu : u.oneCell' = true) : x.flat = true := by
  cases h <;> first | rfl | (simp [Value.oneCell'] at hu)

def TV.cells : TV → List TV
  | .agg cs => cs
  | x => [x]
theorem RepT.cells {F : Fz} {x : TV} {u : Value} (h : RepT F x u) (ht : ∀ vs, x ≠ .tup vs) : RepL F x.cells u.cells.toList ∧ ∀ (i : Nat) (v : Value), u.cells.toList[i]? = some v → v.oneCell' = true := by
  cases h with
  | agg cs us hl h1 hr => exact ⟨⟨by simpa [Value.cells, TV.cells] using hl, fun i c u a b => hr i c u a (by simpa [Value.cells] using b)⟩, fun i v hv => h1 i v (by simpa [Value.cells] using hv)⟩
  | tup cs us => exact absurd rfl (ht cs)
  | int k n => exact ⟨RepL.cons (.int k n) .nil, fun i v hv => by cases i <;> simp [Value.cells] at hv; subst hv; rfl⟩
  | bool b => exact ⟨RepL.cons (.bool b) .nil, fun i v hv => by cases i <;> simp [Value.cells] at hv; subst hv; rfl⟩
  | str b => exact ⟨RepL.cons (.str b) .nil, fun i v hv => by cases i <;> simp [Value.cells] at hv; subst hv; rfl⟩
  | nilSl => exact ⟨RepL.cons .nilSl .nil, fun i v hv => by cases i <;> simp [Value.cells] at hv; subst hv; rfl⟩
  | sl cs n full a cap us hl hF hr h1 h2 h3 => exact ⟨RepL.cons (.sl cs n full a cap us hl hF hr h1 h2 h3) .nil, fun i v hv => by cases i <;> simp [Value.cells] at hv; subst hv; rfl⟩
  | nilIf => exact ⟨RepL.cons .nilIf .nil, fun i v hv => by cases i <;> simp [Value.cells] at hv; subst hv; rfl⟩
  | ifc t x u hr => exact ⟨RepL.cons (.ifc t x u hr) .nil, fun i v hv => by cases i <;> simp [Value.cells] at hv; subst hv; rfl⟩
  | nilFn => exact ⟨RepL.cons .nilFn .nil, fun i v hv => by cases i <;> simp [Value.cells] at hv; subst hv; rfl⟩
  | fn f pre caps vs us hv hr1 hl hr => exact ⟨RepL.cons (.fn f pre caps vs us hv hr1 hl hr) .nil, fun i v hv => by cases i <;> simp [Value.cells] at hv; subst hv; rfl⟩
  | cptr cs a us hl hF hr => exact ⟨RepL.cons (.cptr cs a us hl hF hr) .nil, fun i v hv => by cases i <;> simp [Value.cells] at hv; subst hv; rfl⟩
  | nilPtr => exact ⟨RepL.cons .nilPtr .nil, fun i v hv => by cases i <;> simp [Value.cells] at hv; subst hv; rfl⟩
  | nilMap => exact ⟨RepL.cons .nilMap .nil, fun i v hv => by cases i <;> simp [Value.cells] at hv; subst hv; rfl⟩

/-- A variable's place. -/
def isBox (h : Hp) (id : Nat) : Prop := (∃ cells, h id = .box cells) ∨ ∃ cells, h id = .ro cells
/-- A row's version, its element's type and size. -/
def growInfo : PO → Option (Nat × TypeId × Nat)
  | .grow v _ e sz => some (v, e, sz)
  | .gro v _ e sz => some (v, e, sz)
  | _ => none
def mapInfo : PO → Option TypeId
  | .mp t _ => some t
  | _ => none
def mkV (b : Bool) (us : List Value) : Value := if b then .tuple us.toArray else .agg us.toArray
/-- A value of the abstract machine: φ tells of each of its objects the block and, of a growing row, the capacity. -/
def RepP (F : Fz) (φ : Nat → Nat × Nat) (h : Hp) : PV → Value → Prop
  | .t x, u => RepT F x u
  | .ptr id off, u => isBox h id ∧ u = .pointer (some ⟨(φ id).1, off, none⟩)
  | .own cs n id, u => (n = 0 → cs = [] ∧ u = .slice none 0 0) ∧ (0 < n → RepT F (.sl cs n false) u) ∧ ∃ m e, h id = .tok m e ∧ n ≤ m ∧ (m = n → 0 < n → u = .slice (some ⟨(φ id).1, 0, none⟩) n (φ id).2)
  | .fnc f ids, u => (∀ id ∈ ids, isBox h id) ∧ u = .func (.func f) #[] (ids.map fun id => Value.pointer (some ⟨(φ id).1, 0, none⟩)).toArray
  | .yld l, u => u = .func (.yield l) #[] #[]
  | .cond b p, u => (b = true → RepP F φ h p u) ∧ (b = false → u = .tuple #[])
  | .gsl id ver sz o n full, u => ∃ v e cap a, growInfo (h id) = some (v, e, sz) ∧ ver ≤ v ∧ u = .slice (some a) n cap ∧ n ≤ cap ∧ cap ≤ maxLen ∧ (full = true → cap = n) ∧ (ver = v → o + cap ≤ (φ id).2 ∧ (0 < cap → a = ⟨(φ id).1, o * sz, none⟩) ∧ (full = false → o + cap = (φ id).2))
  | .gptr id ver off, u => ∃ v e sz a, growInfo (h id) = some (v, e, sz) ∧ ver ≤ v ∧ u = .pointer (some a) ∧ (ver = v → a = ⟨(φ id).1, off, none⟩)
  | .mapr id, u => ∃ t, mapInfo (h id) = some t ∧ u = .map (some (φ id).1)
  | .nil b, u => u = mkV b []
  | .cons b p q, u => ∃ v us, u = mkV b (v :: us) ∧ RepP F φ h p v ∧ RepP F φ h q (mkV b us) ∧ (b = false → v.oneCell' = true)
  | .junk, _ => True

open Classical in
/-- A map's entries, asked by a key. -/
noncomputable def lookT (ents : List (TV × TV)) (k : TV) : Option TV := (ents.find? fun p => decide (p.1 = k)).map (·.2)
/-- Keys that are told apart by what they are: numbers, bools, strings, and structs and arrays of these. -/
def scalarOk (P : Program) (t : TypeId) : TV → Bool
  | .int k _ => match P.underlying t with | some (.int k') => k == k' | _ => false
  | .bool _ => match P.underlying t with | some .bool => true | _ => false
  | .str _ => match P.underlying t with | some .string => true | _ => false
  | _ => false
def keyOk (P : Program) (t : TypeId) (k : TV) : Bool := match P.underlying t with
  | some (.map kt _) => scalarOk P kt k
  | _ => false
/-- An object of the abstract machine, in memory. -/
def RepO (P : Program) (F : Fz) (φ : Nat → Nat × Nat) (h : Hp) (w : World) (id : Nat) : PO → Prop
  | .box cells => ∃ (us : List Value) (ty : TypeId), w.heap[(φ id).1]? = some (.cells us.toArray ty (0, 0)) ∧ us.length = cells.length ∧
      (∀ (i : Nat) (c : PV) (u : Value), cells[i]? = some c → us[i]? = some u → RepP F φ h c u ∧ u.oneCell' = true) ∧ ∀ (i : Nat), F ⟨(φ id).1, i, none⟩ = none
  | .ro cells => ∃ (us : List Value) (ty : TypeId), w.heap[(φ id).1]? = some (.cells us.toArray ty (0, 0)) ∧ RepL F cells us ∧ (∀ (i : Nat) (u : Value), us[i]? = some u → u.oneCell' = true) ∧
      ∀ (i : Nat) (u : Value), us[i]? = some u → F ⟨(φ id).1, i, none⟩ = some u
  | .grow _ cells e sz => ∃ (us : List Value), w.heap[(φ id).1]? = some (.cells us.toArray e (0, 0)) ∧ us.length = (φ id).2 * sz ∧ cells.length ≤ us.length ∧ P.cellsOf e = sz ∧
      (∀ (i : Nat) (c : PV) (u : Value), cells[i]? = some c → us[i]? = some u → RepP F φ h c u ∧ u.oneCell' = true) ∧ ∀ (i : Nat), F ⟨(φ id).1, i, none⟩ = none
  | .gro _ cells e sz => ∃ (us : List Value), w.heap[(φ id).1]? = some (.cells us.toArray e (0, 0)) ∧ us.length = (φ id).2 * sz ∧ cells.length ≤ us.length ∧ P.cellsOf e = sz ∧
      (∀ (i : Nat) (c : TV) (u : Value), cells[i]? = some c → us[i]? = some u → RepT F c u ∧ u.oneCell' = true ∧ F ⟨(φ id).1, i, none⟩ = some u)
  | .mp t m => ∃ (es : Array MapEntry) (clock : Nat) (ents : List (TV × TV)), w.heap[(φ id).1]? = some (.map es clock) ∧ es.size = ents.length ∧ m = lookT ents ∧
      ∀ (i : Nat) (p : TV × TV) (x : MapEntry), ents[i]? = some p → es[i]? = some x → keyOk P t p.1 = true ∧ RepT F p.1 x.key ∧ RepT F p.2 x.val
  | .tok n e => 0 < n → ∃ (us : List Value), w.heap[(φ id).1]? = some (.cells us.toArray e (0, 0)) ∧ us.length = (φ id).2 * P.cellsOf e ∧ n ≤ (φ id).2 ∧ ∀ (i : Nat), n * P.cellsOf e ≤ i → F ⟨(φ id).1, i, none⟩ = none
  | .cnt _ | .res => True

def PO.live : PO → Bool
  | .cnt _ | .res => false
  | .tok n _ => decide (0 < n)
  | _ => true

/-- What may become of the objects: a variable stays one; a token grows; a number of rounds grows; nothing becomes what it likes. -/
def HStep (φ φ' : Nat → Nat × Nat) (h h' : Hp) : Prop :=
  ∀ (id : Nat), match h id with
    | .box _ => isBox h' id ∧ φ' id = φ id
    | .ro c => h' id = .ro c ∧ φ' id = φ id
    | .grow v _ e sz => ∃ v', growInfo (h' id) = some (v', e, sz) ∧ v ≤ v' ∧ (v' = v → φ' id = φ id)
    | .gro v c e sz => h' id = .gro v c e sz ∧ φ' id = φ id
    | .mp t _ => mapInfo (h' id) = some t ∧ φ' id = φ id
    | .tok n e => ∃ n', h' id = .tok n' e ∧ n ≤ n' ∧ (n' = n → φ' id = φ id)
    | .cnt _ => ∃ n, h' id = .cnt n
    | .res => True

/-- Blocks of before the call are as they were, but for those that may be written. -/
structure Bel (E : Nat → Prop) (w w' : World) : Prop where
  os : w'.os = w.os
  tape : w'.tape = w.tape
  output : w'.output = w.output
  size : w.heap.size ≤ w'.heap.size
  block : ∀ k, k < w.heap.size → ¬ E k → w'.heap[k]? = w.heap[k]?

/-- Where a call began: the world, what was frozen, the objects that it knows of, the blocks of before that it may write. -/
structure Cx where
  w0 : World
  F0 : Fz
  h0 : Hp
  φ0 : Nat → Nat × Nat
  E : Nat → Prop

structure RH (P : Program) (C : Cx) (F : Fz) (φ : Nat → Nat × Nat) (h : Hp) (w : World) : Prop where
  agree : ∀ a u, F a = some u → w.cell? a = some u
  more : C.F0.le F
  news : ∀ a u, F a = some u → C.F0 a = none → C.w0.heap.size ≤ a.block ∨ C.E a.block
  objs : ∀ (id : Nat), RepO P F φ h w id (h id)
  inj : ∀ (i j : Nat), (h i).live = true → (h j).live = true → (φ i).1 = (φ j).1 → i = j
  high : ∀ (i : Nat), (h i).live = true → C.w0.heap.size ≤ (φ i).1 ∨ C.E (φ i).1
  bel : Bel C.E C.w0 w
  step : HStep C.φ0 φ C.h0 h

/-- The blocks of the objects. -/
def own (φ : Nat → Nat × Nat) (h : Hp) (b : Nat) : Prop := ∃ id, (h id).live = true ∧ (φ id).1 = b
/-- 'Here and now'. -/
def loc (w : World) (F : Fz) (φ : Nat → Nat × Nat) (h : Hp) : Cx := ⟨w, F, h, φ, own φ h⟩

def RTm (F : Fz) (φ : Nat → Nat × Nat) (h : Hp) (ps : List PV) (us : Array Value) : Prop :=
  us.size = ps.length ∧ ∀ (i : Nat) (p : PV) (u : Value), ps[i]? = some p → us[i]? = some u → RepP F φ h p u

theorem RepP.mono {F F' : Fz} (hF : F.le F') {φ : Nat → Nat × Nat} {h : Hp} {p : PV} {u : Value} (hr : RepP F φ h p u) : RepP F' φ h p u := by
  induction p generalizing u with
  | t x => exact RepT.mono hF hr
  | ptr => exact hr
  | own cs n id => exact ⟨hr.1, fun h0 => (hr.2.1 h0).mono hF, hr.2.2⟩
  | fnc => exact hr
  | yld => exact hr
  | cond b p ih => exact ⟨fun hb => ih (hr.1 hb), hr.2⟩
  | gsl => exact hr
  | gptr => exact hr
  | mapr => exact hr
  | nil => exact hr
  | cons b p q ih1 ih2 => obtain ⟨v, us, h1, h2, h3, h4⟩ := hr; exact ⟨v, us, h1, ih1 h2, ih2 h3, h4⟩
  | junk => trivial

theorem HStep.refl (φ : Nat → Nat × Nat) (h : Hp) : HStep φ φ h h := fun id => by
  cases hh : h id with
  | box c => exact ⟨.inl ⟨c, hh⟩, rfl⟩
  | ro c => exact ⟨rfl, rfl⟩
  | grow v c e sz => exact ⟨v, rfl, Nat.le_refl _, fun _ => rfl⟩
  | gro v c e sz => exact ⟨rfl, rfl⟩
  | mp t m => exact ⟨rfl, rfl⟩
  | tok n e => exact ⟨n, rfl, Nat.le_refl _, fun _ => rfl⟩
  | cnt n => exact ⟨n, rfl⟩
  | res => trivial

theorem growInfo.step {φ φ' : Nat → Nat × Nat} {h h' : Hp} (hs : HStep φ φ' h h') {id v : Nat} {e : TypeId} {sz : Nat} (hb : growInfo (h id) = some (v, e, sz)) : ∃ v', growInfo (h' id) = some (v', e, sz) ∧ v ≤ v' ∧ (v' = v → φ' id = φ id) := by
  have := hs id
  cases hh : h id <;> rw [hh] at hb this <;> simp only [growInfo, Option.some.injEq, Prod.mk.injEq, reduceCtorEq] at hb
  · obtain ⟨rfl, rfl, rfl⟩ := hb; exact this
  · obtain ⟨rfl, rfl, rfl⟩ := hb; exact ⟨_, by rw [this.1]; rfl, Nat.le_refl _, fun _ => this.2⟩
theorem mapInfo.step {φ φ' : Nat → Nat × Nat} {h h' : Hp} (hs : HStep φ φ' h h') {id : Nat} {t : TypeId} (hb : mapInfo (h id) = some t) : mapInfo (h' id) = some t ∧ φ' id = φ id := by
  have := hs id
  cases hh : h id <;> rw [hh] at hb this <;> simp only [mapInfo, Option.some.injEq, reduceCtorEq] at hb
  subst hb; exact this
theorem isBox.step {φ φ' : Nat → Nat × Nat} {h h' : Hp} (hs : HStep φ φ' h h') {id : Nat} (hb : isBox h id) : isBox h' id ∧ φ' id = φ id := by
  have := hs id
  rcases hb with ⟨c, hc⟩ | ⟨c, hc⟩
  · rw [hc] at this; exact this
  · rw [hc] at this; exact ⟨.inr ⟨c, this.1⟩, this.2⟩
theorem HStep.trans {φ φ' φ'' : Nat → Nat × Nat} {h h' h'' : Hp} (s1 : HStep φ φ' h h') (s2 : HStep φ' φ'' h' h'') : HStep φ φ'' h h'' := by
  intro id
  have a := s1 id
  have b := s2 id
  cases hh : h id with
  | box c =>
    rw [hh] at a
    obtain ⟨b1, b2⟩ := a.1.step s2
    exact ⟨b1, b2.trans a.2⟩
  | ro c => rw [hh] at a; rw [a.1] at b; exact ⟨b.1, b.2.trans a.2⟩
  | grow v c e sz =>
    rw [hh] at a
    obtain ⟨v', a1, a2, a3⟩ := a
    obtain ⟨v'', b1, b2, b3⟩ := growInfo.step s2 a1
    exact ⟨v'', b1, Nat.le_trans a2 b2, fun e => by
      have e1 : v' = v := by omega
      rw [b3 (by omega), a3 e1]⟩
  | gro v c e sz => rw [hh] at a; rw [a.1] at b; exact ⟨b.1, b.2.trans a.2⟩
  | mp t m =>
    rw [hh] at a
    obtain ⟨b1, b2⟩ := mapInfo.step s2 a.1
    exact ⟨b1, b2.trans a.2⟩
  | tok n e =>
    rw [hh] at a
    obtain ⟨n', a1, a2, a3⟩ := a
    rw [a1] at b
    obtain ⟨n'', b1, b2, b3⟩ := b
    exact ⟨n'', b1, Nat.le_trans a2 b2, fun e => by
      have e1 : n' = n := by omega
      rw [b3 (by omega), a3 e1]⟩
  | cnt n =>
    rw [hh] at a
    obtain ⟨n', a1⟩ := a
    rw [a1] at b
    exact b
  | res => trivial

theorem RepP.step {F : Fz} {φ φ' : Nat → Nat × Nat} {h h' : Hp} {p : PV} {u : Value} (hs : HStep φ φ' h h') (hr : RepP F φ h p u) : RepP F φ' h' p u := by
  induction p generalizing u with
  | t x => exact hr
  | ptr id off => exact ⟨(hr.1.step hs).1, by rw [(hr.1.step hs).2]; exact hr.2⟩
  | own cs n id =>
    obtain ⟨h0, h2, m, e, h3, h4, h5⟩ := hr
    have := hs id
    rw [h3] at this
    obtain ⟨n', a1, a2, a3⟩ := this
    refine ⟨h0, h2, n', e, a1, by omega, fun e' => ?_⟩
    rw [a3 (by omega)]; exact h5 (by omega)
  | fnc f ids =>
    refine ⟨fun id hid => ((hr.1 id hid).step hs).1, ?_⟩
    have e : (ids.map fun id => Value.pointer (some ⟨(φ id).1, 0, none⟩)) = ids.map fun id => Value.pointer (some ⟨(φ' id).1, 0, none⟩) :=
      List.map_congr_left fun id hid => by rw [((hr.1 id hid).step hs).2]
    rw [hr.2, e]
  | yld => exact hr
  | cond b p ih => exact ⟨fun hb => ih (hr.1 hb), hr.2⟩
  | gsl id ver sz o n full =>
    obtain ⟨v, e, cap, a, h1, h2, h3, h4, h5, h6, h7⟩ := hr
    obtain ⟨v', a1, a2, a3⟩ := growInfo.step hs h1
    refine ⟨v', e, cap, a, a1, Nat.le_trans h2 a2, h3, h4, h5, h6, fun e' => ?_⟩
    rw [a3 (by omega)]; exact h7 (by omega)
  | gptr id ver off =>
    obtain ⟨v, e, sz, a, h1, h2, h3, h4⟩ := hr
    obtain ⟨v', a1, a2, a3⟩ := growInfo.step hs h1
    refine ⟨v', e, sz, a, a1, Nat.le_trans h2 a2, h3, fun e' => ?_⟩
    rw [a3 (by omega)]; exact h4 (by omega)
  | mapr id =>
    obtain ⟨t, h1, h2⟩ := hr
    obtain ⟨a1, a2⟩ := mapInfo.step hs h1
    exact ⟨t, a1, by rw [a2]; exact h2⟩
  | nil => exact hr
  | cons b p q ih1 ih2 => obtain ⟨v, us, h1, h2, h3, h4⟩ := hr; exact ⟨v, us, h1, ih1 h2, ih2 h3, h4⟩
  | junk => trivial

theorem RTm.step {F F' : Fz} {φ φ' : Nat → Nat × Nat} {h h' : Hp} {ps : List PV} {us : Array Value} (hr : RTm F φ h ps us) (hF : F.le F') (hs : HStep φ φ' h h') : RTm F' φ' h' ps us :=
  ⟨hr.1, fun i p u hp hu => ((hr.2 i p u hp hu).mono hF).step hs⟩

/-- THE CONTRACT: called with values that stand for as, where the objects are h, function f returns what stands for v; the objects are h' then; of what was there nothing but the objects' blocks is written. -/
def FnOk (P : Program) (f : FuncId) : Prop := ∃ fn, P.funcs[f]? = some fn ∧ fn.body.isNone = false ∧ (fn.name == "runtime.NumGoroutine") = false
def RPs (F : Fz) (φ : Nat → Nat × Nat) (h : Hp) (ps : List PV) (us : List Value) : Prop :=
  us.length = ps.length ∧ ∀ (i : Nat) (p : PV) (u : Value), ps[i]? = some p → us[i]? = some u → RepP F φ h p u
def HCalls (P : Program) (f : FuncId) (as : List PV) (h : Hp) (v : PV) (h' : Hp) : Prop :=
  FnOk P f ∧ ∀ (w : World) (F : Fz) (φ : Nat → Nat × Nat) (us : List Value), RH P (loc w F φ h) F φ h w → RPs F φ h as us →
    Calls P f us.toArray w fun e w' => ∃ u F' φ', e = .returned u ∧ RH P (loc w F φ h) F' φ' h' w' ∧ RepP F' φ' h' v u
def noH : Hp := fun _ => .res
/-- The contract of a function that is handed trees and hands back a tree. -/
def PCalls (P : Program) (f : FuncId) (args : List TV) (r : TV) : Prop := HCalls P f (args.map .t) noH (.t r) noH

def PV.toT : PV → Option TV
  | .t x => some x
  | .own cs n _ => some (if n = 0 then .nilSl else .sl cs n false)
  | _ => none
theorem PV.toT_rep {F : Fz} {φ : Nat → Nat × Nat} {h : Hp} {p : PV} {x : TV} {u : Value} (hp : p.toT = some x) (hr : RepP F φ h p u) : RepT F x u := by
  cases p <;> simp [PV.toT] at hp
  · subst hp; exact hr
  · subst hp
    split
    · rename_i h0
      obtain ⟨_, rfl⟩ := hr.1 h0
      exact .nilSl
    · rename_i h0; exact hr.2.1 (by omega)

end Go.Pm
