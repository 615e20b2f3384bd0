/- What the claim leans on, text 1. -/
import Derived.WalkKit
import Derived.Orders
import Derived.Laws.CopyRow
import Derived.RangeFuncNested
import Derived.OrdersIn
import Derived.OwnWalkIn
import Derived.Laws.BytesArg
import Derived.Laws.IdiomStrings
import Derived.Lib.AppendStr
import Derived.ArgAppend
import Derived.Maps.AppendAt
set_option linter.unusedSimpArgs false
set_option linter.unusedVariables false

/- Part QmA. -/
namespace Go.Pm
open Go Go.RowKit

inductive TV where
 | int (k : IntKind) (n : Int)
 | bool (b : Bool)
 | str (s : ByteArray)
 | nilSl
 | sl (cs : List TV) (n : Nat) (full : Bool)
 | agg (cs : List TV)
 | tup (vs : List TV)
 | nilIf
 | ifc (t : TypeId) (v : TV)
 | nilFn
 | fn (f : FuncId) (pre caps : List TV)
 | cptr (cs : List TV)
 | nilPtr
 | nilMap
 | imap (t : TypeId) (vs : List TV)
 deriving Inhabited

def globs : List (Nat × List TV) :=
 []
 ++ [(0, [.fn 163 [] [], .fn 164 [] [], .fn 160 [] [], .fn 165 [] []])]

inductive PV where
 | t (x : TV)
 | ptr (id off : Nat)
 | own (cs : List TV) (n id : Nat)
 | fnc (f : FuncId) (ids : List Nat)
 | yld (l : Nat)
 | mth (t : TypeId) (name : String)
 | cond (b : Bool) (p : PV)
 | gsl (id ver sz o n : Nat) (full : Bool)
 | gptr (id ver off : Nat)
 | mapr (id : Nat)
 | nil (b : Bool)
 | cons (b : Bool) (p q : PV)
 | junk
 deriving Inhabited

inductive PO where
 | box (cells : List PV)
 | ro (cells : List TV)
 | grow (ver : Nat) (cells : List PV) (e : TypeId) (sz : Nat)
 | gro (ver : Nat) (cells : List TV) (e : TypeId) (sz : Nat)
 | mp (t : TypeId) (m : TV → Option TV)
 | mpo (t : TypeId) (ps : List PV)
 | mpk (t : TypeId) (ks : List TV) (ps : List PV)
 | mfz (t : TypeId) (vs : List TV)
 | tok (n : Nat) (e : TypeId)
 | cnt (n : Nat)
 | res
 deriving Inhabited

abbrev Hp := Nat → PO
def upo (h : Hp) (i : Nat) (o : PO) : Hp := fun j => if j = i then o else h j
theorem upo_same (h : Hp) (i : Nat) (o : PO) : upo h i o i = o := by simp [upo]
theorem upo_other (h : Hp) {i j : Nat} (o : PO) (hj : j ≠ i) : upo h i o j = h j := by simp [upo, hj]

abbrev Fz := Addr → Option Value
def look (w : World) (a : Addr) : Option Value :=
 match w.heap[a.block]? with
 | some (.cells c _ _) => if a.spot.isSome then none else c[a.off]?
 | some (.map es _) => if a.spot = some 0 ∧ a.off = 0 then some (.tuple (es.toList.map fun e => Value.tuple #[e.key, e.val]).toArray) else none
 | _ => none
theorem look_cell {w : World} {a : Addr} {u : Value} (h : look w a = some u) (hu : u.oneCell' = true) : w.cell? a = some u := by
 unfold look at h
 unfold World.cell?
 split at h
 ·rename_i hb; rw [hb]; exact h
 ·split at h
  ·simp only [Option.some.injEq] at h; subst h; simp [Value.oneCell'] at hu
  ·cases h
 ·cases h
theorem look_of {w : World} {a : Addr} {u : Value} (h : w.cell? a = some u) : look w a = some u := by
 unfold World.cell? at h
 unfold look
 split at h
 ·rename_i hb; rw [hb]; exact h
 ·cases h
def mapV (es : List (Int × Value)) : Value := .tuple (es.map fun p => Value.tuple #[.int .i64 p.1, p.2]).toArray
def lookI (es : List (Int × Value)) (i : Int) : Value := match es.find? (fun p => p.1 == i) with
 | some p => p.2
 | none => .slice none 0 0

inductive RepT (F : Fz) : TV → Value → Prop
 | int (k : IntKind) (n : Int) : RepT F (.int k n) (.int k n)
 | bool (b : Bool) : RepT F (.bool b) (.bool b)
 | str (s : ByteArray) : RepT F (.str s) (.string s)
 | nilSl : RepT F .nilSl (.slice none 0 0)
 | sl (cs : List TV) (n : Nat) (full : Bool) (a : Addr) (cap : Nat) (us : List Value) : us.length = cs.length → (∀ (i : Nat) (u : Value), us[i]? = some u → F (a.add i) = some u ∧ u.oneCell' = true) →
   (∀ (i : Nat) (c : TV) (u : Value), cs[i]? = some c → us[i]? = some u → RepT F c u) → n ≤ cap → (full = true → cap = n) → cap ≤ maxLen → RepT F (.sl cs n full) (.slice (some a) n cap)
 | agg (cs : List TV) (us : List Value) : us.length = cs.length → (∀ (i : Nat) (u : Value), us[i]? = some u → u.oneCell' = true) →
   (∀ (i : Nat) (c : TV) (u : Value), cs[i]? = some c → us[i]? = some u → RepT F c u) → RepT F (.agg cs) (.agg us.toArray)
 | tup (cs : List TV) (us : List Value) : us.length = cs.length → (∀ (i : Nat) (c : TV) (u : Value), cs[i]? = some c → us[i]? = some u → RepT F c u) → RepT F (.tup cs) (.tuple us.toArray)
 | nilIf : RepT F .nilIf .nilIface
 | ifc (t : TypeId) (x : TV) (u : Value) : RepT F x u → RepT F (.ifc t x) (.iface t u)
 | nilFn : RepT F .nilFn .nilFunc
 | fn (f : FuncId) (pre caps : List TV) (vs us : List Value) : vs.length = pre.length → (∀ (i : Nat) (c : TV) (u : Value), pre[i]? = some c → vs[i]? = some u → RepT F c u) →
   us.length = caps.length → (∀ (i : Nat) (c : TV) (u : Value), caps[i]? = some c → us[i]? = some u → RepT F c u) → RepT F (.fn f pre caps) (.func (.func f) vs.toArray us.toArray)
 | cptr (cs : List TV) (a : Addr) (us : List Value) : us.length = cs.length → (∀ (i : Nat) (u : Value), us[i]? = some u → F (a.add i) = some u ∧ u.oneCell' = true) →
   (∀ (i : Nat) (c : TV) (u : Value), cs[i]? = some c → us[i]? = some u → RepT F c u) → RepT F (.cptr cs) (.pointer (some a))
 | nilPtr : RepT F .nilPtr (.pointer none)
 | nilMap : RepT F .nilMap (.map none)
 | imap (t : TypeId) (vs : List TV) (b : Nat) (es : List (Int × Value)) (us : List Value) : F ⟨b, 0, some 0⟩ = some (mapV es) → us.length = vs.length → (∀ (i : Nat) (u : Value), us[i]? = some u → u = lookI es i) →
   (∀ (i : Nat) (c : TV) (u : Value), vs[i]? = some c → us[i]? = some u → RepT F c u) → RepT F (.imap t vs) (.map (some b))

def Fz.le (F F' : Fz) : Prop := ∀ a u, F a = some u → F' a = some u
theorem Fz.le_refl (F : Fz) : F.le F := fun _ _ h => h
theorem Fz.le_trans {F F' F'' : Fz} (h : F.le F') (h' : F'.le F'') : F.le F'' := fun _ _ e => h' _ _ (h _ _ e)

theorem RepT.mono {F F' : Fz} (h : F.le F') {x : TV} {u : Value} (hr : RepT F x u) : RepT F' x u := by
 induction hr with
 | int => exact .int ..
 | bool => exact .bool ..
 | str => exact .str ..
 | nilSl => exact .nilSl
 | sl cs n full a cap us hl hF _ h1 h2 h3 ih => exact .sl cs n full a cap us hl (fun i u hu => ⟨h _ _ (hF i u hu).1, (hF i u hu).2⟩) ih h1 h2 h3
 | agg cs us hl h1 _ ih => exact .agg cs us hl h1 ih
 | tup cs us hl _ ih => exact .tup cs us hl ih
 | nilIf => exact .nilIf
 | ifc t x u _ ih => exact .ifc t x u ih
 | nilFn => exact .nilFn
 | fn f pre caps vs us hv _ hl _ ih1 ih => exact .fn f pre caps vs us hv ih1 hl ih
 | cptr cs a us hl hF _ ih => exact .cptr cs a us hl (fun i u hu => ⟨h _ _ (hF i u hu).1, (hF i u hu).2⟩) ih
 | nilPtr => exact .nilPtr
 | nilMap => exact .nilMap
 | imap t vs b es us h1 h2 h3 _ ih => exact .imap t vs b es us (h _ _ h1) h2 h3 ih

def GlobOk (F : Fz) : Prop := ∀ (g : Nat) (cs : List TV), globs.lookup g = some cs → RepT F (.cptr cs) (.pointer (some ⟨g, 0, none⟩))
theorem GlobOk.mono {F F' : Fz} (h : F.le F') (hg : GlobOk F) : GlobOk F' := fun g cs hc => (hg g cs hc).mono h
def globP (g : Nat) : PV := match globs.lookup g with
 | some cs => .t (.cptr cs)
 | none => .junk

def RepL (F : Fz) (cs : List TV) (us : List Value) : Prop := us.length = cs.length ∧ ∀ (i : Nat) (c : TV) (u : Value), cs[i]? = some c → us[i]? = some u → RepT F c u
theorem RepL.mono {F F' : Fz} (h : F.le F') {cs : List TV} {us : List Value} (hr : RepL F cs us) : RepL F' cs us := ⟨hr.1, fun i c u h1 h2 => (hr.2 i c u h1 h2).mono h⟩
theorem RepL.nil {F : Fz} : RepL F [] [] := ⟨rfl, fun i c u h => by simp at h⟩
theorem RepL.cons {F : Fz} {c : TV} {u : Value} {cs : List TV} {us : List Value} (h : RepT F c u) (hs : RepL F cs us) : RepL F (c :: cs) (u :: us) := by
 refine ⟨by simp [hs.1], fun i d v h1 h2 => ?_⟩
 cases i with
 | zero => simp at h1 h2; subst h1; subst h2; exact h
 | succ i => simp at h1 h2; exact hs.2 i d v h1 h2
theorem RepL.append {F : Fz} {cs ds : List TV} {us vs : List Value} (h : RepL F cs us) (h' : RepL F ds vs) : RepL F (cs ++ ds) (us ++ vs) := by
 induction cs generalizing us with
 | nil => have : us = [] := List.eq_nil_of_length_eq_zero (by simpa using h.1)
          subst this; simpa using h'
 | cons c cs ih =>
  cases us with
  | nil => have := h.1; simp at this
  | cons u us => exact RepL.cons (h.2 0 c u rfl rfl) (ih ⟨by have := h.1; simpa using this, fun i d v a b => h.2 (i + 1) d v (by simpa using a) (by simpa using b)⟩)
theorem RepL.drop {F : Fz} {cs : List TV} {us : List Value} (h : RepL F cs us) (k : Nat) : RepL F (cs.drop k) (us.drop k) :=
 ⟨by simp [h.1], fun i c u a b => h.2 (k + i) c u (by simpa using a) (by simpa using b)⟩
theorem RepL.take {F : Fz} {cs : List TV} {us : List Value} (h : RepL F cs us) (k : Nat) : RepL F (cs.take k) (us.take k) :=
 ⟨by simp [h.1], fun i c u a b => by
  rw [List.getElem?_take] at a b
  split at a
  ·rename_i hk; rw [if_pos hk] at b; exact h.2 i c u a b
  ·simp at a⟩

def TV.flat : TV → Bool
 | .agg _ | .tup _ => false
 | _ => true
theorem RepT.oneCell {F : Fz} {x : TV} {u : Value} (h : RepT F x u) (hx : x.flat = true) : u.oneCell' = true := by
 cases h <;> first | rfl | (simp [TV.flat] at hx)
def TV.cells : TV → List TV
 | .agg cs => cs
 | x => [x]
theorem RepT.cells {F : Fz} {x : TV} {u : Value} (h : RepT F x u) (ht : ∀ vs, x ≠ .tup vs) : RepL F x.cells u.cells.toList ∧ ∀ (i : Nat) (v : Value), u.cells.toList[i]? = some v → v.oneCell' = true := by
 cases h with
 | agg cs us hl h1 hr => exact ⟨⟨by simpa [Value.cells, TV.cells] using hl, fun i c u a b => hr i c u a (by simpa [Value.cells] using b)⟩, fun i v hv => h1 i v (by simpa [Value.cells] using hv)⟩
 | tup cs us => exact absurd rfl (ht cs)
 | int k n => exact ⟨RepL.cons (.int k n) .nil, fun i v hv => by cases i <;> simp [Value.cells] at hv; subst hv; rfl⟩
 | bool b => exact ⟨RepL.cons (.bool b) .nil, fun i v hv => by cases i <;> simp [Value.cells] at hv; subst hv; rfl⟩
 | str b => exact ⟨RepL.cons (.str b) .nil, fun i v hv => by cases i <;> simp [Value.cells] at hv; subst hv; rfl⟩
 | nilSl => exact ⟨RepL.cons .nilSl .nil, fun i v hv => by cases i <;> simp [Value.cells] at hv; subst hv; rfl⟩
 | sl cs n full a cap us hl hF hr h1 h2 h3 => exact ⟨RepL.cons (.sl cs n full a cap us hl hF hr h1 h2 h3) .nil, fun i v hv => by cases i <;> simp [Value.cells] at hv; subst hv; rfl⟩
 | nilIf => exact ⟨RepL.cons .nilIf .nil, fun i v hv => by cases i <;> simp [Value.cells] at hv; subst hv; rfl⟩
 | ifc t x u hr => exact ⟨RepL.cons (.ifc t x u hr) .nil, fun i v hv => by cases i <;> simp [Value.cells] at hv; subst hv; rfl⟩
 | nilFn => exact ⟨RepL.cons .nilFn .nil, fun i v hv => by cases i <;> simp [Value.cells] at hv; subst hv; rfl⟩
 | fn f pre caps vs us hv hr1 hl hr => exact ⟨RepL.cons (.fn f pre caps vs us hv hr1 hl hr) .nil, fun i v hv => by cases i <;> simp [Value.cells] at hv; subst hv; rfl⟩
 | cptr cs a us hl hF hr => exact ⟨RepL.cons (.cptr cs a us hl hF hr) .nil, fun i v hv => by cases i <;> simp [Value.cells] at hv; subst hv; rfl⟩
 | nilPtr => exact ⟨RepL.cons .nilPtr .nil, fun i v hv => by cases i <;> simp [Value.cells] at hv; subst hv; rfl⟩
 | nilMap => exact ⟨RepL.cons .nilMap .nil, fun i v hv => by cases i <;> simp [Value.cells] at hv; subst hv; rfl⟩
 | imap t vs b es us h1 h2 h3 h4 => exact ⟨RepL.cons (.imap t vs b es us h1 h2 h3 h4) .nil, fun i v hv => by cases i <;> simp [Value.cells] at hv; subst hv; rfl⟩

def isBox (h : Hp) (id : Nat) : Prop := (∃ cells, h id = .box cells) ∨ ∃ cells, h id = .ro cells
def growInfo : PO → Option (Nat × TypeId × Nat)
 | .grow v _ e sz => some (v, e, sz)
 | .gro v _ e sz => some (v, e, sz)
 | _ => none
def mapInfo : PO → Option TypeId
 | .mp t _ => some t
 | .mpo t _ => some t
 | .mpk t _ _ => some t
 | .mfz t _ => some t
 | _ => none
def mkV (b : Bool) (us : List Value) : Value := if b then .tuple us.toArray else .agg us.toArray
def RepP (F : Fz) (φ : Nat → Nat × Nat) (h : Hp) : PV → Value → Prop
 | .t x, u => RepT F x u
 | .ptr id off, u => isBox h id ∧ u = .pointer (some ⟨(φ id).1, off, none⟩)
 | .own cs n id, u => (n = 0 → cs = [] ∧ u = .slice none 0 0) ∧ (0 < n → RepT F (.sl cs n false) u) ∧ ∃ m e, h id = .tok m e ∧ n ≤ m ∧ (m = n → 0 < n → u = .slice (some ⟨(φ id).1, 0, none⟩) n (φ id).2)
 | .fnc f ids, u => (∀ id ∈ ids, isBox h id) ∧ u = .func (.func f) #[] (ids.map fun id => Value.pointer (some ⟨(φ id).1, 0, none⟩)).toArray
 | .yld l, u => u = .func (.yield l) #[] #[]
 | .mth t name, u => ∃ (xs : Array Value) (w : Value), u = .func (.method name) xs #[] ∧ xs[0]? = some (.iface t w)
 | .cond b p, u => (b = true → RepP F φ h p u) ∧ (b = false → u = .tuple #[])
 | .gsl id ver sz o n full, u => ∃ v e cap a, growInfo (h id) = some (v, e, sz) ∧ ver ≤ v ∧ u = .slice (some a) n cap ∧ n ≤ cap ∧ cap ≤ maxLen ∧ (full = true → cap = n) ∧ (ver = v → o + cap ≤ (φ id).2 ∧ (0 < cap → a = ⟨(φ id).1, o * sz, none⟩) ∧ (full = false → o + cap = (φ id).2))
 | .gptr id ver off, u => ∃ v e sz a, growInfo (h id) = some (v, e, sz) ∧ ver ≤ v ∧ u = .pointer (some a) ∧ (ver = v → a = ⟨(φ id).1, off, none⟩)
 | .mapr id, u => ∃ t, mapInfo (h id) = some t ∧ u = .map (some (φ id).1)
 | .nil b, u => u = mkV b []
 | .cons b p q, u => ∃ v us, u = mkV b (v :: us) ∧ RepP F φ h p v ∧ RepP F φ h q (mkV b us) ∧ (b = false → v.oneCell' = true)
 | .junk, _ => True

open Classical in
noncomputable def lookT (ents : List (TV × TV)) (k : TV) : Option TV := (ents.find? fun p => decide (p.1 = k)).map (·.2)
def aggO (P : Program) (t : TypeId) : Option Bool := (P.underlying t).map fun | .struct _ | .array _ _ => true | _ => false
def szO (P : Program) (t : TypeId) : Option Nat := (P.info? t).map (·.size)
def partT (P : Program) (t : TypeId) (cs : List TV) (off : Nat) : Option TV :=
 match aggO P t with
 | some true => match szO P t with
  | some n => if off + n ≤ cs.length then some (.agg ((cs.drop off).take n)) else none
  | none => none
 | some false => cs[off]?
 | none => none

def TV.scal : TV → Bool
 | .int _ _ | .bool _ | .str _ => true
 | _ => false
def keyFs (P : Program) (kt : TypeId → TV → Bool) (xs : List TV) : List Field → Nat → Bool
 | [], o => o == xs.length
 | f :: fs, o => decide (f.name ≠ "_") && (f.offset == o && (match partT P f.type xs o with
  | some u => kt f.type u && keyFs P kt xs fs (o + u.cells.length)
  | none => false))
def keyAs (P : Program) (kt : TypeId → TV → Bool) (xs : List TV) (e n : Nat) : Nat → Nat → Bool
 | 0, i => i * n == xs.length
 | k + 1, i => match partT P e xs (i * n) with
  | some u => u.cells.length == n && (kt e u && keyAs P kt xs e n k (i + 1))
  | none => false
def keyT (P : Program) : Nat → TypeId → TV → Bool
 | 0, _, _ => false
 | d + 1, t, x => match P.underlying t, x with
  | some (.int k'), .int k _ => k == k'
  | some .bool, .bool _ => true
  | some .string, .str _ => true
  | some (.struct fs), .agg xs => !P.stoodInHeld t && keyFs P (keyT P d) xs fs.toList 0
  | some (.array len e), .agg xs => match szO P e with
   | some n => keyAs P (keyT P d) xs e n len 0
   | none => false
  | _, _ => false
def keyOk (P : Program) (t : TypeId) (k : TV) : Bool := match P.underlying t with
 | some (.map kt _) => k.cells.all TV.scal && keyT P 20 kt k
 | _ => false
def okMk (mk : Nat × Nat) (n : Nat) : Prop := mk.1 < mk.2 → n ≤ mk.1
theorem okMk_zero (n : Nat) : okMk (0, 0) n := fun h => absurd h (by simp)
def RepO (P : Program) (F : Fz) (φ : Nat → Nat × Nat) (h : Hp) (w : World) (id : Nat) : PO → Prop
 | .box cells => ∃ (us : List Value) (ty : TypeId), w.heap[(φ id).1]? = some (.cells us.toArray ty (0, 0)) ∧ us.length = cells.length ∧
   (∀ (i : Nat) (c : PV) (u : Value), cells[i]? = some c → us[i]? = some u → RepP F φ h c u ∧ u.oneCell' = true) ∧ ∀ (i : Nat), F ⟨(φ id).1, i, none⟩ = none
 | .ro cells => ∃ (us : List Value) (ty : TypeId), w.heap[(φ id).1]? = some (.cells us.toArray ty (0, 0)) ∧ RepL F cells us ∧ (∀ (i : Nat) (u : Value), us[i]? = some u → u.oneCell' = true) ∧
   ∀ (i : Nat) (u : Value), us[i]? = some u → F ⟨(φ id).1, i, none⟩ = some u
 | .grow _ cells e sz => ∃ (us : List Value), (∃ mk, w.heap[(φ id).1]? = some (.cells us.toArray e mk) ∧ okMk mk us.length) ∧ us.length = (φ id).2 * sz ∧ cells.length ≤ us.length ∧ P.cellsOf e = sz ∧
   (∀ (i : Nat) (c : PV) (u : Value), cells[i]? = some c → us[i]? = some u → RepP F φ h c u ∧ u.oneCell' = true) ∧ ∀ (i : Nat), F ⟨(φ id).1, i, none⟩ = none
 | .gro _ cells e sz => ∃ (us : List Value), (∃ mk, w.heap[(φ id).1]? = some (.cells us.toArray e mk) ∧ okMk mk us.length) ∧ us.length = (φ id).2 * sz ∧ cells.length ≤ us.length ∧ P.cellsOf e = sz ∧
   (∀ (i : Nat) (c : TV) (u : Value), cells[i]? = some c → us[i]? = some u → RepT F c u ∧ u.oneCell' = true ∧ F ⟨(φ id).1, i, none⟩ = some u)
 | .mp t m => ∃ (es : Array MapEntry) (clock : Nat) (ents : List (TV × TV)), w.heap[(φ id).1]? = some (.map es clock) ∧ es.size = ents.length ∧ m = lookT ents ∧
   (∀ (i : Nat) (p : TV × TV) (x : MapEntry), ents[i]? = some p → es[i]? = some x → keyOk P t p.1 = true ∧ RepT F p.1 x.key ∧ RepT F p.2 x.val) ∧ ∀ (a : Addr), a.block = (φ id).1 → F a = none
 | .mpo _ ps => ∃ (es : Array MapEntry) (clock : Nat) (kv : List (Int × Value)), w.heap[(φ id).1]? = some (.map es clock) ∧ (es.toList.map fun e => (e.key, e.val)) = (kv.map fun p => (Value.int .i64 p.1, p.2)) ∧
   (∀ (i : Nat) (p : PV), ps[i]? = some p → RepP F φ h p (lookI kv i)) ∧ ∀ (a : Addr), a.block = (φ id).1 → F a = none
 | .mpk t ks ps => ∃ (es : Array MapEntry) (clock : Nat), w.heap[(φ id).1]? = some (.map es clock) ∧ es.size = ks.length ∧ ps.length = ks.length ∧
   (∀ (i : Nat) (k : TV) (x : MapEntry), ks[i]? = some k → es[i]? = some x → keyOk P t k = true ∧ RepT F k x.key) ∧ (∀ (i : Nat) (p : PV) (x : MapEntry), ps[i]? = some p → es[i]? = some x → RepP F φ h p x.val) ∧ ∀ (a : Addr), a.block = (φ id).1 → F a = none
 | .mfz t vs => (∃ (es : Array MapEntry) (clock : Nat), w.heap[(φ id).1]? = some (.map es clock)) ∧ RepT F (.imap t vs) (.map (some (φ id).1))
 | .tok n e => 0 < n → ∃ (us : List Value) (mk : Nat × Nat), w.heap[(φ id).1]? = some (.cells us.toArray e mk) ∧ (n ≤ maxLen → mk = (0, 0) ∧ us.length = (φ id).2 * P.cellsOf e ∧ n ≤ (φ id).2 ∧ ∀ (i : Nat), n * P.cellsOf e ≤ i → F ⟨(φ id).1, i, none⟩ = none)
 | .cnt _ | .res => True

def PO.live : PO → Bool
 | .cnt _ | .res => false
 | .tok n _ => decide (0 < n)
 | _ => true

def HStep (φ φ' : Nat → Nat × Nat) (h h' : Hp) : Prop :=
 ∀ (id : Nat), match h id with
  | .box _ => isBox h' id ∧ φ' id = φ id
  | .ro c => h' id = .ro c ∧ φ' id = φ id
  | .grow v _ e sz => ∃ v', growInfo (h' id) = some (v', e, sz) ∧ v ≤ v' ∧ (v' = v → φ' id = φ id)
  | .gro v c e sz => h' id = .gro v c e sz ∧ φ' id = φ id
  | .mp t _ => mapInfo (h' id) = some t ∧ φ' id = φ id
  | .mpo t _ => mapInfo (h' id) = some t ∧ φ' id = φ id
  | .mpk t _ _ => mapInfo (h' id) = some t ∧ φ' id = φ id
  | .mfz t _ => mapInfo (h' id) = some t ∧ φ' id = φ id
  | .tok n e => ∃ n', h' id = .tok n' e ∧ n ≤ n' ∧ (n' = n → φ' id = φ id)
  | .cnt _ => ∃ n, h' id = .cnt n
  | .res => True

structure Bel (E : Nat → Prop) (w w' : World) : Prop where
 os : w'.os = w.os
 tape : w'.tape = w.tape
 output : w'.output = w.output
 size : w.heap.size ≤ w'.heap.size
 block : ∀ k, k < w.heap.size → ¬ E k → w'.heap[k]? = w.heap[k]?

structure Cx where
 w0 : World
 F0 : Fz
 h0 : Hp
 φ0 : Nat → Nat × Nat
 E : Nat → Prop
 ds : List Deferred
 nm : Bool

structure RH (P : Program) (C : Cx) (F : Fz) (φ : Nat → Nat × Nat) (h : Hp) (w : World) : Prop where
 agree : ∀ a u, F a = some u → look w a = some u
 more : C.F0.le F
 news : ∀ a u, F a = some u → C.F0 a = none → C.w0.heap.size ≤ a.block ∨ C.E a.block
 objs : ∀ (id : Nat), RepO P F φ h w id (h id)
 inj : ∀ (i j : Nat), (h i).live = true → (h j).live = true → (φ i).1 = (φ j).1 → i = j
 high : ∀ (i : Nat), (h i).live = true → C.w0.heap.size ≤ (φ i).1 ∨ C.E (φ i).1
 bel : Bel C.E C.w0 w
 step : HStep C.φ0 φ C.h0 h
 glob : GlobOk F

def own (φ : Nat → Nat × Nat) (h : Hp) (b : Nat) : Prop := ∃ id, (h id).live = true ∧ (φ id).1 = b
def loc (w : World) (F : Fz) (φ : Nat → Nat × Nat) (h : Hp) : Cx := ⟨w, F, h, φ, own φ h, [], false⟩

def RTm (F : Fz) (φ : Nat → Nat × Nat) (h : Hp) (ps : List PV) (us : Array Value) : Prop :=
 us.size = ps.length ∧ ∀ (i : Nat) (p : PV) (u : Value), ps[i]? = some p → us[i]? = some u → RepP F φ h p u

theorem RepP.mono {F F' : Fz} (hF : F.le F') {φ : Nat → Nat × Nat} {h : Hp} {p : PV} {u : Value} (hr : RepP F φ h p u) : RepP F' φ h p u := by
 induction p generalizing u with
 | t x => exact RepT.mono hF hr
 | ptr => exact hr
 | own cs n id => exact ⟨hr.1, fun h0 => (hr.2.1 h0).mono hF, hr.2.2⟩
 | fnc => exact hr
 | yld => exact hr
 | mth => exact hr
 | cond b p ih => exact ⟨fun hb => ih (hr.1 hb), hr.2⟩
 | gsl => exact hr
 | gptr => exact hr
 | mapr => exact hr
 | nil => exact hr
 | cons b p q ih1 ih2 => obtain ⟨v, us, h1, h2, h3, h4⟩ := hr; exact ⟨v, us, h1, ih1 h2, ih2 h3, h4⟩
 | junk => trivial

theorem HStep.refl (φ : Nat → Nat × Nat) (h : Hp) : HStep φ φ h h := fun id => by
 cases hh : h id with
 | box c => exact ⟨.inl ⟨c, hh⟩, rfl⟩
 | ro c => exact ⟨rfl, rfl⟩
 | grow v c e sz => exact ⟨v, rfl, Nat.le_refl _, fun _ => rfl⟩
 | gro v c e sz => exact ⟨rfl, rfl⟩
 | mp t m => exact ⟨rfl, rfl⟩
 | mpo t m => exact ⟨rfl, rfl⟩
 | mpk t ks m => exact ⟨rfl, rfl⟩
 | mfz t m => exact ⟨rfl, rfl⟩
 | tok n e => exact ⟨n, rfl, Nat.le_refl _, fun _ => rfl⟩
 | cnt n => exact ⟨n, rfl⟩
 | res => trivial

theorem growInfo.step {φ φ' : Nat → Nat × Nat} {h h' : Hp} (hs : HStep φ φ' h h') {id v : Nat} {e : TypeId} {sz : Nat} (hb : growInfo (h id) = some (v, e, sz)) : ∃ v', growInfo (h' id) = some (v', e, sz) ∧ v ≤ v' ∧ (v' = v → φ' id = φ id) := by
 have := hs id
 cases hh : h id <;> rw [hh] at hb this <;> simp only [growInfo, Option.some.injEq, Prod.mk.injEq, reduceCtorEq] at hb
 ·obtain ⟨rfl, rfl, rfl⟩ := hb; exact this
 ·obtain ⟨rfl, rfl, rfl⟩ := hb; exact ⟨_, by rw [this.1]; rfl, Nat.le_refl _, fun _ => this.2⟩
theorem mapInfo.step {φ φ' : Nat → Nat × Nat} {h h' : Hp} (hs : HStep φ φ' h h') {id : Nat} {t : TypeId} (hb : mapInfo (h id) = some t) : mapInfo (h' id) = some t ∧ φ' id = φ id := by
 have := hs id
 cases hh : h id <;> rw [hh] at hb this <;> simp only [mapInfo, Option.some.injEq, reduceCtorEq] at hb
 all_goals (subst hb; exact this)
theorem isBox.step {φ φ' : Nat → Nat × Nat} {h h' : Hp} (hs : HStep φ φ' h h') {id : Nat} (hb : isBox h id) : isBox h' id ∧ φ' id = φ id := by
 have := hs id
 rcases hb with ⟨c, hc⟩ | ⟨c, hc⟩
 ·rw [hc] at this; exact this
 ·rw [hc] at this; exact ⟨.inr ⟨c, this.1⟩, this.2⟩
theorem HStep.trans {φ φ' φ'' : Nat → Nat × Nat} {h h' h'' : Hp} (s1 : HStep φ φ' h h') (s2 : HStep φ' φ'' h' h'') : HStep φ φ'' h h'' := by
 intro id
 have a := s1 id
 have b := s2 id
 cases hh : h id with
 | box c =>
  rw [hh] at a
  obtain ⟨b1, b2⟩ := a.1.step s2
  exact ⟨b1, b2.trans a.2⟩
 | ro c => rw [hh] at a; rw [a.1] at b; exact ⟨b.1, b.2.trans a.2⟩
 | grow v c e sz =>
  rw [hh] at a
  obtain ⟨v', a1, a2, a3⟩ := a
  obtain ⟨v'', b1, b2, b3⟩ := growInfo.step s2 a1
  exact ⟨v'', b1, Nat.le_trans a2 b2, fun e => by
   have e1 : v' = v := by omega
   rw [b3 (by omega), a3 e1]⟩
 | gro v c e sz => rw [hh] at a; rw [a.1] at b; exact ⟨b.1, b.2.trans a.2⟩
 | mp t m =>
  rw [hh] at a
  obtain ⟨b1, b2⟩ := mapInfo.step s2 a.1
  exact ⟨b1, b2.trans a.2⟩
 | mpo t m =>
  rw [hh] at a
  obtain ⟨b1, b2⟩ := mapInfo.step s2 a.1
  exact ⟨b1, b2.trans a.2⟩
 | mpk t ks m =>
  rw [hh] at a
  obtain ⟨b1, b2⟩ := mapInfo.step s2 a.1
  exact ⟨b1, b2.trans a.2⟩
 | mfz t m =>
  rw [hh] at a
  obtain ⟨b1, b2⟩ := mapInfo.step s2 a.1
  exact ⟨b1, b2.trans a.2⟩
 | tok n e =>
  rw [hh] at a
  obtain ⟨n', a1, a2, a3⟩ := a
  rw [a1] at b
  obtain ⟨n'', b1, b2, b3⟩ := b
  exact ⟨n'', b1, Nat.le_trans a2 b2, fun e => by
   have e1 : n' = n := by omega
   rw [b3 (by omega), a3 e1]⟩
 | cnt n =>
  rw [hh] at a
  obtain ⟨n', a1⟩ := a
  rw [a1] at b
  exact b
 | res => trivial

theorem RepP.step {F : Fz} {φ φ' : Nat → Nat × Nat} {h h' : Hp} {p : PV} {u : Value} (hs : HStep φ φ' h h') (hr : RepP F φ h p u) : RepP F φ' h' p u := by
 induction p generalizing u with
 | t x => exact hr
 | ptr id off => exact ⟨(hr.1.step hs).1, by rw [(hr.1.step hs).2]; exact hr.2⟩
 | own cs n id =>
  obtain ⟨h0, h2, m, e, h3, h4, h5⟩ := hr
  have := hs id
  rw [h3] at this
  obtain ⟨n', a1, a2, a3⟩ := this
  refine ⟨h0, h2, n', e, a1, by omega, fun e' => ?_⟩
  rw [a3 (by omega)]; exact h5 (by omega)
 | fnc f ids =>
  refine ⟨fun id hid => ((hr.1 id hid).step hs).1, ?_⟩
  have e : (ids.map fun id => Value.pointer (some ⟨(φ id).1, 0, none⟩)) = ids.map fun id => Value.pointer (some ⟨(φ' id).1, 0, none⟩) :=
   List.map_congr_left fun id hid => by rw [((hr.1 id hid).step hs).2]
  rw [hr.2, e]
 | yld => exact hr
 | mth => exact hr
 | cond b p ih => exact ⟨fun hb => ih (hr.1 hb), hr.2⟩
 | gsl id ver sz o n full =>
  obtain ⟨v, e, cap, a, h1, h2, h3, h4, h5, h6, h7⟩ := hr
  obtain ⟨v', a1, a2, a3⟩ := growInfo.step hs h1
  refine ⟨v', e, cap, a, a1, Nat.le_trans h2 a2, h3, h4, h5, h6, fun e' => ?_⟩
  rw [a3 (by omega)]; exact h7 (by omega)
 | gptr id ver off =>
  obtain ⟨v, e, sz, a, h1, h2, h3, h4⟩ := hr
  obtain ⟨v', a1, a2, a3⟩ := growInfo.step hs h1
  refine ⟨v', e, sz, a, a1, Nat.le_trans h2 a2, h3, fun e' => ?_⟩
  rw [a3 (by omega)]; exact h4 (by omega)
 | mapr id =>
  obtain ⟨t, h1, h2⟩ := hr
  obtain ⟨a1, a2⟩ := mapInfo.step hs h1
  exact ⟨t, a1, by rw [a2]; exact h2⟩
 | nil => exact hr
 | cons b p q ih1 ih2 => obtain ⟨v, us, h1, h2, h3, h4⟩ := hr; exact ⟨v, us, h1, ih1 h2, ih2 h3, h4⟩
 | junk => trivial

theorem RTm.step {F F' : Fz} {φ φ' : Nat → Nat × Nat} {h h' : Hp} {ps : List PV} {us : Array Value} (hr : RTm F φ h ps us) (hF : F.le F') (hs : HStep φ φ' h h') : RTm F' φ' h' ps us :=
 ⟨hr.1, fun i p u hp hu => ((hr.2 i p u hp hu).mono hF).step hs⟩

def FnOk (P : Program) (f : FuncId) : Prop := ∃ fn, P.funcs[f]? = some fn ∧ fn.body.isNone = false ∧ (fn.name == "runtime.NumGoroutine") = false
def RPs (F : Fz) (φ : Nat → Nat × Nat) (h : Hp) (ps : List PV) (us : List Value) : Prop :=
 us.length = ps.length ∧ ∀ (i : Nat) (p : PV) (u : Value), ps[i]? = some p → us[i]? = some u → RepP F φ h p u
def HCalls (P : Program) (f : FuncId) (as : List PV) (h : Hp) (v : PV) (h' : Hp) : Prop :=
 FnOk P f ∧ ∀ (w : World) (F : Fz) (φ : Nat → Nat × Nat) (us : List Value), RH P (loc w F φ h) F φ h w → RPs F φ h as us →
  Calls P f us.toArray w fun e w' => ∃ u F' φ', e = .returned u ∧ RH P (loc w F φ h) F' φ' h' w' ∧ RepP F' φ' h' v u
def noH : Hp := fun _ => .res
def PCalls (P : Program) (f : FuncId) (args : List TV) (r : TV) : Prop := HCalls P f (args.map .t) noH (.t r) noH

def PV.toT : PV → Option TV
 | .t x => some x
 | .own cs n _ => some (if n = 0 then .nilSl else .sl cs n false)
 | _ => none
def PV.rlx : PV → PV
 | .own cs n _ => .t (if n = 0 then .nilSl else .sl cs n false)
 | .cons b p q => .cons b p.rlx q.rlx
 | p => p
def PV.ownIn : PV → Bool
 | .own _ _ _ => true
 | .cons _ p q => p.ownIn || q.ownIn
 | _ => false
theorem PV.rlx_id : ∀ {p : PV}, p.ownIn = false → p.rlx = p := by
 intro p
 induction p with
 | own => intro h; cases h
 | cons b p q ih1 ih2 =>
  intro h
  simp only [PV.ownIn, Bool.or_eq_false_iff] at h
  show PV.cons b p.rlx q.rlx = _
  rw [ih1 h.1, ih2 h.2]
 | _ => intro _; rfl
theorem PV.toT_rep {F : Fz} {φ : Nat → Nat × Nat} {h : Hp} {p : PV} {x : TV} {u : Value} (hp : p.toT = some x) (hr : RepP F φ h p u) : RepT F x u := by
 cases p <;> simp [PV.toT] at hp
 ·subst hp; exact hr
 ·subst hp
  split
  ·rename_i h0
   obtain ⟨_, rfl⟩ := hr.1 h0
   exact .nilSl
  ·rename_i h0; exact hr.2.1 (by omega)

theorem PV.rlx_rep {F : Fz} {φ : Nat → Nat × Nat} {h : Hp} {p : PV} : ∀ {u : Value}, RepP F φ h p u → RepP F φ h p.rlx u := by
 induction p with
 | own cs n id => intro u hr; exact PV.toT_rep (p := .own cs n id) rfl hr
 | cons b p q ih1 ih2 =>
  intro u hr
  obtain ⟨v, us, h1, h2, h3, h4⟩ := hr
  exact ⟨v, us, h1, ih1 h2, ih2 h3, h4⟩
 | _ => intro u hr; exact hr
end Go.Pm

/- Part QmB. -/
namespace Go.Pm
open Go Go.RowKit

theorem cell_at {w : World} {b : Nat} {us : List Value} {ty : TypeId} {f : Nat × Nat} (h : w.heap[b]? = some (.cells us.toArray ty f)) (i : Nat) : w.cell? ⟨b, i, none⟩ = us[i]? := by
 simp [World.cell?, h]
theorem add_plain (b o n : Nat) : (⟨b, o, none⟩ : Addr).add n = ⟨b, o + n, none⟩ := by unfold Addr.add; split <;> simp_all
theorem add_add (a : Addr) (i j : Nat) : (a.add i).add j = a.add (i + j) := by
 unfold Addr.add
 by_cases hi : i = 0 <;> by_cases hj : j = 0 <;> simp [hi, hj, Nat.add_assoc]
theorem add_zero (a : Addr) : a.add 0 = a := by simp [Addr.add]
theorem heap_alloc_old {w : World} {o : Obj} {b : Nat} (h : b < w.heap.size) : (w.alloc o).heap[b]? = w.heap[b]? := Below.heap_alloc w o b h
theorem lt_of_block {w : World} {b : Nat} {o : Obj} (h : w.heap[b]? = some o) : b < w.heap.size := by
 rcases Nat.lt_or_ge b w.heap.size with h' | h'
 ·exact h'
 ·simp [Array.getElem?_eq_none h'] at h
theorem cell_lt {w : World} {a : Addr} {u : Value} (h : look w a = some u) : a.block < w.heap.size := by
 rcases Nat.lt_or_ge a.block w.heap.size with h' | h'
 ·exact h'
 ·unfold look at h; rw [Array.getElem?_eq_none h'] at h; cases h
theorem look_same {w w' : World} {a : Addr} (h : w'.heap[a.block]? = w.heap[a.block]?) : look w' a = look w a := by unfold look; rw [h]
theorem look_at {w : World} {b : Nat} {us : List Value} {ty : TypeId} {f : Nat × Nat} (h : w.heap[b]? = some (.cells us.toArray ty f)) (i : Nat) : look w ⟨b, i, none⟩ = us[i]? := by
 simp [look, h]
variable {P : Program} {C : Cx} {F F' : Fz} {φ φ' φ'' : Nat → Nat × Nat} {h h' h'' : Hp} {w w' : World} {v sz : Nat}

theorem Bel.refl (E : Nat → Prop) (w : World) : Bel E w w := ⟨rfl, rfl, rfl, Nat.le_refl _, fun _ _ _ => rfl⟩
theorem Bel.below {E : Nat → Prop} {w0 : World} (b : Bel E w0 w) (hb : Below w.heap.size w w') : Bel E w0 w' :=
 ⟨hb.os.trans b.os, hb.tape.trans b.tape, hb.output.trans b.output, Nat.le_trans b.size hb.size, fun k hk he => (hb.block k (Nat.lt_of_lt_of_le hk b.size)).trans (b.block k hk he)⟩

theorem RepO.step {id : Nat} {o : PO} (hr : RepO P F φ h w id o) (hφ : o.live = true → φ' id = φ id) (hs : HStep φ φ' h h') (hF : F.le F')
  (hn : o.live = true → ∀ a : Addr, a.block = (φ id).1 → F' a = F a)
  (hw : o.live = true → w'.heap[(φ id).1]? = w.heap[(φ id).1]?) : RepO P F' φ' h' w' id o := by
 cases o with
 | box cells =>
  obtain ⟨us, ty, h1, h2, h3, h4⟩ := hr
  have e := hφ rfl
  exact ⟨us, ty, by rw [e, hw rfl]; exact h1, h2, fun i c u a b => ⟨((h3 i c u a b).1.mono hF).step hs, (h3 i c u a b).2⟩, fun i => by rw [e, hn rfl _ rfl]; exact h4 i⟩
 | ro cells =>
  obtain ⟨us, ty, h1, h2, h3, h4⟩ := hr
  have e := hφ rfl
  exact ⟨us, ty, by rw [e, hw rfl]; exact h1, h2.mono hF, h3, fun i u hu => by rw [e]; exact hF _ _ (h4 i u hu)⟩
 | grow v cells e sz =>
  obtain ⟨us, h1, h2, h3, h4, h5, h6⟩ := hr
  have e' := hφ rfl
  exact ⟨us, by rw [e', hw rfl]; exact h1, by rw [e']; exact h2, h3, h4, fun i c u a b => ⟨((h5 i c u a b).1.mono hF).step hs, (h5 i c u a b).2⟩, fun i => by rw [e', hn rfl _ rfl]; exact h6 i⟩
 | gro v cells e sz =>
  obtain ⟨us, h1, h2, h3, h4, h5⟩ := hr
  have e' := hφ rfl
  exact ⟨us, by rw [e', hw rfl]; exact h1, by rw [e']; exact h2, h3, h4, fun i c u a b => ⟨(h5 i c u a b).1.mono hF, (h5 i c u a b).2.1, by rw [e']; exact hF _ _ (h5 i c u a b).2.2⟩⟩
 | mp t m =>
  obtain ⟨es, clock, ents, h1, h2, h3, h4, h5⟩ := hr
  have e' := hφ rfl
  exact ⟨es, clock, ents, by rw [e', hw rfl]; exact h1, h2, h3, fun i p x a b => ⟨(h4 i p x a b).1, (h4 i p x a b).2.1.mono hF, (h4 i p x a b).2.2.mono hF⟩, fun a ha => by rw [e'] at ha; rw [hn rfl a ha]; exact h5 a ha⟩
 | mpo t ps =>
  obtain ⟨es, clock, kv, h1, h2, h3, h4⟩ := hr
  have e' := hφ rfl
  exact ⟨es, clock, kv, by rw [e', hw rfl]; exact h1, h2, fun i p hp => ((h3 i p hp).mono hF).step hs, fun a ha => by rw [e'] at ha; rw [hn rfl a ha]; exact h4 a ha⟩
 | mpk t ks ps =>
  obtain ⟨es, clock, h1, h2, h3, h4, h5, h6⟩ := hr
  have e' := hφ rfl
  exact ⟨es, clock, by rw [e', hw rfl]; exact h1, h2, h3, fun i k x a b => ⟨(h4 i k x a b).1, (h4 i k x a b).2.mono hF⟩, fun i p x a b => ((h5 i p x a b).mono hF).step hs, fun a ha => by rw [e'] at ha; rw [hn rfl a ha]; exact h6 a ha⟩
 | mfz t vs =>
  obtain ⟨⟨es, clock, h1⟩, h2⟩ := hr
  have e' := hφ rfl
  exact ⟨⟨es, clock, by rw [e', hw rfl]; exact h1⟩, by rw [e']; exact h2.mono hF⟩
 | tok n e =>
  intro h0
  obtain ⟨us, mk, h1, h2⟩ := hr h0
  have hl : (PO.tok n e).live = true := by simpa [PO.live] using h0
  have e' := hφ hl
  refine ⟨us, mk, by rw [e', hw hl]; exact h1, fun hm => ?_⟩
  obtain ⟨g1, g2, g3, g4⟩ := h2 hm
  exact ⟨g1, by rw [e']; exact g2, by rw [e']; exact g3, fun i hi => by rw [e', hn hl _ rfl]; exact g4 i hi⟩
 | cnt => trivial
 | res => trivial

theorem RH.blk (H : RH P C F φ h w) {id : Nat} (hl : (h id).live = true) : (φ id).1 < w.heap.size := by
 have := H.objs id
 cases ho : h id with
 | box cells => rw [ho] at this; obtain ⟨us, ty, h1, _⟩ := this; exact lt_of_block h1
 | ro cells => rw [ho] at this; obtain ⟨us, ty, h1, _⟩ := this; exact lt_of_block h1
 | grow v c e sz => rw [ho] at this; obtain ⟨us, ⟨_, h1, _⟩, _⟩ := this; exact lt_of_block h1
 | gro v c e sz => rw [ho] at this; obtain ⟨us, ⟨_, h1, _⟩, _⟩ := this; exact lt_of_block h1
 | mp t m => rw [ho] at this; obtain ⟨es, clock, ents, h1, _⟩ := this; exact lt_of_block h1
 | mpo t m => rw [ho] at this; obtain ⟨es, clock, ents, h1, _⟩ := this; exact lt_of_block h1
 | mpk t ks m => rw [ho] at this; obtain ⟨es, clock, h1, _⟩ := this; exact lt_of_block h1
 | mfz t m => rw [ho] at this; obtain ⟨⟨es, clock, h1⟩, _⟩ := this; exact lt_of_block h1
 | tok n e => rw [ho] at this hl; obtain ⟨us, mk, h1, _⟩ := this (by simpa [PO.live] using hl); exact lt_of_block h1
 | cnt => rw [ho] at hl; cases hl
 | res => rw [ho] at hl; cases hl

theorem RH.here (H : RH P C F φ h w) : RH P (loc w F φ h) F φ h w :=
 ⟨H.agree, Fz.le_refl _, fun a u h1 h2 => (by rw [show F a = none from h2] at h1; cases h1), H.objs, H.inj, fun i li => .inr ⟨i, li, rfl⟩, Bel.refl _ _, HStep.refl _ _, H.glob⟩

theorem RH.trans (H : RH P C F φ h w) (H' : RH P (loc w F φ h) F' φ' h' w') : RH P C F' φ' h' w' := by
 have hown : ∀ b, own φ h b → C.w0.heap.size ≤ b ∨ C.E b := fun b ⟨id, hl, e⟩ => e ▸ H.high id hl
 have hsz := H.bel.size
 refine ⟨H'.agree, Fz.le_trans H.more H'.more, fun a u h1 h2 => ?_, H'.objs, H'.inj, fun i li => ?_, ⟨H'.bel.os.trans H.bel.os, H'.bel.tape.trans H.bel.tape, H'.bel.output.trans H.bel.output, Nat.le_trans hsz H'.bel.size, fun k hk he => ?_⟩, H.step.trans H'.step, H'.glob⟩
 ·cases hFa : F a with
  | some v => exact H.news a v hFa h2
  | none =>
   rcases H'.news a u h1 hFa with h3 | h3
   ·exact .inl (Nat.le_trans hsz h3)
   ·exact hown _ h3
 ·rcases H'.high i li with h3 | h3
  ·exact .inl (Nat.le_trans hsz h3)
  ·exact hown _ h3
 ·rw [H'.bel.block k (Nat.lt_of_lt_of_le hk hsz) (fun ho => by
   rcases hown k ho with h3 | h3
   ·omega
   ·exact he h3)]
  exact H.bel.block k hk he

theorem RH.grow (H : RH P C F φ h w) (hF : F.le F') (hag : ∀ a u, F' a = some u → look w' a = some u)
  (hnew : ∀ a u, F' a = some u → F a = none → w.heap.size ≤ a.block) (hb : Below w.heap.size w w') : RH P C F' φ h w' := by
 have hsz := H.bel.size
 refine ⟨hag, Fz.le_trans H.more hF, fun a u h1 h2 => ?_, fun id => ?_, H.inj, H.high, H.bel.below hb, H.step, H.glob.mono hF⟩
 ·cases hFa : F a with
  | none => exact .inl (Nat.le_trans hsz (hnew a u h1 hFa))
  | some v => exact H.news a v hFa h2
 ·refine (H.objs id).step (fun _ => rfl) (HStep.refl _ _) hF (fun hl a ha => ?_) (fun hl => hb.block _ (H.blk hl))
  cases hFa : F a with
  | some v => exact hF _ _ hFa
  | none =>
   cases hFb : F' a with
   | none => rfl
   | some v => have := hnew _ _ hFb hFa; have := H.blk hl; omega

def upd (φ : Nat → Nat × Nat) (r : Nat) (x : Nat × Nat) : Nat → Nat × Nat := fun i => if i = r then x else φ i
theorem upd_same (r : Nat) (x : Nat × Nat) : upd φ r x r = x := by simp [upd]
theorem upd_other {r i : Nat} (x : Nat × Nat) (hi : i ≠ r) : upd φ r x i = φ i := by simp [upd, hi]

theorem HStep.one {id : Nat} {o : PO} (x : Nat × Nat) (ho : match h id with
  | .box _ => ((∃ c, o = .box c) ∨ ∃ c, o = .ro c) ∧ x = φ id
  | .ro c => o = .ro c ∧ x = φ id
  | .grow v _ e sz => ∃ v', growInfo o = some (v', e, sz) ∧ v ≤ v' ∧ (v' = v → x = φ id)
  | .gro v c e sz => o = .gro v c e sz ∧ x = φ id
  | .mp t _ => mapInfo o = some t ∧ x = φ id
  | .mpo t _ => mapInfo o = some t ∧ x = φ id
  | .mpk t _ _ => mapInfo o = some t ∧ x = φ id
  | .mfz t _ => mapInfo o = some t ∧ x = φ id
  | .tok n e => ∃ n', o = .tok n' e ∧ n ≤ n' ∧ (n' = n → x = φ id)
  | .cnt _ => ∃ n, o = .cnt n
  | .res => True) : HStep φ (upd φ id x) h (upo h id o) := by
 intro j
 by_cases hj : j = id
 ·subst hj
  cases hh : h j with
  | box c => rw [hh] at ho; refine ⟨?_, by rw [upd_same]; exact ho.2⟩; unfold isBox; rw [upo_same]; exact ho.1
  | ro c => rw [hh] at ho; exact ⟨by rw [upo_same]; exact ho.1, by rw [upd_same]; exact ho.2⟩
  | grow v c e sz => rw [hh] at ho; obtain ⟨n', h1, h2, h3⟩ := ho; exact ⟨n', by rw [upo_same]; exact h1, h2, fun e => by rw [upd_same]; exact h3 e⟩
  | gro v c e sz => rw [hh] at ho; exact ⟨by rw [upo_same]; exact ho.1, by rw [upd_same]; exact ho.2⟩
  | mp t m => rw [hh] at ho; exact ⟨by rw [upo_same]; exact ho.1, by rw [upd_same]; exact ho.2⟩
  | mpo t m => rw [hh] at ho; exact ⟨by rw [upo_same]; exact ho.1, by rw [upd_same]; exact ho.2⟩
  | mpk t ks m => rw [hh] at ho; exact ⟨by rw [upo_same]; exact ho.1, by rw [upd_same]; exact ho.2⟩
  | mfz t m => rw [hh] at ho; exact ⟨by rw [upo_same]; exact ho.1, by rw [upd_same]; exact ho.2⟩
  | tok n e => rw [hh] at ho; obtain ⟨n', h1, h2, h3⟩ := ho; exact ⟨n', by rw [upo_same]; exact h1, h2, fun e => by rw [upd_same]; exact h3 e⟩
  | cnt n => rw [hh] at ho; obtain ⟨n', h1⟩ := ho; exact ⟨n', by rw [upo_same]; exact h1⟩
  | res => trivial
 ·have e := upo_other h o hj
  have e2 := upd_other (φ := φ) x hj
  cases hh : h j with
  | box c => exact ⟨.inl ⟨c, by rw [e]; exact hh⟩, e2⟩
  | ro c => exact ⟨by rw [e]; exact hh, e2⟩
  | grow v c t sz => exact ⟨v, by rw [e, hh]; rfl, Nat.le_refl _, fun _ => e2⟩
  | gro v c t sz => exact ⟨by rw [e]; exact hh, e2⟩
  | mp t m => exact ⟨by rw [e, hh]; rfl, e2⟩
  | mpo t m => exact ⟨by rw [e, hh]; rfl, e2⟩
  | mpk t ks m => exact ⟨by rw [e, hh]; rfl, e2⟩
  | mfz t m => exact ⟨by rw [e, hh]; rfl, e2⟩
  | tok n t => exact ⟨n, by rw [e]; exact hh, Nat.le_refl _, fun _ => e2⟩
  | cnt n => exact ⟨n, by rw [e]; exact hh⟩
  | res => trivial
theorem HStep.put {rid : Nat} (hres : h rid = .res) (x : Nat × Nat) (o : PO) : HStep φ (upd φ rid x) h (upo h rid o) := HStep.one x (by rw [hres]; trivial)
theorem upd_self (id : Nat) : upd φ id (φ id) = φ := by funext j; unfold upd; split <;> simp_all
theorem HStep.box {id : Nat} {c c' : List PV} (hid : h id = .box c) : HStep φ φ h (upo h id (.box c')) := by
 have := HStep.one (φ := φ) (h := h) (id := id) (o := .box c') (φ id) (by rw [hid]; exact ⟨.inl ⟨c', rfl⟩, rfl⟩)
 rwa [upd_self] at this

theorem RH.put (H : RH P C F φ h w) {rid : Nat} (o : PO) (x : Nat × Nat) (hs : HStep φ (upd φ rid x) h (upo h rid o))
  (hF : F.le F') (hag : ∀ a u, F' a = some u → look w' a = some u)
  (hnew : ∀ a u, F' a = some u → F a = none → w.heap.size ≤ a.block ∨ (a.block = (φ rid).1 ∧ (h rid).live = true))
  (hb : Bel (fun b => b = (φ rid).1 ∧ (h rid).live = true) w w')
  (hx : w.heap.size ≤ x.1 ∨ (x.1 = (φ rid).1 ∧ (h rid).live = true)) (hobj : RepO P F' (upd φ rid x) (upo h rid o) w' rid o) :
  RH P C F' (upd φ rid x) (upo h rid o) w' := by
 have hsz := H.bel.size
 have hob : ∀ (i : Nat), i ≠ rid → (h i).live = true → (h rid).live = true → (φ i).1 ≠ (φ rid).1 := fun i hi li lr e => hi (H.inj i rid li lr e)
 refine ⟨hag, Fz.le_trans H.more hF, fun a u h1 h2 => ?_, fun id => ?_, fun i j li lj e => ?_, fun i li => ?_, ?_, H.step.trans hs, H.glob.mono hF⟩
 ·cases hFa : F a with
  | some v => exact H.news a v hFa h2
  | none =>
   rcases hnew a u h1 hFa with h3 | ⟨h3, h4⟩
   ·exact .inl (Nat.le_trans hsz h3)
   ·rw [h3]; exact H.high rid h4
 ·by_cases hi : id = rid
  ·subst hi; rw [upo_same]; exact hobj
  ·rw [upo_other h o hi]
   refine (H.objs id).step (fun _ => upd_other _ hi) hs hF (fun hl a ha => ?_) (fun hl => hb.block _ (H.blk hl) (fun hc => hob id hi hl hc.2 hc.1))
   cases hFa : F a with
   | some v => exact hF _ _ hFa
   | none =>
    cases hFb : F' a with
    | none => rfl
    | some v =>
     rcases hnew _ _ hFb hFa with h3 | ⟨h3, h4⟩
     ·have := H.blk hl; omega
     ·exact absurd (ha.symm.trans h3) (hob id hi hl h4)
 ·by_cases hi : i = rid <;> by_cases hj : j = rid
  ·rw [hi, hj]
  ·subst hi
   rw [upo_other h o hj] at lj
   rw [upd_same, upd_other _ hj] at e
   rcases hx with hx | ⟨hx, lr⟩
   ·have := H.blk lj; omega
   ·exact absurd (by rw [← e, hx]) (hob j hj lj lr)
  ·subst hj
   rw [upo_other h o hi] at li
   rw [upd_same, upd_other _ hi] at e
   rcases hx with hx | ⟨hx, lr⟩
   ·have := H.blk li; omega
   ·exact absurd (by rw [e, hx]) (hob i hi li lr)
  ·rw [upo_other h o hi] at li; rw [upo_other h o hj] at lj
   rw [upd_other _ hi, upd_other _ hj] at e
   exact H.inj i j li lj e
 ·by_cases hi : i = rid
  ·subst hi; rw [upd_same]
   rcases hx with hx | ⟨hx, lr⟩
   ·exact .inl (Nat.le_trans hsz hx)
   ·rw [hx]; exact H.high i lr
  ·rw [upo_other h o hi] at li; rw [upd_other _ hi]; exact H.high i li
 ·refine ⟨hb.os.trans H.bel.os, hb.tape.trans H.bel.tape, hb.output.trans H.bel.output, Nat.le_trans hsz hb.size, fun k hk he => ?_⟩
  rw [hb.block k (Nat.lt_of_lt_of_le hk hsz) (fun hc => by
   rcases H.high rid hc.2 with h3 | h3
   ·omega
   ·rw [← hc.1] at h3; exact he h3)]
  exact H.bel.block k hk he

theorem HStep.grow {id v e sz : Nat} {c c' : List PV} (hid : h id = .grow v c e sz) : HStep φ φ h (upo h id (.grow v c' e sz)) := by
 have := HStep.one (φ := φ) (h := h) (id := id) (o := .grow v c' e sz) (φ id) (by rw [hid]; exact ⟨v, rfl, Nat.le_refl _, fun _ => rfl⟩)
 rwa [upd_self] at this
theorem HStep.map {id t : Nat} {m m' : TV → Option TV} (hid : h id = .mp t m) : HStep φ φ h (upo h id (.mp t m')) := by
 have := HStep.one (φ := φ) (h := h) (id := id) (o := .mp t m') (φ id) (by rw [hid]; exact ⟨rfl, rfl⟩)
 rwa [upd_self] at this

theorem Below.bel {E : Nat → Prop} (hb : Below w.heap.size w w') : Bel E w w' := ⟨hb.os, hb.tape, hb.output, hb.size, fun k hk _ => hb.block k hk⟩
theorem below_alloc (w : World) (o : Obj) : Below w.heap.size w (w.alloc o) := (Below.refl _ _).alloc (Nat.le_refl _) o
theorem alloc_new (w : World) (o : Obj) : (w.alloc o).heap[w.heap.size]? = some o := by show (w.heap.push o)[w.heap.size]? = _; simp
theorem F_none_new (H : RH P C F φ h w) (b i : Nat) (hb : w.heap.size ≤ b) : F ⟨b, i, none⟩ = none := by
 cases hF : F ⟨b, i, none⟩ with
 | none => rfl
 | some u => have := cell_lt (H.agree _ _ hF); simp at this; omega
theorem F_none_newA (H : RH P C F φ h w) (a : Addr) (hb : w.heap.size ≤ a.block) : F a = none := by
 cases hF : F a with
 | none => rfl
 | some u => have := cell_lt (H.agree _ _ hF); omega
theorem agree_alloc (H : RH P C F φ h w) (o : Obj) : ∀ a u, F a = some u → look (w.alloc o) a = some u := fun a u hu => by
 rw [look_same (heap_alloc_old (cell_lt (H.agree _ _ hu)))]; exact H.agree _ _ hu

theorem RH.allocBox (H : RH P C F φ h w) {rid : Nat} (hres : h rid = .res) (us : List Value) (ty : TypeId) (cells : List PV) (hl : us.length = cells.length)
  (hr : ∀ (i : Nat) (c : PV) (u : Value), cells[i]? = some c → us[i]? = some u → RepP F φ h c u ∧ u.oneCell' = true) :
  RH P C F (upd φ rid (w.heap.size, 0)) (upo h rid (.box cells)) (w.alloc (.cells us.toArray ty)) ∧ RepP F (upd φ rid (w.heap.size, 0)) (upo h rid (.box cells)) (.ptr rid 0) (.pointer (some ⟨w.heap.size, 0, none⟩)) := by
 have hs := HStep.put (φ := φ) hres (w.heap.size, 0) (.box cells)
 refine ⟨H.put _ _ hs (Fz.le_refl _) (agree_alloc H _) (fun a u h1 h2 => by rw [h1] at h2; cases h2) (Below.bel (below_alloc _ _)) (.inl (Nat.le_refl _)) ⟨us, ty, ?_, hl, fun i c u a b => ⟨(hr i c u a b).1.step hs, (hr i c u a b).2⟩, fun i => ?_⟩, ⟨.inl ⟨cells, upo_same _ _ _⟩, ?_⟩⟩
 ·rw [upd_same]; exact alloc_new _ _
 ·rw [upd_same]; exact F_none_new H _ _ (Nat.le_refl _)
 ·rw [upd_same]

def Fz.with (F : Fz) (b : Nat) (us : List Value) : Fz := fun a => if a.block = b ∧ a.spot = none then us[a.off]? else F a
theorem Fz.with_at (F : Fz) (b : Nat) (us : List Value) (i : Nat) : F.with b us ⟨b, i, none⟩ = us[i]? := by simp [Fz.with]
theorem Fz.le_with (H : RH P C F φ h w) (us : List Value) : F.le (F.with w.heap.size us) := fun a u hu => by
 have := cell_lt (H.agree _ _ hu)
 unfold Fz.with
 rw [if_neg (by omega)]; exact hu
theorem agree_withF (H : RH P C F φ h w) (us vs : List Value) (ty : TypeId) (f : Nat × Nat) : ∀ a u, F.with w.heap.size us a = some u → look (w.alloc (.cells (us ++ vs).toArray ty f)) a = some u := by
 intro a u hu
 unfold Fz.with at hu
 split at hu
 ·rename_i hc
  obtain ⟨b, o, s⟩ := a
  simp only at hc hu; obtain ⟨rfl, rfl⟩ := hc
  rw [look_at (alloc_new _ _)]
  rw [List.getElem?_append_left (List.getElem?_eq_some_iff.1 hu).1]; exact hu
 ·exact agree_alloc H _ a u hu
theorem agree_with (H : RH P C F φ h w) (us vs : List Value) (ty : TypeId) : ∀ a u, F.with w.heap.size us a = some u → look (w.alloc (.cells (us ++ vs).toArray ty)) a = some u := agree_withF H us vs ty _
theorem news_with (us : List Value) : ∀ a u, F.with w.heap.size us a = some u → F a = none → w.heap.size ≤ a.block := by
 intro a u hu hn
 unfold Fz.with at hu
 split at hu
 ·rename_i hc; omega
 ·rw [hn] at hu; cases hu

theorem RH.allocRow (H : RH P C F φ h w) (us : List Value) (ty : TypeId) : RH P C (F.with w.heap.size us) φ h (w.alloc (.cells us.toArray ty)) :=
 H.grow (Fz.le_with H us) (by simpa using agree_with H us [] ty) (news_with us) (below_alloc _ _)
theorem RH.drew (H : RH P C F φ h w) : RH P C F φ h w.drew :=
 H.grow (Fz.le_refl _) H.agree (fun a u h1 h2 => by rw [h1] at h2; cases h2) ((Below.refl _ _).drew)

theorem setRow_other (w : World) (g b : Nat) (cs : Array Value) (hb : b ≠ g) : (w.setRow g cs).heap[b]? = w.heap[b]? := by
 simp only [World.setRow, Array.getElem?_modify]
 rw [if_neg (Ne.symm hb)]
theorem bel_setRow {E : Nat → Prop} (w : World) (g : Nat) (cs : Array Value) (hg : E g) : Bel E w (w.setRow g cs) :=
 ⟨rfl, rfl, rfl, by simp [World.setRow], fun k _ he => setRow_other w g k cs (fun e => he (e ▸ hg))⟩

theorem RH.setBox (H : RH P C F φ h w) {id : Nat} {c c' : List PV} (hid : h id = .box c) (vs : List Value) (hl : vs.length = c'.length)
  (hr : ∀ (i : Nat) (p : PV) (u : Value), c'[i]? = some p → vs[i]? = some u → RepP F φ h p u ∧ u.oneCell' = true) :
  RH P C F φ (upo h id (.box c')) (w.setRow (φ id).1 vs.toArray) := by
 have ho := H.objs id
 rw [hid] at ho
 obtain ⟨us, ty, h1, h2, h3, h4⟩ := ho
 have hlv : (h id).live = true := by rw [hid]; rfl
 have hsame : (w.setRow (φ id).1 vs.toArray).heap[(φ id).1]? = some (.cells vs.toArray ty (0, 0)) := setRow_heap w _ _ _ _ _ h1
 have hs := HStep.box (φ := φ) (c' := c') hid
 have := H.put (w' := w.setRow (φ id).1 vs.toArray) (F' := F) (rid := id) (.box c') (φ id) (by rw [upd_self]; exact hs) (Fz.le_refl _) (fun a u hu => ?_) (fun a u h5 h6 => by rw [h5] at h6; cases h6)
  (bel_setRow w _ _ ⟨rfl, hlv⟩) (.inr ⟨rfl, hlv⟩) (by
   rw [upd_self]
   exact ⟨vs, ty, hsame, hl, fun i p u a b => ⟨(hr i p u a b).1.step hs, (hr i p u a b).2⟩, h4⟩)
 ·rwa [upd_self] at this
 ·have hne : a.block ≠ (φ id).1 := by
   intro e
   have hc := H.agree _ _ hu
   obtain ⟨b, o, s⟩ := a
   simp only at e; subst e
   cases s with
   | none => rw [h4] at hu; cases hu
   | some s => simp [look, h1] at hc
  rw [look_same (setRow_other w _ _ _ hne)]; exact H.agree _ _ hu

theorem RH.setGrow (H : RH P C F φ h w) {id v e sz : Nat} {c c' : List PV} (hid : h id = .grow v c e sz) (vs : List Value) (hl : vs.length = (φ id).2 * sz) (hc : c'.length ≤ vs.length)
  (hr : ∀ (i : Nat) (p : PV) (u : Value), c'[i]? = some p → vs[i]? = some u → RepP F φ h p u ∧ u.oneCell' = true) :
  RH P C F φ (upo h id (.grow v c' e sz)) (w.setRow (φ id).1 vs.toArray) := by
 have ho := H.objs id
 rw [hid] at ho
 obtain ⟨us, ⟨mk, h1, hmk⟩, h2, h3, h4, h5, h6⟩ := ho
 have hlv : (h id).live = true := by rw [hid]; rfl
 have hsame : (w.setRow (φ id).1 vs.toArray).heap[(φ id).1]? = some (.cells vs.toArray e mk) := setRow_heap w _ _ _ _ _ h1
 have hs := HStep.grow (φ := φ) (c' := c') hid
 have := H.put (w' := w.setRow (φ id).1 vs.toArray) (F' := F) (rid := id) (.grow v c' e sz) (φ id) (by rw [upd_self]; exact hs) (Fz.le_refl _) (fun a u hu => ?_) (fun a u h5 h6 => by rw [h5] at h6; cases h6)
  (bel_setRow w _ _ ⟨rfl, hlv⟩) (.inr ⟨rfl, hlv⟩) (by
   rw [upd_self]
   exact ⟨vs, ⟨mk, hsame, by rw [hl, ← h2]; exact hmk⟩, hl, hc, h4, fun i p u a b => ⟨(hr i p u a b).1.step hs, (hr i p u a b).2⟩, h6⟩)
 ·rwa [upd_self] at this
 ·have hne : a.block ≠ (φ id).1 := by
   intro e
   have hc := H.agree _ _ hu
   obtain ⟨b, o, s⟩ := a
   simp only at e; subst e
   cases s with
   | none => rw [h6] at hu; cases hu
   | some s => simp [look, h1] at hc
  rw [look_same (setRow_other w _ _ _ hne)]; exact H.agree _ _ hu

theorem RH.allocGrowM (H : RH P C F φ h w) {rid : Nat} (mk : Nat × Nat) (us : List Value) (e : TypeId) (cap : Nat) (cells : List PV) (hs : HStep φ (upd φ rid (w.heap.size, cap)) h (upo h rid (.grow v cells e sz)))
  (hmk : okMk mk us.length) (hl : us.length = cap * sz) (hc : cells.length ≤ us.length) (hsz : P.cellsOf e = sz)
  (hr : ∀ (i : Nat) (c : PV) (u : Value), cells[i]? = some c → us[i]? = some u → RepP F φ h c u ∧ u.oneCell' = true) :
  RH P C F (upd φ rid (w.heap.size, cap)) (upo h rid (.grow v cells e sz)) (w.alloc (.cells us.toArray e mk)) := by
 refine H.put _ _ hs (Fz.le_refl _) (agree_alloc H _) (fun a u h1 h2 => by rw [h1] at h2; cases h2) (Below.bel (below_alloc _ _)) (.inl (Nat.le_refl _)) ⟨us, ⟨mk, ?_, hmk⟩, ?_, hc, hsz, fun i c u a b => ⟨(hr i c u a b).1.step hs, (hr i c u a b).2⟩, fun i => ?_⟩
 ·rw [upd_same]; exact alloc_new _ _
 ·rw [upd_same]; exact hl
 ·rw [upd_same]; exact F_none_new H _ _ (Nat.le_refl _)
theorem RH.allocGrow (H : RH P C F φ h w) {rid : Nat} (us : List Value) (e : TypeId) (cap : Nat) (cells : List PV) (hs : HStep φ (upd φ rid (w.heap.size, cap)) h (upo h rid (.grow v cells e sz)))
  (hl : us.length = cap * sz) (hc : cells.length ≤ us.length) (hsz : P.cellsOf e = sz)
  (hr : ∀ (i : Nat) (c : PV) (u : Value), cells[i]? = some c → us[i]? = some u → RepP F φ h c u ∧ u.oneCell' = true) :
  RH P C F (upd φ rid (w.heap.size, cap)) (upo h rid (.grow v cells e sz)) (w.alloc (.cells us.toArray e)) := H.allocGrowM (0, 0) us e cap cells hs (okMk_zero _) hl hc hsz hr

end Go.Pm

/- Part QmC. -/
namespace Go.Pm
open Go Go.RowKit

def ofVal : Value → Option TV
 | .int k n => some (.int k n)
 | .bool b => some (.bool b)
 | .string s => some (.str s)
 | .nilIface => some .nilIf
 | .nilFunc => some .nilFn
 | .slice none 0 0 => some .nilSl
 | .pointer none => some .nilPtr
 | .map none => some .nilMap
 | _ => none

def allO {α : Type} : List (Option α) → Option (List α)
 | [] => some []
 | some x :: l => (allO l).map (x :: ·)
 | none :: _ => none

def zeroL (P : Program) (t : TypeId) : Option (List TV) :=
 match P.info? t with
 | some i => match i.zero with
  | some z => allO (z.cells.toList.map ofVal)
  | none => none
 | none => none
def fieldO (P : Program) (s f : Nat) : Option (Nat × TypeId) :=
 match P.underlying s with
 | some (.struct fs) => (fs[f]?).map fun x => (x.offset, x.type)
 | _ => none
def sliceO (P : Program) (t : TypeId) : Option TypeId := match P.underlying t with | some (.slice e) => some e | _ => none
def arrayO (P : Program) (t : TypeId) : Option (Nat × TypeId) := match P.underlying t with | some (.array n e) => some (n, e) | _ => none
def kindO (P : Program) (t : TypeId) : Option IntKind := match P.underlying t with | some (.int k) => some k | _ => none
def smallO (P : Program) (e : TypeId) : Option (Nat × Nat) :=
 match P.info? e with
 | some i => match i.zero with
  | some z => if 0 < i.size ∧ z.cells.size = i.size ∧ 0 < i.bytes then some (i.size, i.bytes) else none
  | none => none
 | none => none
def roomy (n by_ : Nat) : Prop := n * by_ ≤ 140737488355328
instance (n b : Nat) : Decidable (roomy n b) := inferInstanceAs (Decidable (_ ≤ _))
def zeroT (P : Program) (t : TypeId) : Option TV :=
 match P.info? t with
 | some i => match i.zero with
  | some (.agg cs) => (allO (cs.toList.map ofVal)).map .agg
  | some v => ofVal v
  | none => none
 | none => none
def plainO (P : Program) (t : TypeId) : Option Bool := match P.underlying t with | some (.interface _) => some false | some _ => some true | none => none
theorem plainO_true {P : Program} {t : TypeId} (h : plainO P t = some true) : ∃ d, P.underlying t = some d ∧ ∀ ms, d ≠ .interface ms := by
 unfold plainO at h
 split at h
 ·cases h
 ·rename_i d hn hd; exact ⟨d, hd, fun ms hm => by subst hm; exact hn _ rfl⟩
 ·cases h
theorem plainO_false {P : Program} {t : TypeId} (h : plainO P t = some false) : ∃ ms, P.underlying t = some (.interface ms) := by
 unfold plainO at h
 split at h
 ·rename_i ms hm; exact ⟨ms, hm⟩
 ·cases h
 ·cases h
def mapO (P : Program) (t : TypeId) : Option (TypeId × TypeId) := match P.underlying t with | some (.map k e) => some (k, e) | _ => none

def pcells : PV → Option (List PV)
 | .t (.tup _) => none
 | .t x => some (x.cells.map .t)
 | .junk => none
 | .cond _ _ => none
 | .nil b => if b then none else some []
 | .cons b p q => if b then none else (pcells q).map (p :: ·)
 | p => some [p]

def consP (b : Bool) : List PV → PV
 | [] => .nil b
 | p :: l => .cons b p (consP b l)
def aggP (b : Bool) (ps : List PV) : PV := match allO (ps.map PV.toT) with
 | some xs => .t (if b then .tup xs else .agg xs)
 | none => consP b ps

def loadB (P : Program) (t : TypeId) (cells : List PV) (off : Nat) : Option PV :=
 match aggO P t with
 | some true => match szO P t with
  | some n => if off + n ≤ cells.length then some (aggP false ((cells.drop off).take n)) else none
  | none => none
 | some false => cells[off]?
 | none => none

def storeB (P : Program) (t : TypeId) (cells : List PV) (off : Nat) (v : PV) : Option (List PV) :=
 match pcells v with
 | some vs => if szO P t = some vs.length ∧ off + vs.length ≤ cells.length then some (cells.take off ++ vs ++ cells.drop (off + vs.length)) else none
 | none => none

def cmpT (op : BinOp) (a b : Int) : Option Bool :=
 match op with
 | .eql => some (a == b)
 | .neq => some (a != b)
 | .lss => some (decide (a < b))
 | .leq => some (decide (a ≤ b))
 | .gtr => some (decide (a > b))
 | .geq => some (decide (a ≥ b))
 | _ => none

def intT (op : BinOp) (k : IntKind) (a b : Int) : Option TV :=
 match op with
 | .add => some (.int k (k.wrap (a + b)))
 | .sub => some (.int k (k.wrap (a - b)))
 | .mul => some (.int k (k.wrap (a * b)))
 | .quo => if b = 0 then none else some (.int k (k.wrap (a.tdiv b)))
 | .rem => if b = 0 then none else some (.int k (a.tmod b))
 | .and => some (.int k (k.wrap (BitVec.ofInt k.bits a &&& BitVec.ofInt k.bits b).toNat))
 | .or => some (.int k (k.wrap (BitVec.ofInt k.bits a ||| BitVec.ofInt k.bits b).toNat))
 | .xor => some (.int k (k.wrap (BitVec.ofInt k.bits a ^^^ BitVec.ofInt k.bits b).toNat))
 | .andNot => some (.int k (k.wrap (BitVec.ofInt k.bits a &&& ~~~BitVec.ofInt k.bits b).toNat))
 | op => (cmpT op a b).map .bool

def shiftT (op : BinOp) (k : IntKind) (a b : Int) : Option TV :=
 if b < 0 then none else
 match op with
 | .shl => some (.int k (k.wrap (a * 2 ^ (min b.toNat k.bits))))
 | .shr => some (.int k (a.fdiv (2 ^ (min b.toNat k.bits))))
 | _ => none

def eqFs (P : Program) (eq : TypeId → TV → TV → Option Bool) (xs ys : List TV) : List Field → Option Bool
 | [] => some true
 | f :: fs =>
  if f.name ≠ "_" then
   match partT P f.type xs f.offset, partT P f.type ys f.offset with
   | some u, some v => match eq f.type u v, eqFs P eq xs ys fs with
    | some b, some c => some (b && c)
    | _, _ => none
   | _, _ => none
  else eqFs P eq xs ys fs
def eqAs (P : Program) (eq : TypeId → TV → TV → Option Bool) (xs ys : List TV) (e n : Nat) : Nat → Nat → Option Bool
 | 0, _ => some true
 | k + 1, i =>
  match partT P e xs (i * n), partT P e ys (i * n) with
  | some u, some v => match eq e u v, eqAs P eq xs ys e n k (i + 1) with
   | some b, some c => some (b && c)
   | _, _ => none
  | _, _ => none
def eqT (P : Program) : Nat → TypeId → TV → TV → Option Bool
 | 0, _, _, _ => none
 | d + 1, t, x, y =>
  match P.underlying t, x, y with
  | some .bool, .bool a, .bool b => some (a == b)
  | some (.int _), .int k a, .int k' b => if k = k' then some (a == b) else none
  | some .string, .str a, .str b => some (a.toList == b.toList)
  | some (.slice _), .nilSl, .nilSl => some true
  | some (.slice _), .sl _ _ _, .nilSl => some false
  | some (.slice _), .nilSl, .sl _ _ _ => some false
  | some (.struct fs), .agg xs, .agg ys => if P.stoodInHeld t then none else eqFs P (eqT P d) xs ys fs.toList
  | some (.array len e), .agg xs, .agg ys => match szO P e with
   | some n => eqAs P (eqT P d) xs ys e n len 0
   | none => none
  | _, _, _ => none

def binT (P : Program) (op : BinOp) (xt : TypeId) (x y : TV) : Option TV :=
 match op, x, y with
 | .shl, .int k a, .int _ b => shiftT .shl k a b
 | .shr, .int k a, .int _ b => shiftT .shr k a b
 | op, .int k a, .int k' b => if k = k' then intT op k a b else none
 | .eql, .agg xs, .agg ys => if P.eqGuardType P.depth xt then none else (eqT P 20 xt (.agg xs) (.agg ys)).map .bool
 | .neq, .agg xs, .agg ys => if P.eqGuardType P.depth xt then none else (eqT P 20 xt (.agg xs) (.agg ys)).map fun b => .bool !b
 | .eql, .bool a, .bool b => (eqT P 20 xt (.bool a) (.bool b)).map .bool
 | .neq, .bool a, .bool b => (eqT P 20 xt (.bool a) (.bool b)).map fun b => .bool !b
 | .eql, .nilSl, .nilSl => (eqT P 20 xt .nilSl .nilSl).map .bool
 | .neq, .nilSl, .nilSl => (eqT P 20 xt .nilSl .nilSl).map fun b => .bool !b
 | .eql, .sl cs n f, .nilSl => (eqT P 20 xt (.sl cs n f) .nilSl).map .bool
 | .neq, .sl cs n f, .nilSl => (eqT P 20 xt (.sl cs n f) .nilSl).map fun b => .bool !b
 | .eql, .str a, .str b => some (.bool (a.toList == b.toList))
 | .neq, .str a, .str b => some (.bool !(a.toList == b.toList))
 | .add, .str a, .str b => if a.size + b.size ≤ 4294967296 then some (.str (a ++ b)) else none
 | .lss, .str a, .str b => some (.bool (Op.bytesLess a.toList b.toList))
 | .leq, .str a, .str b => some (.bool (Op.bytesLess a.toList b.toList || a.toList == b.toList))
 | .gtr, .str a, .str b => some (.bool !(Op.bytesLess a.toList b.toList || a.toList == b.toList))
 | .geq, .str a, .str b => some (.bool !(Op.bytesLess a.toList b.toList))
 | _, _, _ => none

def unT (op : UnOp) (x : TV) : Option TV :=
 match op, x with
 | .neg, .int k n => some (.int k (k.wrap (0 - n)))
 | .not, .bool b => some (.bool !b)
 | _, _ => none

def fillT (place : Nat → Option (Nat × Nat)) (cells : List TV) : List (Nat × TV) → Option (List TV)
 | [] => some cells
 | (i, v) :: rest =>
  match place i with
  | none => none
  | some (off, size) =>
   match v with
   | .tup _ => none
   | v => if v.cells.length ≠ size ∨ off + v.cells.length > cells.length then none
    else fillT place (cells.take off ++ v.cells ++ cells.drop (off + v.cells.length)) rest

def partsO (ρ : Operand → PV) (parts : Array (Nat × Operand)) : Option (List (Nat × TV)) := allO (parts.toList.map fun p => ((ρ p.2).toT).map fun x => (p.1, x))

def placesO (P : Program) (fs : Array Field) : Option (List (Nat × Nat)) := allO (fs.toList.map fun f => (szO P f.type).map fun n => (f.offset, n))

def buildO (P : Program) (t : TypeId) (parts : List (Nat × TV)) : Option TV :=
 match zeroL P t, P.underlying t with
 | some z, some (.struct fs) => match placesO P fs with
  | some pl => (fillT (fun i => pl[i]?) z parts).map .agg
  | none => none
 | some z, some (.array _ e) => match szO P e with
  | some n => (fillT (fun i => some (i * n, n)) z parts).map .agg
  | none => none
 | _, _ => none

def partsP (ρ : Operand → PV) (parts : Array (Nat × Operand)) : List (Nat × PV) := parts.toList.map fun p => (p.1, ρ p.2)
def fillP (place : Nat → Option (Nat × Nat)) (cells : List PV) : List (Nat × PV) → Option (List PV)
 | [] => some cells
 | (i, v) :: rest =>
  match place i with
  | none => none
  | some (off, size) =>
   match pcells v with
   | none => none
   | some vs => if vs.length ≠ size ∨ off + vs.length > cells.length then none
    else fillP place (cells.take off ++ vs ++ cells.drop (off + vs.length)) rest
def buildP (P : Program) (t : TypeId) (parts : List (Nat × PV)) : Option (List PV) :=
 match zeroL P t, P.underlying t with
 | some z, some (.struct fs) => match placesO P fs with
  | some pl => fillP (fun i => pl[i]?) (z.map .t) parts
  | none => none
 | _, _ => none

def buildSliceO (P : Program) (t : TypeId) (len : Nat) (parts : List (Nat × TV)) : Option (List TV) :=
 match sliceO P t with
 | some e => match szO P e, zeroL P e with
  | some n, some z => if len * n ≤ 100000 ∧ z.length = n ∧ 0 < n then fillT (fun i => some (i * n, n)) ((List.range (len * n)).map fun i => z.getD (i % n) .nilPtr) parts else none
  | _, _ => none
 | none => none

def buildSliceP (P : Program) (t : TypeId) (len : Nat) (parts : List (Nat × PV)) : Option (List PV) :=
 match sliceO P t with
 | some e => match szO P e, zeroL P e with
  | some n, some z => if len * n ≤ 100000 ∧ z.length = n ∧ 0 < n then fillP (fun i => some (i * n, n)) (((List.range (len * n)).map fun i => z.getD (i % n) .nilPtr).map .t) parts else none
  | _, _ => none
 | none => none
def intMap (P : Program) (t : TypeId) : Bool := match mapO P t with
 | some (kt, et) => match kindO P kt, zeroT P et with
  | some .i64, some .nilSl => true
  | _, _ => false
 | none => false

def min2T (x y : TV) : Option TV := match x, y with | .int k a, .int k' b => if k = k' then some (.int k (min a b)) else none | _, _ => none
def max2T (x y : TV) : Option TV := match x, y with | .int k a, .int k' b => if k = k' then some (.int k (max a b)) else none | _, _ => none
def minO : List TV → Option TV
 | [] => none
 | x :: l => l.foldl (fun acc y => match acc with | some x => min2T x y | none => none) (some x)
def maxO : List TV → Option TV
 | [] => none
 | x :: l => l.foldl (fun acc y => match acc with | some x => max2T x y | none => none) (some x)

def lenO (P : Program) (t : TypeId) (x : TV) : Option Int :=
 match P.underlying t, x with
 | some (.slice _), .sl _ n _ => some n
 | some (.slice _), .nilSl => some 0
 | some .string, .str s => some s.size
 | some (.array n _), _ => some n
 | _, _ => none

def srcO (sz : Nat) : TV → Option (List TV × Nat)
 | .nilSl => some ([], 0)
 | .sl cs n _ => if cs.length = n * sz then some (cs, n) else none
 | _ => none

def isRes : PO → Bool | .res => true | _ => false
theorem isRes_iff {o : PO} : isRes o = true ↔ o = .res := by cases o <;> simp [isRes]
def tokIs (o : PO) (n : Nat) (e : TypeId) : Bool := match o with | .tok m e' => m == n && e' == e | _ => false
theorem tokIs_eq {o : PO} {n : Nat} {e : TypeId} (h : tokIs o n e = true) : o = .tok n e := by cases o <;> simp [tokIs] at h; simp [h]

def growCells (o : PO) (ver : Nat) : Option (List PV) := match o with
 | .grow v cells _ _ => if v = ver then some cells else none
 | .gro v cells _ _ => if v = ver then some (cells.map .t) else none
 | _ => none
def srcG (sz : Nat) (x : PV) (h : Hp) : Option (List PV × Nat) :=
 match x with
 | .gsl id ver sz' o n _ => (growCells (h id) ver).bind fun cells => if sz' = sz ∧ (o + n) * sz ≤ cells.length then some ((cells.drop (o * sz)).take (n * sz), n) else none
 | x => x.toT.bind fun x => (srcO sz x).map fun r => (r.1.map .t, r.2)

abbrev Wr := List (Nat × PO)
def freshO (mu : Bool) (cs : List PV) (n : Nat) (e : TypeId) (sz rid : Nat) : Option (PV × Wr) :=
 if mu then some (.gsl rid 0 sz 0 n false, [(rid, .grow 0 cs e sz)])
 else (allO (cs.map PV.toT)).map fun xs => (.own xs n rid, [(rid, .tok n e)])
def growIs (o : PO) (v : Nat) (e : TypeId) (sz : Nat) : Option (List PV) := match o with
 | .grow v' cells e' sz' => if v' = v ∧ e' = e ∧ sz' = sz then some cells else none
 | _ => none
def bytesT (s : ByteArray) : List TV := s.data.toList.map fun b => .int .u8 b.toNat
def appendS (P : Program) (t t' : TypeId) (s x : PV) (h : Hp) (rid : Nat) : Option (PV × Wr) :=
 match P.underlying t', sliceO P t, x with
 | some .string, some e, .t (.str b) => match smallO P e with
  | some (1, by_) => if b.size = 0 then none else
    match s with
    | .t .nilSl => if roomy b.size by_ ∧ isRes (h rid) = true then some (.own (bytesT b) b.size rid, [(rid, .tok b.size e)]) else none
    | .own cs n id => if cs.length = n ∧ n ≠ 0 ∧ tokIs (h id) n e = true ∧ roomy (n + b.size) by_ then some (.own (cs ++ bytesT b) (n + b.size) id, [(id, .tok (n + b.size) e)]) else none
    | _ => none
  | _ => none
 | _, _, _ => none
def appendG (P : Program) (mu : Bool) (t t' : TypeId) (s x : PV) (h : Hp) (rid : Nat) : Option (PV × Wr) :=
 if t = t' then
 match sliceO P t with
 | none => none
 | some e => match smallO P e with
  | none => none
  | some (sz, by_) => match srcG sz x h with
   | none => none
   | some (ds, m) =>
    match s with
    | .t .nilSl => if m = 0 then some (.t .nilSl, []) else if roomy m by_ ∧ isRes (h rid) = true then freshO mu ds m e sz rid else none
    | .t (.sl cs n true) => if cs.length = n * sz then
      if m = 0 then some (.t (.sl cs n true), []) else if roomy (n + m) by_ ∧ isRes (h rid) = true then freshO mu (cs.map .t ++ ds) (n + m) e sz rid else none
     else none
    | .gsl id ver sz' o n true => match growCells (h id) ver with
     | some cells => if sz' = sz ∧ (o + n) * sz ≤ cells.length then
       if m = 0 then some (.gsl id ver sz' o n true, []) else if roomy (n + m) by_ ∧ isRes (h rid) = true then freshO mu ((cells.drop (o * sz)).take (n * sz) ++ ds) (n + m) e sz rid else none
      else none
     | none => none
    | .gsl id ver sz' 0 n false => match growIs (h id) ver e sz with
     | some cells => if sz' = sz ∧ cells.length = n * sz then
       if m = 0 then some (.gsl id ver sz' 0 n false, []) else if roomy (n + m) by_ then some (.gsl id (ver + 1) sz 0 (n + m) false, [(id, .grow (ver + 1) (cells ++ ds) e sz)]) else none
      else if sz' = sz ∧ m ≠ 0 ∧ cells.length = (n + m) * sz then some (.gsl id (ver + 1) sz 0 (n + m) false, [(id, .grow (ver + 1) (cells.take (n * sz) ++ ds) e sz)]) else none
     | none => none
    | .own cs n id => match allO (ds.map PV.toT) with
     | some ds => if cs.length = n * sz ∧ tokIs (h id) n e = true then
       if m = 0 then some (.own cs n id, []) else if roomy (n + m) by_ then some (.own (cs ++ ds) (n + m) id, [(id, .tok (n + m) e)]) else none
      else none
     | none => none
    | _ => none
 else appendS P t t' s x h rid
def popB (P : Program) (b : Builtin) (ts : Array TypeId) (args : List PV) (h : Hp) (rid : Nat) : Option (PV × Wr) :=
 match b, ts.toList, args with
 | .len, t :: _, [x] => match x with
  | .gsl _ _ _ _ n _ => (sliceO P t).map fun _ => (.t (.int .i64 n), [])
  | .own _ n _ => (sliceO P t).map fun _ => (.t (.int .i64 n), [])
  | x => match x.toT with
   | some x => (lenO P t x).map fun n => (.t (.int .i64 n), [])
   | none => none
 | .min, _, args => (allO (args.map PV.toT)).bind fun l => (minO l).map fun x => (.t x, [])
 | .max, _, args => (allO (args.map PV.toT)).bind fun l => (maxO l).map fun x => (.t x, [])
 | .append, [t, t'], [s, x] => appendG P false t t' s x h rid
 | _, _, _ => none

def indexO (P : Program) (t : TypeId) (x : PV) (i : Int) : Option PV :=
 match x with
 | .ptr id off => match arrayO P t with
  | some (n, e) => match szO P e with
   | some sz => if 0 ≤ i ∧ i < n then some (.ptr id (off + i.toNat * sz)) else none
   | none => none
  | none => none
 | .t (.cptr cs) => match arrayO P t with
  | some (n, e) => match szO P e with
   | some sz => if 0 ≤ i ∧ i < n then some (.t (.cptr (cs.drop (i.toNat * sz)))) else none
   | none => none
  | none => none
 | .gptr id ver off => match arrayO P t with
  | some (n, e) => match szO P e with
   | some sz => if 0 ≤ i ∧ i < n then some (.gptr id ver (off + i.toNat * sz)) else none
   | none => none
  | none => none
 | .gsl id ver sz o n _ => match sliceO P t with
  | some e => if szO P e = some sz ∧ 0 ≤ i ∧ i < n then some (.gptr id ver ((o + i.toNat) * sz)) else none
  | none => none
 | .own cs n _ => match sliceO P t with
  | some e => match szO P e with
   | some sz => if 0 ≤ i ∧ i < n then some (.t (.cptr (cs.drop (i.toNat * sz)))) else none
   | none => none
  | none => none
 | x => match x.toT, sliceO P t with
  | some (.sl cs n _), some e => match szO P e with
   | some sz => if 0 ≤ i ∧ i < n then some (.t (.cptr (cs.drop (i.toNat * sz)))) else none
   | none => none
  | _, _ => none

def boundO (x : Option PV) (dflt top : Nat) : Option Nat :=
 match x with
 | none => some dflt
 | some (.t (.int _ i)) => if 0 ≤ i ∧ i ≤ top then some i.toNat else none
 | _ => none

def sliceX (P : Program) (t : TypeId) (x : TV) (lo hi mx : Option PV) : Option TV :=
 match P.underlying t, x with
 | some (.slice e), .sl cs n _ => match szO P e, boundO hi n n, boundO mx n n with
  | some sz, some b, some c => match boundO lo 0 b with
   | some a => if mx.isSome ∧ (c ≠ b ∨ hi.isNone) then none
     else if cs.length = n * sz then some (.sl ((cs.take (b * sz)).drop (a * sz)) (b - a) mx.isSome) else none
   | none => none
  | _, _, _ => none
 | some (.slice e), .nilSl => match boundO hi 0 0, boundO lo 0 0, boundO mx 0 0, szO P e with
  | some _, some _, some _, some _ => if mx.isSome ∧ hi.isNone then none else some .nilSl
  | _, _, _, _ => none
 | some .string, .str s => if mx.isSome then none else match boundO hi s.size s.size with
  | some b => (boundO lo 0 b).map fun a => .str (s.extract a b)
  | none => none
 | _, _ => none

def sliceG (P : Program) (t : TypeId) (id ver sz o n : Nat) (full : Bool) (lo hi mx : Option PV) : Option PV :=
 match sliceO P t with
 | some e => match boundO hi n n, boundO mx n n with
  | some b, some c => match boundO lo 0 b with
   | some a => if szO P e = some sz then
     if mx.isSome then (if c = b ∧ hi.isSome then some (.gsl id ver sz (o + a) (b - a) true) else none)
     else if full then (if b = n then some (.gsl id ver sz (o + a) (b - a) true) else none)
     else some (.gsl id ver sz (o + a) (b - a) false)
    else none
   | none => none
  | _, _ => none
 | none => none

def capId : PV → Option Nat
 | .ptr id 0 => some id
 | _ => none

def strip (b : Bool) : PV → PV
 | .cond b' p => bif b' == b then p else .cond b' p
 | p => p
def pickP (c : Bool) (p q : PV) : PV :=
 match strip c p, strip (!c) q with
 | .t (.bool x), .t (.bool y) => .t (.bool ((c && x) || (!c && y)))
 | p, q => if c then p else q

def nthP : PV → Nat → Option PV
 | .cons _ p _, 0 => some p
 | .cons _ _ q, i + 1 => nthP q i
 | _, _ => none
open Classical in
noncomputable def updT (f : TV → Option TV) (k x : TV) : TV → Option TV := fun k' => if k' = k then some x else f k'
noncomputable def updateO (P : Program) (t : TypeId) (m k x : PV) (h : Hp) : Option (PV × Wr) :=
 match m, k.toT, x.toT with
 | .mapr id, some k, some x => match h id with
  | .mp t' f => if t' = t ∧ keyOk P t k = true then some (.t (.tup []), [(id, .mp t (updT f k x))]) else none
  | _ => none
 | _, _, _ => none
def methodO (P : Program) (t : TypeId) (name : String) : Option FuncId :=
 match P.info? t with
 | none => none
 | some i => match i.methods.find? (·.name == name) with
  | none => none
  | some m => match m.path.toList, m.func, P.underlying t with
   | [], some (_, false), some (.pointer _) => none
   | [], some (f, false), some _ => some f
   | _, _, _ => none

def numP : PV → Option Int
 | .t (.int .u8 n) => some n
 | _ => none
def textO (P : Program) (src dst : TypeId) : Option (List PV × Nat) → Option (PV × Wr)
 | some (ds, _) => match sliceO P src, P.underlying dst with
  | some e, some .string => if kindO P e = some .u8 then (allO (ds.map numP)).map fun ns => (.t (.str (strOfNums ns)), []) else none
  | _, _ => none
 | none => none
def assertO (P : Program) (a : TypeId) : PV → Option (PV × Wr)
 | .t (.ifc t v) => if t = a then some (.t (.tup [v, .bool true]), []) else (zeroT P a).map fun z => (.t (.tup [z, .bool false]), [])
 | .t .nilIf => (zeroT P a).map fun z => (.t (.tup [z, .bool false]), [])
 | _ => none
def isNilO (P : Program) (op : BinOp) (xt : TypeId) (y : Operand) : TV → Option (PV × Wr)
 | .nilIf => match y, plainO P xt, op with
  | .const _, some false, .eql => some (.t (.bool true), [])
  | .const _, some false, .neq => some (.t (.bool false), [])
  | _, _, _ => none
 | .ifc _ _ => match plainO P xt, op with
  | some false, .eql => some (.t (.bool false), [])
  | some false, .neq => some (.t (.bool true), [])
  | _, _ => none
 | _ => none

def ptrNil (P : Program) (op : BinOp) (xt : TypeId) (b : Bool) : Option (PV × Wr) := match P.underlying xt, op with
 | some (.pointer _), .eql => some (.t (.bool b), [])
 | some (.pointer _), .neq => some (.t (.bool !b), [])
 | _, _ => none

noncomputable def pop (P : Program) (op : Op) (ρ : Operand → PV) (h : Hp) (rid : Nat) : Option (PV × Wr) :=
 match op with
 | .move x | .assign x => some (ρ x, [])
 | .pick c a b => match ρ c with
  | .t (.bool c) => some (pickP c (ρ a) (ρ b), [])
  | _ => none
 | .alloc e => (zeroL P e).bind fun z => if isRes (h rid) then some (.ptr rid 0, [(rid, .box (z.map .t))]) else none
 | .box _ x => (pcells (ρ x)).bind fun z => if isRes (h rid) then some (.ptr rid 0, [(rid, .box z)]) else none
 | .build t parts => match partsO ρ parts with
  | some ps => (buildO P t ps).map fun x => (.t x, [])
  | none => (buildP P t (partsP ρ parts)).map fun cs => (consP false cs, [])
 | .buildSlice t n parts => (partsO ρ parts).bind fun ps => (buildSliceO P t n ps).map fun cs => (.t (.sl cs n true), [])
 | .makeSlice t l c => match ρ l, ρ c with
  | .t (.int _ l), .t (.int _ c) => match sliceO P t with
   | some e => match smallO P e, zeroL P e with
    | some (sz, by_), some z => if 0 ≤ l ∧ l = c ∧ roomy l.toNat by_ ∧ isRes (h rid) = true ∧ z.length = sz then some (.gsl rid 0 sz 0 l.toNat false, [(rid, .grow 0 (List.replicate l.toNat (z.map .t)).flatten e sz)]) else none
    | _, _ => none
   | none => none
  | _, _ => none
 | .makeMap t none => match mapO P t with
  | some _ => if isRes (h rid) then some (.mapr rid, [(rid, .mp t fun _ => none)]) else none
  | none => none
 | .mapUpdate t m k x => updateO P t (ρ m) (ρ k) (ρ x) h
 | .insert t m k x => updateO P t (ρ m) (ρ k) (ρ x) h
 | .lookup t m k ok => match ρ m, (ρ k).toT, mapO P t with
  | .mapr id, some k, some (_, et) => match h id, zeroT P et with
   | .mp t' f, some z => if t' = t ∧ keyOk P t k = true then some (.t (if ok then .tup [(f k).getD z, .bool (f k).isSome] else (f k).getD z), []) else none
   | _, _ => none
  | .t .nilMap, some k, some (_, et) => match zeroT P et with
   | some z => if keyOk P t k = true then some (.t (if ok then .tup [z, .bool false] else z), []) else none
   | none => none
  | _, _, _ => none
 | .load t a => match ρ a with
  | .gptr id ver off => (growCells (h id) ver).bind fun cells => (loadB P t cells off).map fun x => (x, [])
  | .ptr id off => match h id with
   | .box cells => (loadB P t cells off).map fun x => (x, [])
   | .ro cells => (partT P t (cells.drop off) 0).map fun x => (.t x, [])
   | _ => none
  | .t (.cptr cs) => (partT P t cs 0).map fun x => (.t x, [])
  | _ => none
 | .store t a x => match ρ a with
  | .gptr id ver off => match h id with
   | .grow v cells e sz => if v = ver then (storeB P t cells off (ρ x)).map fun c => (.t (.tup []), [(id, .grow v c e sz)]) else none
   | _ => none
  | .ptr id off => match h id with
   | .box cells => (storeB P t cells off (ρ x)).map fun c => (.t (.tup []), [(id, .box c)])
   | _ => none
  | _ => none
 | .nilCheck x => match ρ x with
  | .ptr id off => some (.ptr id off, [])
  | .t (.cptr cs) => some (.t (.cptr cs), [])
  | .t (.fn f pre caps) => some (.t (.fn f pre caps), [])
  | .gptr id ver off => some (.gptr id ver off, [])
  | .fnc f ids => some (.fnc f ids, [])
  | .mth t name => match methodO P t name with
   | some _ => some (.mth t name, [])
   | none => none
  | _ => none
 | .binOp op xt x y _ => match ρ x, ρ y with
  | .gsl _ _ _ _ _ _, .t .nilSl => match sliceO P xt, op with
   | some _, .eql => some (.t (.bool false), [])
   | some _, .neq => some (.t (.bool true), [])
   | _, _ => none
  | .own _ n _, .t .nilSl => match sliceO P xt, op with
   | some _, .eql => some (.t (.bool (decide (n = 0))), [])
   | some _, .neq => some (.t (.bool (decide (0 < n))), [])
   | _, _ => none
  | .t x, .t .nilIf => isNilO P op xt y x
  | .ptr _ _, .t .nilPtr => ptrNil P op xt false
  | .t .nilPtr, .t .nilPtr => ptrNil P op xt true
  | p, q => match p.toT, q.toT with
   | some x, some y => (binT P op xt x y).map fun v => (.t v, [])
   | _, _ => none
 | .unOp op _ x => match (ρ x).toT with
  | some x => (unT op x).map fun v => (.t v, [])
  | none => none
 | .convert src dst x => match ρ x with
  | .t (.int _ n) => match kindO P dst, P.underlying src with
   | some k, some (.int _) => some (.t (.int k (k.wrap n)), [])
   | _, _ => none
  | .t (.str s) => match P.underlying src, sliceO P dst with
   | some .string, some e => if kindO P e = some .u8 ∧ s.size ≤ 140737488355328 then some (.t (.sl (bytesT s) s.size false), []) else none
   | _, _ => none
  | y => textO P src dst (srcG 1 y h)
 | .typeAssert x _ a true => match plainO P a with
  | some true => assertO P a (ρ x)
  | _ => none
 | .makeInterface t x => match (ρ x).toT with
  | some x => match plainO P t with
   | some true => some (.t (.ifc t x), [])
   | _ => none
  | none => none
 | .makeFunc (.func f) first caps => if caps.isEmpty then (allO (first.toList.map fun x => (ρ x).toT)).map fun xs => (.t (.fn f xs []), []) else if !first.isEmpty then none
   else (allO (caps.toList.map fun c => capId (ρ c))).map fun ids => (.fnc f ids, [])
 | .makeFunc (.method name) first caps => if caps.isEmpty then (match first.toList with
   | a :: _ => (match ρ a with
    | .t (.ifc t _) => some (.mth t name, [])
    | _ => none)
   | [] => none) else none
 | .fieldAddr s x f => match fieldO P s f with
  | some (o, ft) => if (szO P ft).getD 0 = 0 then none else
   match ρ x with
   | .ptr id off => some (.ptr id (off + o), [])
   | .t (.cptr cs) => some (.t (.cptr (cs.drop o)), [])
   | .gptr id ver off => some (.gptr id ver (off + o), [])
   | _ => none
  | none => none
 | .field s x f => match fieldO P s f, ρ x with
  | some (o, ft), .t (.agg cs) => (partT P ft cs o).map fun v => (.t v, [])
  | some (o, ft), .cons b p q => if b then none else (pcells (.cons false p q)).bind fun cs => (loadB P ft cs o).map fun v => (v, [])
  | _, _ => none
 | .indexAddr t x i => match ρ i with
  | .t (.int _ i) => (indexO P t (ρ x) i).map fun v => (v, [])
  | _ => none
 | .index t x i => match ρ i, (ρ x).toT with
  | .t (.int _ i), some (.agg cs) => match arrayO P t with
   | some (n, e) => match szO P e with
    | some sz => if 0 ≤ i ∧ i < n then (partT P e cs (i.toNat * sz)).map fun v => (.t v, []) else none
    | none => none
   | none => none
  | .t (.int _ i), some (.str s) => match P.underlying t with
   | some .string => if 0 ≤ i ∧ i < s.size then some (.t (.int .u8 (s.data.getD i.toNat 0).toNat), []) else none
   | _ => none
  | _, _ => none
 | .slice t x lo hi mx => match ρ x with
  | .gsl id ver sz o n full => (sliceG P t id ver sz o n full (lo.map ρ) (hi.map ρ) (mx.map ρ)).map fun v => (v, [])
  | x => match x.toT with
  | some x => (sliceX P t x (lo.map ρ) (hi.map ρ) (mx.map ρ)).map fun v => (.t v, [])
  | none => none
 | .extract x i => match ρ x with
  | .t (.tup vs) => (vs[i]?).map fun v => (.t v, [])
  | .cons b p q => if b then (nthP (.cons b p q) i).map fun v => (v, []) else none
  | _ => none
 | .call { callee := .builtin b, args := args, argTypes := ts } => popB P b ts (args.toList.map ρ) h rid
 | _ => none

def constP (v : Value) : PV := match ofVal v with | some x => .t x | none => .junk
structure PS where
 tmps : List PV
 heap : Hp
def PS.eval (σ : PS) : Operand → PV
 | .tmp t => σ.tmps.getD t .junk
 | .const v => constP v
 | .func f => .t (.fn f [] [])
 | .global g => globP g

def wr (h : Hp) (W : Wr) : Hp := W.foldl (fun h p => upo h p.1 p.2) h
def PS.put (σ : PS) (dst : Option Tmp) (v : PV) (h : Hp) : PS := { tmps := match dst with | some d => σ.tmps.set d v | none => σ.tmps, heap := h }

def normA (p : PV) : PV := match p.toT with | some x => .t x | none => p
def targetO (P : Program) (c : Call) (ρ : Operand → PV) : Option (FuncId × List PV) :=
 match c.callee with
 | .value g => match ρ g with
  | .t (.fn f pre caps) => some (f, pre.map .t ++ c.args.toList.map (fun a => normA (ρ a)) ++ caps.map .t)
  | .fnc f ids => some (f, c.args.toList.map (fun a => normA (ρ a)) ++ ids.map fun id => .ptr id 0)
  | _ => none
 | .invoke r name => match ρ r with
  | .t (.ifc t x) => match methodO P t name with
   | some f => some (f, .t x :: c.args.toList.map fun a => normA (ρ a))
   | none => none
  | _ => none
 | .builtin _ => none

def PV.ren (ids : List Nat) : PV → PV
 | .ptr i off => .ptr (ids.getD i 0) off
 | .own cs n i => .own cs n (ids.getD i 0)
 | .fnc f is => .fnc f (is.map fun i => ids.getD i 0)
 | .cond b p => .cond b (p.ren ids)
 | .gsl i ver sz o n full => .gsl (ids.getD i 0) ver sz o n full
 | .gptr i ver off => .gptr (ids.getD i 0) ver off
 | .mapr i => .mapr (ids.getD i 0)
 | .cons b p q => .cons b (p.ren ids) (q.ren ids)
 | p => p
def PO.ren (ids : List Nat) : PO → PO
 | .box cells => .box (cells.map (PV.ren ids))
 | .mpo t cells => .mpo t (cells.map (PV.ren ids))
 | .mpk t ks cells => .mpk t ks (cells.map (PV.ren ids))
 | .grow v cells e sz => .grow v (cells.map (PV.ren ids)) e sz
 | o => o
def PV.under (k : Nat) : PV → Bool
 | .ptr i _ => i < k
 | .own _ _ i => i < k
 | .fnc _ is => is.all (· < k)
 | .cond _ p => p.under k
 | .gsl i _ _ _ _ _ => i < k
 | .gptr i _ _ => i < k
 | .mapr i => i < k
 | .cons _ p q => p.under k && q.under k
 | _ => true
def PO.under (k : Nat) : PO → Bool
 | .box cells => cells.all (PV.under k)
 | .mpo _ cells => cells.all (PV.under k)
 | .mpk _ _ cells => cells.all (PV.under k)
 | .grow _ cells _ _ => cells.all (PV.under k)
 | _ => true

abbrev Foot := List Nat × Bool
def sfoot (s x : PV) (rid : Nat) : List Nat :=
 (match s with | .own _ _ id => [id] | .gsl id _ _ _ _ full => if full then [id, rid] else [id] | _ => [rid]) ++ (match x with | .gsl id _ _ _ _ _ => [id] | _ => [])
def mfoot (m : PV) : List Nat := match m with | .mapr id => [id] | _ => []
def footO (op : Op) (ρ : Operand → PV) (rid : Nat) : Foot :=
 match op with
 | .load _ a => match ρ a with | .ptr id _ => ([id], false) | .gptr id _ _ => ([id], false) | _ => ([], false)
 | .store _ a _ => match ρ a with | .ptr id _ => ([id], true) | .gptr id _ _ => ([id], true) | _ => ([], true)
 | .alloc _ | .box _ _ | .makeSlice _ _ _ | .makeMap _ _ | .buildSlice _ _ _ => ([rid], true)
 | .mapUpdate _ m _ _ | .insert _ m _ _ => (mfoot (ρ m), true)
 | .lookup _ m _ _ => (mfoot (ρ m), false)
 | .convert _ _ x => match ρ x with | .gsl id _ _ _ _ _ => ([id], true) | .t (.str _) => ([rid], true) | _ => ([], true)
 | .call { callee := .builtin .append, args := args, .. } => match args.toList.map ρ with
  | s :: x :: _ => (sfoot s x rid, true)
  | _ => ([rid], true)
 | _ => ([], false)

def footQ (op : Op) (ρ : Operand → PV) (rid : Nat) : Foot :=
 match op with
 | .buildSlice _ _ _ => ([], true)
 | .convert _ _ x => match ρ x with | .gsl id _ _ _ _ _ => ([id], true) | _ => ([], true)
 | op => footO op ρ rid

def frozenO (h : Hp) (id : Nat) : Option (List TV) := match h id with
 | .box cells => allO (cells.map PV.toT)
 | .ro cells => some cells
 | _ => none
def popF (op : Op) (ρ : Operand → PV) (h : Hp) : Option (PV × Wr × List Nat) :=
 match op with
 | .makeFunc (.func f) first caps => if !first.isEmpty then none else
   match allO (caps.toList.map fun c => capId (ρ c)) with
   | some ids => (allO (ids.map (frozenO h))).map fun cs => (.t (.fn f [] (cs.map .cptr)), (ids.zip cs).map (fun p => (p.1, PO.ro p.2)), ids)
   | none => none
 | _ => none

def cellsM (P : Program) (t : TypeId) (n : Nat) (parts : List (Nat × PV)) : Option (List (Nat × TV)) → Option (List PV)
 | some ps => (buildSliceO P t n ps).map fun cs => cs.map .t
 | none => buildSliceP P t n parts
def lookM (P : Program) (t : TypeId) (i : Int) : PO → Option (PV × Wr)
 | .mpo t' ps => if t' = t ∧ intMap P t = true ∧ 0 ≤ i then (ps[i.toNat]?).map fun p => (p, []) else none
 | _ => none
def updM (P : Program) (t : TypeId) (id : Nat) (i : Int) (x : PV) : PO → Option (PV × Wr)
 | .mpo t' ps => if t' = t ∧ intMap P t = true ∧ 0 ≤ i then some (.t (.tup []), [(id, .mpo t (ps.set i.toNat x))]) else none
 | _ => none
open Classical in
noncomputable def findK : List TV → List PV → TV → PV
 | k' :: ks, p :: ps, k => if k' = k then p else findK ks ps k
 | _, _, _ => .t .nilPtr
open Classical in
noncomputable def setK : List TV → List PV → TV → PV → List TV × List PV
 | k' :: ks, p :: ps, k, x => if k' = k then (k' :: ks, x :: ps) else (k' :: (setK ks ps k x).1, p :: (setK ks ps k x).2)
 | _, _, k, x => ([k], [x])
def ptrMap (P : Program) (t : TypeId) : Bool := match mapO P t with
 | some (_, e) => (match zeroT P e with | some .nilPtr => true | _ => false)
 | none => false
noncomputable def lookK (P : Program) (t : TypeId) (k : TV) : PO → Option (PV × Wr)
 | .mpk t' ks ps => if t' = t ∧ ptrMap P t = true ∧ keyOk P t k = true then some (findK ks ps k, []) else none
 | _ => none
noncomputable def updK (P : Program) (t : TypeId) (id : Nat) (k : TV) (x : PV) : PO → Option (PV × Wr)
 | .mpk t' ks ps => if t' = t ∧ keyOk P t k = true then some (.t (.tup []), [(id, .mpk t (setK ks ps k x).1 (setK ks ps k x).2)]) else none
 | _ => none
noncomputable def popM (P : Program) (op : Op) (ρ : Operand → PV) (h : Hp) (rid : Nat) : Option (PV × Wr) :=
 match op with
 | .buildSlice t n parts => (cellsM P t n (partsP ρ parts) (partsO ρ parts)).bind fun cs => match sliceO P t with
  | some e => match smallO P e with
   | some (sz, _) => if isRes (h rid) then some (.gsl rid 0 sz 0 n false, [(rid, .grow 0 cs e sz)]) else none
   | none => none
  | none => none
 | .makeMap t none => if intMap P t = true ∧ isRes (h rid) = true then some (.mapr rid, [(rid, .mpo t (List.replicate 12 (.t .nilSl)))]) else if ptrMap P t = true ∧ isRes (h rid) = true then some (.mapr rid, [(rid, .mpk t [] [])]) else none
 | .lookup t m k false => match ρ m, ρ k with
  | .mapr id, .t (.int .i64 i) => lookM P t i (h id)
  | .mapr id, .t (.agg xs) => lookK P t (.agg xs) (h id)
  | .t (.imap t' vs), .t (.int .i64 i) => if t' = t ∧ intMap P t = true ∧ 0 ≤ i then (vs[i.toNat]?).map fun x => (.t x, []) else none
  | _, _ => none
 | .mapUpdate t m k x => match ρ m, ρ k with
  | .mapr id, .t (.int .i64 i) => updM P t id i (ρ x) (h id)
  | .mapr id, .t (.agg xs) => updK P t id (.agg xs) (ρ x) (h id)
  | _, _ => none
 | .call { callee := .builtin .append, args := args, argTypes := ts } => match ts.toList, args.toList.map ρ with
  | [t, t'], [s, x] => appendG P true t t' s x h rid
  | _, _ => none
 | .convert src dst x => match ρ x with
  | .t (.str s) => match P.underlying src, sliceO P dst with
   | some .string, some e => match smallO P e with
    | some (1, _) => if kindO P e = some .u8 ∧ s.size ≤ 140737488355328 ∧ isRes (h rid) = true then some (.gsl rid 0 1 0 s.size false, [(rid, .grow 0 ((bytesT s).map .t) e 1)]) else none
    | _ => none
   | _, _ => none
  | _ => none
 | .alloc t => match zeroL P t, smallO P t with
  | some zs, some (sz, _) => if isRes (h rid) = true then some (.gptr rid 0 0, [(rid, .grow 0 (zs.map .t) t sz)]) else none
  | _, _ => none
 | _ => none

structure YS where
 l : Nat
 xs : List (List TV)
 m : Nat
 stop : Bool

abbrev Gh := Nat → Fz → (Nat → Prop) → World → Prop
def Stable (B : Nat) (E : Nat → Prop) (J : Gh) : Prop :=
 ∀ (i : Nat) (F : Fz) (G : Nat → Prop) (w : World) (F' : Fz) (w' : World), J i F G w → F.le F' → (∀ a u, F' a = some u → look w' a = some u) →
  (∀ a u, F' a = some u → F a = none → (B ≤ a.block ∨ E a.block) ∧ ¬ G a.block) → w'.os = w.os → w'.tape = w.tape → w'.output = w.output → w.heap.size ≤ w'.heap.size →
  (∀ b, b < w.heap.size → (G b ∨ (b < B ∧ ¬ E b)) → w'.heap[b]? = w.heap[b]?) → J i F' G w'
def cntOf (h : Hp) : Nat := match h 0 with | .cnt n => n | _ => 0

def YOk (P : Program) (J : Gh) (Y : YS) : Prop :=
 ∀ (n : Nat) (F : Fz) (G : Nat → Prop) (w : World) (us : List Value) (k : Nat) (as : List TV), k < Y.m → Y.xs[k]? = some as → J k F G w → (∀ a u, F a = some u → look w a = some u) → (∀ b, G b → b < w.heap.size) → RepL F as us →
  YieldAt Fence.wide n P Y.l us.toArray w fun e w' => ∃ F' G', e = .returned (.bool (!(Y.stop && k + 1 == Y.m))) ∧ J (k + 1) F' G' w' ∧ F.le F' ∧ (∀ a u, F' a = some u → look w' a = some u) ∧
   (∀ a u, F' a = some u → F a = none → w.heap.size ≤ a.block ∨ G a.block) ∧ Bel G w w' ∧ (∀ b, G' b → G b ∨ w.heap.size ≤ b) ∧ ∀ b, G' b → b < w'.heap.size

def locG (w : World) (F : Fz) (φ : Nat → Nat × Nat) (h : Hp) (G : Nat → Prop) : Cx := ⟨w, F, h, φ, fun b => own φ h b ∨ G b, [], false⟩
def YCalls (P : Program) (Y : YS) (f : FuncId) (as : List PV) (h : Hp) (v : PV) (h' : Hp) : Prop :=
 FnOk P f ∧ ∀ (J : Gh) (w : World) (F : Fz) (φ : Nat → Nat × Nat) (G : Nat → Prop) (us : List Value),
  Stable w.heap.size (fun b => own φ h b ∨ G b) J → YOk P J Y → RH P (locG w F φ h G) F φ h w → RPs F φ h as us → (∀ b, G b → b < w.heap.size ∧ ¬ own φ h b) → J (cntOf h) F G w →
  Calls P f us.toArray w fun e w' => ∃ u F' φ' G', e = .returned u ∧ RH P (locG w F φ h G) F' φ' h' w' ∧ RepP F' φ' h' v u ∧ (∀ b, G' b → b < w'.heap.size ∧ ¬ own φ' h' b ∧ (w.heap.size ≤ b ∨ own φ h b ∨ G b)) ∧ J (cntOf h') F' G' w'
def CallVal (P : Program) (c : Call) (ρ : Operand → PV) (h : Hp) (v : PV) (W : Wr) (f : Foot) : Prop :=
 ∃ (fn : FuncId) (as as' : List PV) (hl hl' : Hp) (v' : PV) (ids : List Nat), targetO P c ρ = some (fn, as) ∧ HCalls P fn as' hl v' hl' ∧ as = as'.map (PV.ren ids) ∧ ids.Nodup ∧
  as'.all (PV.under ids.length) = true ∧ (∀ (i j : Nat), ids[i]? = some j → h j = (hl i).ren ids ∧ (hl i).under ids.length = true) ∧ (∀ i, ids.length ≤ i → hl i = .res ∧ hl' i = .res) ∧
  (∀ (i j : Nat), ids[i]? = some j → ∀ n, hl i ≠ .cnt n) ∧ (∀ (i j : Nat), ids[i]? = some j → ∀ n, hl' i ≠ .cnt n) ∧
  v = v'.ren ids ∧ W = (List.range ids.length).map (fun i => (ids.getD i 0, (hl' i).ren ids)) ∧ f = (ids, true)
def valS : TV → Option Value
 | .int k n => some (.int k n)
 | .bool b => some (.bool b)
 | .str s => some (.string s)
 | _ => none
def valT : TV → Option Value
 | .agg cs => (allO (cs.map valS)).map fun us => .agg us.toArray
 | x => valS x
def HPan (P : Program) (f : FuncId) (as : List PV) (h : Hp) (V : Value) (h' : Hp) : Prop :=
 FnOk P f ∧ ∀ (w : World) (F : Fz) (φ : Nat → Nat × Nat) (us : List Value), RH P (loc w F φ h) F φ h w → RPs F φ h as us →
  Calls P f us.toArray w fun e w' => ∃ F' φ', e = .panicked [{ v := V, recovered := false }] ∧ RH P (loc w F φ h) F' φ' h' w'
def CallPan (P : Program) (c : Call) (ρ : Operand → PV) (h : Hp) (V : Value) (W : Wr) : Prop :=
 ∃ (fn : FuncId) (as as' : List PV) (hl hl' : Hp) (ids : List Nat), targetO P c ρ = some (fn, as) ∧ HPan P fn as' hl V hl' ∧ as = as'.map (PV.ren ids) ∧ ids.Nodup ∧
  as'.all (PV.under ids.length) = true ∧ (∀ (i j : Nat), ids[i]? = some j → h j = (hl i).ren ids ∧ (hl i).under ids.length = true) ∧ (∀ i, ids.length ≤ i → hl i = .res ∧ hl' i = .res) ∧
  (∀ (i j : Nat), ids[i]? = some j → ∀ n, hl i ≠ .cnt n) ∧ (∀ (i j : Nat), ids[i]? = some j → ∀ n, hl' i ≠ .cnt n) ∧
  W = (List.range ids.length).map (fun i => (ids.getD i 0, (hl' i).ren ids))
def OpPan (P : Program) (op : Op) (ρ : Operand → PV) (h : Hp) (V : Value) (W : Wr) : Prop :=
 (W = [] ∧ ∃ x t tv u, op = .panic x ∧ ρ x = .t (.ifc t tv) ∧ valT tv = some u ∧ V = .iface t u) ∨ ∃ c, op = .call c ∧ CallPan P c ρ h V W
def YieldVal (Y : YS) (c : Call) (ρ : Operand → PV) (h : Hp) (v : PV) (W : Wr) (f : Foot) : Prop :=
 ∃ g as k, c.callee = .value g ∧ ρ g = .yld Y.l ∧ allO (c.args.toList.map fun a => (ρ a).toT) = some as ∧ h 0 = .cnt k ∧ k < Y.m ∧ Y.xs[k]? = some as ∧
  v = .t (.bool (!(Y.stop && k + 1 == Y.m))) ∧ W = [(0, .cnt (k + 1))] ∧ f = ([0], true)

def YCallVal (P : Program) (Y : YS) (c : Call) (ρ : Operand → PV) (h : Hp) (v : PV) (W : Wr) (f : Foot) : Prop :=
 ∃ (fn : FuncId) (as as' : List PV) (hl hl' : Hp) (v' : PV) (ids : List Nat), targetO P c ρ = some (fn, as) ∧ YCalls P Y fn as' hl v' hl' ∧ as = as'.map (PV.ren ids) ∧ ids.Nodup ∧
  as'.all (PV.under ids.length) = true ∧ (∀ (i j : Nat), ids[i]? = some j → h j = (hl i).ren ids ∧ (hl i).under ids.length = true) ∧ (∀ i, ids.length ≤ i → hl i = .res ∧ hl' i = .res) ∧
  ids[0]? = some 0 ∧ v = v'.ren ids ∧ W = (List.range ids.length).map (fun i => (ids.getD i 0, (hl' i).ren ids)) ∧ f = (ids, true)

def OpVal0 (P : Program) (Y : YS) (op : Op) (ρ : Operand → PV) (h : Hp) (rid : Nat) (v : PV) (W : Wr) (f : Foot) : Prop :=
 ((pop P op ρ h rid = some (v, W) ∧ f = footQ op ρ rid) ∨ (popM P op ρ h rid = some (v, W) ∧ f = footO op ρ rid)) ∨ (∃ ids, popF op ρ h = some (v, W, ids) ∧ f = (ids, true)) ∨
 ∃ c, op = .call c ∧ (CallVal P c ρ h v W f ∨ YieldVal Y c ρ h v W f ∨ YCallVal P Y c ρ h v W f)

def thawC (h : Hp) : PV → Option TV
 | .gsl id ver sz o n full => match h id with
  | .gro v cells _ sz' => if v = ver ∧ sz' = sz ∧ (o + n) * sz ≤ cells.length then some (.sl ((cells.drop (o * sz)).take (n * sz)) n full) else none
  | _ => none
 | .mapr id => match h id with
  | .mfz t vs => some (.imap t vs)
  | _ => none
 | p => p.toT
def thawA (h : Hp) : PV → Option (List TV)
 | .nil _ => some []
 | .cons _ p q => match thawC h p, thawA h q with
  | some x, some l => some (x :: l)
  | _, _ => none
 | _ => none
def thawP (h : Hp) (p : PV) : PV := match p with
 | .cons b p q => match thawA h (.cons b p q) with
  | some l => .t (if b then .tup l else .agg l)
  | none => .cons b p q
 | p => match thawC h p with
  | some x => .t x
  | none => p
def idsG : PV → List Nat
 | .gsl id _ _ _ _ _ => [id]
 | .mapr id => [id]
 | .cons _ p q => idsG p ++ idsG q
 | _ => []
def freezeO (h : Hp) (id : Nat) : Option PO := match h id with
 | .grow v cells e sz => (allO (cells.map (thawC h))).map fun cs => .gro v cs e sz
 | .gro v cells e sz => some (.gro v cells e sz)
 | .mpo t ps => (allO (ps.map (thawC h))).map fun cs => .mfz t cs
 | .mfz t cs => some (.mfz t cs)
 | .mp t m => some (.mp t m)
 | _ => none
def freezeW (h : Hp) : List Nat → Option Wr
 | [] => some []
 | id :: l => match freezeO h id with
  | some o => (freezeW (upo h id o) l).map fun W => (id, o) :: W
  | none => none
def closedG (h : Hp) (ids : List Nat) : Bool := ids.all fun id => match h id with | .grow _ cells _ _ => (cells.flatMap idsG).all ids.contains | .mpo _ cells => (cells.flatMap idsG).all ids.contains | _ => true
def seenF (h : Hp) (ids : List Nat) (ρ : Operand → PV) (x : Operand) : PV := if (idsG (ρ x)).all ids.contains then thawP h (ρ x) else ρ x
def OpVal (P : Program) (Y : YS) (op : Op) (ρ : Operand → PV) (h : Hp) (rid : Nat) (v : PV) (W : Wr) (f : Foot) : Prop :=
 OpVal0 P Y op ρ h rid v W f ∨ ∃ ids Wf W0 f0, closedG h ids = true ∧ freezeW h ids = some Wf ∧ OpVal0 P Y op (seenF (wr h Wf) ids ρ) (wr h Wf) rid v W0 f0 ∧ W = Wf ++ W0 ∧ f = (ids ++ f0.1, true)

def guardO (ops : Array Oper) (o : Oper) (σ : PS) : Option Bool :=
 match o.guard with
 | none => some true
 | some (j, want) => match (ops[j]?).bind (·.dst) with
  | none => some false
  | some d => match σ.tmps[d]? with
   | none => some false
   | some (.t (.bool b)) => some (b == want)
   | some (.cond c (.t (.bool b))) => some (c && (b == want))
   | some (.cond c _) => match c with | false => some false | true => none
   | some .junk => none
   | some _ => some false

def pv_undef : PV := .t (.tup [])

def seenBy (o : Oper) (b : Bool) (ρ : Operand → PV) (x : Operand) : PV := match o.guard with | none => ρ x | some _ => strip b (ρ x)
def condW (o : Oper) (b : Bool) (v : PV) : PV := match o.guard with | none => v | some _ => .cond b v

def OpStep (P : Program) (Y : YS) (ops : Array Oper) (o : Oper) (σ σ' : PS) (W : Wr) (f : Foot) : Prop :=
 ∃ b v rid, guardO ops o σ = some b ∧ (b = true → OpVal P Y o.op (seenBy o b σ.eval) σ.heap rid v W f) ∧ (b = false → W = []) ∧ σ' = σ.put o.dst (condW o b v) (wr σ.heap W)

end Go.Pm

/- Part QmD. -/
namespace Go.Pm
open Go Go.RowKit

variable {P : Program} {C : Cx} {F F' : Fz} {φ φ' : Nat → Nat × Nat} {h h' : Hp} {w w' : World}

theorem ofVal_rep {v : Value} {x : TV} (hv : ofVal v = some x) : RepT F x v ∧ v.oneCell' = true := by
 unfold ofVal at hv
 split at hv <;> simp at hv <;> subst hv <;> exact ⟨by constructor, rfl⟩
theorem allO_some {α β : Type} {f : α → Option β} : ∀ {l : List α} {r : List β}, allO (l.map f) = some r → r.length = l.length ∧ ∀ (i : Nat) (a : α) (b : β), l[i]? = some a → r[i]? = some b → f a = some b
 | [], r, hr => by simp [allO] at hr; subst hr; simp
 | a :: l, r, hr => by
  simp only [List.map_cons] at hr
  cases hf : f a with
  | none => rw [hf] at hr; simp [allO] at hr
  | some b =>
   rw [hf] at hr
   simp only [allO, Option.map_eq_some_iff] at hr
   obtain ⟨r', hr', rfl⟩ := hr
   obtain ⟨h1, h2⟩ := allO_some hr'
   refine ⟨by simp [h1], fun i x y hx hy => ?_⟩
   cases i with
   | zero => simp at hx hy; subst hx; subst hy; exact hf
   | succ i => simp at hx hy; exact h2 i x y hx hy
theorem allO_at {α β : Type} {f : α → Option β} {l : List α} {r : List β} (hr : allO (l.map f) = some r) {i : Nat} {a : α} (ha : l[i]? = some a) : ∃ b, r[i]? = some b ∧ f a = some b := by
 obtain ⟨h1, h2⟩ := allO_some hr
 have hi : i < r.length := by have := (List.getElem?_eq_some_iff.1 ha).1; omega
 exact ⟨r[i], List.getElem?_eq_getElem hi, h2 i a _ ha (List.getElem?_eq_getElem hi)⟩

theorem zeroL_rep {t : TypeId} {zs : List TV} (hz : zeroL P t = some zs) : ∃ i z, P.info? t = some i ∧ i.zero = some z ∧ RepL F zs z.cells.toList ∧ ∀ (i : Nat) (u : Value), z.cells.toList[i]? = some u → u.oneCell' = true := by
 unfold zeroL at hz
 cases hi : P.info? t with
 | none => rw [hi] at hz; cases hz
 | some i =>
  rw [hi] at hz
  simp only at hz
  cases hzz : i.zero with
  | none => rw [hzz] at hz; cases hz
  | some z =>
   rw [hzz] at hz
   simp only at hz
   obtain ⟨h1, h2⟩ := allO_some hz
   refine ⟨i, z, rfl, hzz, ⟨h1.symm, fun j c u a b => (ofVal_rep (h2 j u c b a)).1⟩, fun j u hu => ?_⟩
   obtain ⟨c, _, hc2⟩ := allO_at hz hu
   exact (ofVal_rep (F := F) hc2).2

theorem run_zeroValue' {t : TypeId} {i : TypeInfo} {z : Value} (hi : P.info? t = some i) (hz : i.zero = some z) : (zeroValue t).run P w = .ok z w := by
 simp [zeroValue, typeInfo, hi, hz]
theorem run_sizeOf' {t : TypeId} {n : Nat} (hn : szO P t = some n) : (sizeOf t).run P w = .ok n w := by
 unfold szO at hn
 cases hi : P.info? t with
 | none => rw [hi] at hn; cases hn
 | some i => rw [hi] at hn; simp at hn; simp [sizeOf, typeInfo, hi, hn]
theorem run_isAgg' {t : TypeId} {b : Bool} (hb : aggO P t = some b) : (isAgg t).run P w = .ok b w := by
 unfold aggO at hb
 cases hi : P.underlying t with
 | none => rw [hi] at hb; cases hb
 | some d => rw [hi] at hb; simp at hb; subst hb; cases d <;> simp [isAgg, underlying, hi]
theorem run_underlying' {t : TypeId} {d : TypeDesc} (hd : P.underlying t = some d) : (underlying t).run P w = .ok d w := run_underlying hd w

theorem part_rep {t : TypeId} {cs : List TV} {us : List Value} {off : Nat} {x : TV} (hx : partT P t cs off = some x) (hr : RepL F cs us) (h1 : ∀ (i : Nat) (u : Value), us[i]? = some u → u.oneCell' = true) :
  ∃ u, (part t us.toArray off).run P w = .ok u w ∧ RepT F x u := by
 unfold partT at hx
 cases ha : aggO P t with
 | none => rw [ha] at hx; cases hx
 | some b =>
  rw [ha] at hx
  cases b with
  | true =>
   simp only at hx
   cases hn : szO P t with
   | none => rw [hn] at hx; cases hx
   | some n =>
    rw [hn] at hx
    simp only at hx
    split at hx
    ·rename_i hle
     cases hx
     refine ⟨.agg ((us.drop off).take n).toArray, ?_, .agg _ _ (by simp [hr.1]) (fun i u hu => ?_) ((hr.drop off).take n).2⟩
     ·simp only [part, Sem.run_bind, run_isAgg' ha, Result.andThen_ok, if_true, run_sizeOf' hn, Sem.run_pure]
      congr 2
      apply Array.ext'
      simp [List.take_drop]
     ·rw [List.getElem?_take] at hu
      split at hu
      ·rw [List.getElem?_drop] at hu; exact h1 _ _ hu
      ·cases hu
    ·cases hx
  | false =>
   simp only at hx
   have hi : off < us.length := by have := (List.getElem?_eq_some_iff.1 hx).1; have := hr.1; omega
   refine ⟨us[off], ?_, hr.2 off x _ hx (List.getElem?_eq_getElem hi)⟩
   simp only [part, Sem.run_bind, run_isAgg' ha, Result.andThen_ok, Bool.false_eq_true, if_false, List.getElem?_toArray, List.getElem?_eq_getElem hi, Sem.run_pure]

theorem loadVar_rep {t : TypeId} {cs : List TV} {us : List Value} {a : Addr} {x : TV} (hx : partT P t cs 0 = some x) (hr : RepL F cs us) (h1 : ∀ (i : Nat) (u : Value), us[i]? = some u → u.oneCell' = true)
  (hc : ∀ (i : Nat) (u : Value), us[i]? = some u → w.cell? (a.add i) = some u) : ∃ u, (loadVar t a).run P w = .ok u w ∧ RepT F x u := by
 unfold partT at hx
 cases ha : aggO P t with
 | none => rw [ha] at hx; cases hx
 | some b =>
  rw [ha] at hx
  cases b with
  | true =>
   simp only at hx
   cases hn : szO P t with
   | none => rw [hn] at hx; cases hx
   | some n =>
    rw [hn] at hx
    simp only at hx
    split at hx
    ·rename_i hle
     cases hx
     simp only [Nat.zero_add] at hle
     have hlen : (us.take n).length = n := by rw [List.length_take, hr.1]; omega
     refine ⟨.agg (us.take n).toArray, ?_, .agg _ _ (by simp [hr.1]) (fun i u hu => ?_) (by simpa using (hr.take n).2)⟩
     ·have hl := run_loadCells_list (P := P) w a (us.take n) (fun j v hv => by
       rw [List.getElem?_take] at hv
       split at hv
       ·exact hc j v hv
       ·cases hv)
      rw [hlen] at hl
      simp only [loadVar, Sem.run_bind, run_isAgg' ha, Result.andThen_ok, if_true, run_sizeOf' hn, hl, Sem.run_pure]
     ·rw [List.getElem?_take] at hu
      split at hu
      ·exact h1 _ _ hu
      ·cases hu
    ·cases hx
  | false =>
   simp only at hx
   have hi : 0 < us.length := by have := (List.getElem?_eq_some_iff.1 hx).1; have := hr.1; omega
   have hc0 := hc 0 us[0] (List.getElem?_eq_getElem hi)
   rw [add_zero] at hc0
   refine ⟨us[0], ?_, hr.2 0 x _ hx (List.getElem?_eq_getElem hi)⟩
   simp only [loadVar, Sem.run_bind, run_isAgg' ha, Result.andThen_ok, Bool.false_eq_true, if_false, run_load, hc0]

theorem getElem?_map_t {xs : List TV} {i : Nat} {p : PV} (hp : (xs.map PV.t)[i]? = some p) : ∃ x, xs[i]? = some x ∧ p = .t x := by
 rw [List.getElem?_map] at hp
 cases hx : xs[i]? with
 | none => rw [hx] at hp; cases hp
 | some x => rw [hx] at hp; cases hp; exact ⟨x, rfl, rfl⟩

theorem pcells_rep {p : PV} {cs : List PV} {u : Value} (hp : pcells p = some cs) (hr : RepP F φ h p u) :
  u.cells.toList.length = cs.length ∧ ∀ (i : Nat) (c : PV) (v : Value), cs[i]? = some c → u.cells.toList[i]? = some v → RepP F φ h c v ∧ v.oneCell' = true := by
 have lone : ∀ p : PV, RepP F φ h p u → u.oneCell' = true → u.cells.toList.length = [p].length ∧ ∀ (i : Nat) (c : PV) (v : Value), [p][i]? = some c → u.cells.toList[i]? = some v → RepP F φ h c v ∧ v.oneCell' = true := by
  intro p hr ho
  have hcl : u.cells = #[u] := by cases u <;> first | rfl | (simp [Value.oneCell'] at ho)
  rw [hcl]
  refine ⟨by simp, fun i c v hc hv => ?_⟩
  cases i <;> simp at hc hv
  subst hc; subst hv; exact ⟨hr, ho⟩
 induction p generalizing cs u with
 | t x =>
  have hnt : ∀ vs, x ≠ .tup vs := by rintro vs rfl; simp [pcells] at hp
  have hcs : cs = x.cells.map .t := by
   cases x <;> simp only [pcells, Option.some.injEq, reduceCtorEq] at hp <;> exact hp.symm
  subst hcs
  obtain ⟨⟨h1, h2⟩, h3⟩ := RepT.cells hr hnt
  refine ⟨by simpa using h1, fun i c v hc hv => ?_⟩
  obtain ⟨y, hy, rfl⟩ := getElem?_map_t hc
  exact ⟨h2 i y v hy hv, h3 i v hv⟩
 | ptr id off =>
  simp only [pcells, Option.some.injEq] at hp; subst hp
  obtain ⟨hb, rfl⟩ := hr
  refine ⟨by simp [Value.cells], fun i c v hc hv => ?_⟩
  cases i <;> simp [Value.cells] at hc hv
  subst hc; subst hv; exact ⟨⟨hb, rfl⟩, rfl⟩
 | own xs n id =>
  simp only [pcells, Option.some.injEq] at hp; subst hp
  have ho : u.oneCell' = true := by
   rcases Nat.eq_zero_or_pos n with h0 | h0
   ·rw [(hr.1 h0).2]; rfl
   ·exact (hr.2.1 h0).oneCell rfl
  have hcl : u.cells = #[u] := by cases u <;> first | rfl | (simp [Value.oneCell'] at ho)
  rw [hcl]
  refine ⟨by simp, fun i c v hc hv => ?_⟩
  cases i <;> simp at hc hv
  subst hc; subst hv; exact ⟨hr, ho⟩
 | fnc f ids =>
  simp only [pcells, Option.some.injEq] at hp; subst hp
  obtain ⟨hb, rfl⟩ := hr
  refine ⟨by simp [Value.cells], fun i c v hc hv => ?_⟩
  cases i <;> simp [Value.cells] at hc hv
  subst hc; subst hv; exact ⟨⟨hb, rfl⟩, rfl⟩
 | yld l =>
  simp only [pcells, Option.some.injEq] at hp; subst hp
  have hr' : u = .func (.yield l) #[] #[] := hr
  subst hr'
  refine ⟨by simp [Value.cells], fun i c v hc hv => ?_⟩
  cases i <;> simp [Value.cells] at hc hv
  subst hc; subst hv; exact ⟨hr, rfl⟩
 | mth =>
  simp only [pcells, Option.some.injEq] at hp; subst hp
  exact lone _ hr (by obtain ⟨_, _, rfl, _⟩ := hr; rfl)
 | gsl id ver sz o n full =>
  simp only [pcells, Option.some.injEq] at hp; subst hp
  exact lone _ hr (by obtain ⟨_, _, _, _, _, _, h1, _⟩ := hr; rw [h1]; rfl)
 | gptr id ver off =>
  simp only [pcells, Option.some.injEq] at hp; subst hp
  exact lone _ hr (by obtain ⟨_, _, _, _, _, _, h1, _⟩ := hr; rw [h1]; rfl)
 | mapr id =>
  simp only [pcells, Option.some.injEq] at hp; subst hp
  exact lone _ hr (by obtain ⟨_, _, rfl⟩ := hr; rfl)
 | nil b =>
  cases b with
  | true => simp [pcells] at hp
  | false =>
   simp [pcells] at hp; subst hp
   have hr' : u = .agg #[] := hr
   subst hr'
   exact ⟨rfl, fun i c v hc => by simp at hc⟩
 | cons b p q ih1 ih2 =>
  cases b with
  | true => simp [pcells] at hp
  | false =>
   simp only [pcells, Bool.false_eq_true, if_false, Option.map_eq_some_iff] at hp
   obtain ⟨cs', hcs', rfl⟩ := hp
   obtain ⟨v, us, rfl, r1, r2, r3⟩ := hr
   obtain ⟨e1, e2⟩ := ih2 hcs' r2 (fun p hr ho => by simp [mkV, Value.oneCell'] at ho)
   simp only [mkV, Bool.false_eq_true, if_false, Value.cells] at e1 e2 ⊢
   refine ⟨by simpa using e1, fun i c v' hc hv => ?_⟩
   cases i with
   | zero => simp at hc hv; subst hc; subst hv; exact ⟨r1, r3 rfl⟩
   | succ i => simp at hc hv; exact e2 i c v' hc (by simpa using hv)
 | cond => simp [pcells] at hp
 | junk => simp [pcells] at hp

theorem consP_rep {b : Bool} : ∀ {ps : List PV} {us : List Value}, us.length = ps.length → (∀ (i : Nat) (p : PV) (u : Value), ps[i]? = some p → us[i]? = some u → RepP F φ h p u ∧ (b = false → u.oneCell' = true)) → RepP F φ h (consP b ps) (mkV b us)
 | [], [], _, _ => rfl
 | p :: ps, u :: us, hl, hr => ⟨u, us, rfl, (hr 0 p u rfl rfl).1, consP_rep (by simpa using hl) (fun i q v h1 h2 => hr (i + 1) q v (by simpa using h1) (by simpa using h2)), (hr 0 p u rfl rfl).2⟩
 | [], _ :: _, hl, _ => by simp at hl
 | _ :: _, [], hl, _ => by simp at hl
theorem aggP_rep {b : Bool} {ps : List PV} {us : List Value} (hl : us.length = ps.length) (hr : ∀ (i : Nat) (p : PV) (u : Value), ps[i]? = some p → us[i]? = some u → RepP F φ h p u ∧ (b = false → u.oneCell' = true)) : RepP F φ h (aggP b ps) (mkV b us) := by
 unfold aggP
 split
 ·rename_i xs hxs
  obtain ⟨e1, e2⟩ := allO_some hxs
  have key : ∀ (i : Nat) (c : TV) (u : Value), xs[i]? = some c → us[i]? = some u → RepT F c u := fun i c u hc hu => by
   have hi : i < ps.length := by have := (List.getElem?_eq_some_iff.1 hu).1; omega
   exact PV.toT_rep (e2 i _ c (List.getElem?_eq_getElem hi) hc) (hr i _ u (List.getElem?_eq_getElem hi) hu).1
  cases b with
  | true => exact RepT.tup _ _ (by omega) key
  | false => exact RepT.agg _ _ (by omega) (fun i u hu => by
    have hi : i < ps.length := by have := (List.getElem?_eq_some_iff.1 hu).1; omega
    exact (hr i _ u (List.getElem?_eq_getElem hi) hu).2 rfl) key
 ·exact consP_rep hl hr

def Gives (r : Result Next) (u : Value) (w' : World) : Prop := r = .ok (.value u) w' ∨ (r = .ok .skip w' ∧ u = undef)

def Sim (P : Program) (C : Cx) (h : Hp) (r : Result Next) (v : PV) (W : Wr) : Prop :=
 ∃ F' φ' u w', Gives r u w' ∧ RH P C F' φ' (wr h W) w' ∧ RepP F' φ' (wr h W) v u

theorem Sim.quiet (H : RH P C F φ h w) {r : Result Next} {v : PV} {u : Value} (hr : r = .ok (.value u) w) (hv : RepP F φ h v u) : Sim P C h r v [] :=
 ⟨F, φ, u, w, .inl hr, H, hv⟩

theorem sim_alloc (H : RH P C F φ h w) {e : TypeId} {zs : List TV} {rid : Nat} (hz : zeroL P e = some zs) (hres : h rid = .res) :
  Sim P C h (((do pure (Next.value (← Instr.alloc e true (.tuple #[]))) : Sem Next)).run P w) (.ptr rid 0) [(rid, .box (zs.map .t))] := by
 obtain ⟨i, z, hi, hzz, hr, h1⟩ := zeroL_rep (F := F) hz
 obtain ⟨a, b⟩ := H.allocBox hres z.cells.toList e (zs.map .t) (by simpa using hr.1) (fun j c u hc hu => by
  obtain ⟨x, hx, rfl⟩ := getElem?_map_t hc
  exact ⟨hr.2 j x u hx hu, h1 j u hu⟩)
 refine ⟨F, _, _, _, .inl ?_, a, b⟩
 simp only [Sem.run_bind, Instr.alloc, run_zeroValue' hi hzz, Result.andThen_ok, newVar, newRow, run_newObj, Sem.run_pure]
 simp

theorem sim_box (H : RH P C F φ h w) {e : TypeId} {p : PV} {u : Value} {cs : List PV} {rid : Nat} (hp : pcells p = some cs) (hr : RepP F φ h p u) (hres : h rid = .res) :
  Sim P C h (((do pure (Next.value (← Instr.box e u)) : Sem Next)).run P w) (.ptr rid 0) [(rid, .box cs)] := by
 obtain ⟨h1, h2⟩ := pcells_rep hp hr
 obtain ⟨a, b⟩ := H.allocBox hres u.cells.toList e cs h1 h2
 refine ⟨F, _, _, _, .inl ?_, a, b⟩
 simp only [Sem.run_bind, Instr.box, newVar, newRow, run_newObj, Result.andThen_ok, Sem.run_pure]
 simp

theorem loadB_rep {t : TypeId} {b off : Nat} {cells : List PV} {us : List Value} {ty : TypeId} {x : PV} {mk : Nat × Nat} (h1 : w.heap[b]? = some (.cells us.toArray ty mk)) (h2 : cells.length ≤ us.length)
  (h3 : ∀ (i : Nat) (c : PV) (u : Value), cells[i]? = some c → us[i]? = some u → RepP F φ h c u ∧ u.oneCell' = true) (hx : loadB P t cells off = some x) :
  ∃ u, (loadVar t ⟨b, off, none⟩).run P w = .ok u w ∧ RepP F φ h x u := by
 have hcell : ∀ (i : Nat) (u : Value), (us.drop off)[i]? = some u → w.cell? ((⟨b, off, none⟩ : Addr).add i) = some u := fun i u hu => by
  rw [add_plain, cell_at h1]; rw [List.getElem?_drop] at hu; exact hu
 unfold loadB at hx
 cases ha : aggO P t with
 | none => rw [ha] at hx; cases hx
 | some b =>
  rw [ha] at hx
  cases b with
  | true =>
   simp only at hx
   cases hn : szO P t with
   | none => rw [hn] at hx; cases hx
   | some n =>
    rw [hn] at hx
    simp only at hx
    split at hx
    ·rename_i hle
     cases hx
     have hlen : ((us.drop off).take n).length = n := by simp only [List.length_take, List.length_drop]; omega
     have hrun : (loadVar t ⟨b, off, none⟩).run P w = .ok (.agg ((us.drop off).take n).toArray) w := by
      have hl := run_loadCells_list (P := P) w ⟨b, off, none⟩ ((us.drop off).take n) (fun j v hv => by
       rw [List.getElem?_take] at hv
       split at hv
       ·exact hcell j v hv
       ·cases hv)
      rw [hlen] at hl
      simp only [loadVar, Sem.run_bind, run_isAgg' ha, Result.andThen_ok, if_true, run_sizeOf' hn, hl, Sem.run_pure]
     refine ⟨.agg ((us.drop off).take n).toArray, hrun, aggP_rep (b := false) (by simp only [List.length_take, List.length_drop]; omega) (fun i c u hc hu => ?_)⟩
     have hu' : us[off + i]? = some u := by
      rw [List.getElem?_take] at hu
      split at hu
      ·rw [List.getElem?_drop] at hu; exact hu
      ·cases hu
     have hc' : cells[off + i]? = some c := by
      rw [List.getElem?_take] at hc
      split at hc
      ·rw [List.getElem?_drop] at hc; exact hc
      ·cases hc
     exact ⟨(h3 _ c u hc' hu').1, fun _ => (h3 _ c u hc' hu').2⟩
    ·cases hx
  | false =>
   simp only at hx
   have hlt : off < us.length := by have := (List.getElem?_eq_some_iff.1 hx).1; omega
   have hc0 := hcell 0 us[off] (by simp [hlt])
   rw [add_zero] at hc0
   refine ⟨us[off], ?_, (h3 off x us[off] hx (List.getElem?_eq_getElem hlt)).1⟩
   simp only [loadVar, Sem.run_bind, run_isAgg' ha, Result.andThen_ok, Bool.false_eq_true, if_false, run_load, hc0]

theorem load_ptr_quiet (H : RH P C F φ h w) {t : TypeId} {id off : Nat} {cells : List PV} {x : PV} (hid : h id = .box cells) (hx : loadB P t cells off = some x) :
  ∃ u, (loadVar t ⟨(φ id).1, off, none⟩).run P w = .ok u w ∧ RepP F φ h x u := by
 have hob := H.objs id
 rw [hid] at hob
 obtain ⟨us, ty, h1, h2, h3, h4⟩ := hob
 exact loadB_rep h1 (by omega) h3 hx

theorem row_at (H : RH P C F φ h w) {id ver : Nat} {cells : List PV} (hg : growCells (h id) ver = some cells) : ∃ (us : List Value) (e : TypeId) (sz : Nat), growInfo (h id) = some (ver, e, sz) ∧ (∃ mk, w.heap[(φ id).1]? = some (.cells us.toArray e mk)) ∧
  us.length = (φ id).2 * sz ∧ cells.length ≤ us.length ∧ P.cellsOf e = sz ∧ ∀ (i : Nat) (c : PV) (u : Value), cells[i]? = some c → us[i]? = some u → RepP F φ h c u ∧ u.oneCell' = true := by
 have hob := H.objs id
 unfold growCells at hg
 split at hg
 ·rename_i v c e sz hid
  split at hg
  ·rename_i hv; subst hv
   cases hg
   rw [hid] at hob
   obtain ⟨us, ⟨mk, h1, _⟩, h2, h3, h4, h5, h6⟩ := hob
   exact ⟨us, e, sz, by rw [hid]; rfl, ⟨mk, h1⟩, h2, h3, h4, h5⟩
  ·cases hg
 ·rename_i v c e sz hid
  split at hg
  ·rename_i hv; subst hv
   cases hg
   rw [hid] at hob
   obtain ⟨us, ⟨mk, h1, _⟩, h2, h3, h4, h5⟩ := hob
   refine ⟨us, e, sz, by rw [hid]; rfl, ⟨mk, h1⟩, h2, by simpa using h3, h4, fun i c u hc hu => ?_⟩
   obtain ⟨x, hx, rfl⟩ := getElem?_map_t hc
   exact ⟨(h5 i x u hx hu).1, (h5 i x u hx hu).2.1⟩
  ·cases hg
 ·cases hg

theorem sim_load_gptr (H : RH P C F φ h w) {t : TypeId} {id ver off : Nat} {cells : List PV} {x : PV} {u : Value} (hg : growCells (h id) ver = some cells) (hu : RepP F φ h (.gptr id ver off) u) (hx : loadB P t cells off = some x) :
  Sim P C h (((do pure (Next.value (← Instr.loadAt t u)) : Sem Next)).run P w) x [] := by
 obtain ⟨us, e, sz, h0, ⟨mk, h1⟩, h2, h3, h4, h5⟩ := row_at H hg
 obtain ⟨v, e', sz', a, g1, g2, rfl, g4⟩ := hu
 rw [h0] at g1; cases g1
 have := g4 rfl; subst this
 obtain ⟨u, hu, hr⟩ := loadB_rep (P := P) h1 h3 h5 hx
 refine Sim.quiet H (u := u) ?_ hr
 simp only [Sem.run_bind, Instr.loadAt, Instr.sureAddr, Sem.run_pure, Result.andThen_ok, hu]

theorem sim_load_ptr (H : RH P C F φ h w) {t : TypeId} {id off : Nat} {cells : List PV} {x : PV} (hid : h id = .box cells) (hx : loadB P t cells off = some x) :
  Sim P C h (((do pure (Next.value (← Instr.loadAt t (.pointer (some ⟨(φ id).1, off, none⟩)))) : Sem Next)).run P w) x [] := by
 obtain ⟨u, hu, hr⟩ := load_ptr_quiet H hid hx
 refine Sim.quiet H (u := u) ?_ hr
 simp only [Sem.run_bind, Instr.loadAt, Instr.sureAddr, Sem.run_pure, Result.andThen_ok, hu]

theorem sim_load_ro (H : RH P C F φ h w) {t : TypeId} {id off : Nat} {cells : List TV} {x : TV} (hid : h id = .ro cells) (hx : partT P t (cells.drop off) 0 = some x) :
  Sim P C h (((do pure (Next.value (← Instr.loadAt t (.pointer (some ⟨(φ id).1, off, none⟩)))) : Sem Next)).run P w) (.t x) [] := by
 have hob := H.objs id
 rw [hid] at hob
 obtain ⟨us, ty, h1, h2, h3, h4⟩ := hob
 obtain ⟨v, hv, hrep⟩ := loadVar_rep (P := P) (w := w) (a := ⟨(φ id).1, off, none⟩) hx (h2.drop off) (fun i u hu => h3 (off + i) u (by simpa using hu)) (fun i u hu => by
  rw [add_plain, cell_at h1]; simpa using hu)
 refine Sim.quiet H (u := v) ?_ hrep
 simp only [Sem.run_bind, Instr.loadAt, Instr.sureAddr, Sem.run_pure, Result.andThen_ok, hv]

theorem sim_load_cptr (H : RH P C F φ h w) {t : TypeId} {cs : List TV} {u : Value} {x : TV} (hu : RepT F (.cptr cs) u) (hx : partT P t cs 0 = some x) :
  Sim P C h (((do pure (Next.value (← Instr.loadAt t u)) : Sem Next)).run P w) (.t x) [] := by
 cases hu with
 | cptr _ a us hl hF hr =>
  obtain ⟨v, hv, hrep⟩ := loadVar_rep (P := P) (w := w) (a := a) hx ⟨hl, hr⟩ (fun i u hu => (hF i u hu).2) (fun i u hu => look_cell (H.agree _ _ (hF i u hu).1) (hF i u hu).2)
  refine Sim.quiet H (u := v) ?_ hrep
  simp only [Sem.run_bind, Instr.loadAt, Instr.sureAddr, Sem.run_pure, Result.andThen_ok, hv]

theorem store_rep {off : Nat} {cells vs : List PV} {us : List Value} {u : Value} (h2 : cells.length ≤ us.length) (h3 : ∀ (i : Nat) (c : PV) (u : Value), cells[i]? = some c → us[i]? = some u → RepP F φ h c u ∧ u.oneCell' = true)
  (e1 : u.cells.toList.length = vs.length) (e2 : ∀ (i : Nat) (c : PV) (v : Value), vs[i]? = some c → u.cells.toList[i]? = some v → RepP F φ h c v ∧ v.oneCell' = true) (hle : off + vs.length ≤ cells.length) :
  (us.take off ++ u.cells.toList ++ us.drop (off + vs.length)).length = us.length ∧ ∀ (i : Nat) (c : PV) (v : Value), (cells.take off ++ vs ++ cells.drop (off + vs.length))[i]? = some c → (us.take off ++ u.cells.toList ++ us.drop (off + vs.length))[i]? = some v → RepP F φ h c v ∧ v.oneCell' = true := by
 refine ⟨by simp only [List.length_append, List.length_take, List.length_drop, e1]; omega, fun i c v hc hv => ?_⟩
 by_cases ha : i < off
 ·have hc' : cells[i]? = some c := by
   rw [List.append_assoc, List.getElem?_append_left (by simp; omega), List.getElem?_take, if_pos ha] at hc; exact hc
  have hv' : us[i]? = some v := by
   rw [List.append_assoc, List.getElem?_append_left (by simp; omega), List.getElem?_take, if_pos ha] at hv; exact hv
  exact h3 i c v hc' hv'
 ·by_cases hb : i < off + vs.length
  ·have hc' : vs[i - off]? = some c := by
    rw [List.append_assoc, List.getElem?_append_right (by simp; omega), List.getElem?_append_left (by simp; omega)] at hc
    rwa [List.length_take, Nat.min_eq_left (by omega)] at hc
   have hv' : u.cells.toList[i - off]? = some v := by
    rw [List.append_assoc, List.getElem?_append_right (by simp; omega), List.getElem?_append_left (by rw [e1]; simp; omega)] at hv
    rwa [List.length_take, Nat.min_eq_left (by omega)] at hv
   exact e2 _ c v hc' hv'
  ·have hc' : cells[i]? = some c := by
    rw [List.getElem?_append_right (by simp; omega), List.getElem?_drop] at hc
    rw [← hc]; congr 1; simp; omega
   have hv' : us[i]? = some v := by
    rw [List.getElem?_append_right (by simp only [List.length_append, List.length_take, e1]; omega), List.getElem?_drop] at hv
    rw [← hv]; congr 1; simp only [List.length_append, List.length_take, e1]; omega
   exact h3 i c v hc' hv'

theorem run_storeCells_mk (g o : Nat) (t : TypeId) (fz : Nat × Nat) : ∀ (vs : List Value) (i : Nat) (cur : Array Value) (w : World), w.heap[g]? = some (.cells cur t fz) → okMk fz cur.size → o + i + vs.length ≤ cur.size → (∀ v ∈ vs, v.oneCell' = true) →
  (storeCells ⟨g, o, none⟩ vs i).run P w = .ok () (w.setRow g (cur.toList.take (o + i) ++ vs ++ cur.toList.drop (o + i + vs.length)).toArray)
 | [], i, cur, w, hg, _, _, _ => by
  simp only [storeCells, List.append_nil, List.length_nil, Nat.add_zero, List.take_append_drop, Array.toArray_toList]
  rw [setRow_self w g cur t fz hg]
  rfl
 | v :: rest, i, cur, w, hg, hfz, hl, h1 => by
  have hi : o + i < cur.size := by simp at hl; omega
  have hadd : (⟨g, o, none⟩ : Addr).add i = ⟨g, o + i, none⟩ := by unfold Addr.add; split <;> simp_all
  have hcell : w.cell? ⟨g, o + i, none⟩ = some cur[o + i] := by simp [World.cell?, hg, hi]
  have hfro : w.frozen? ⟨g, o + i, none⟩ = false := by
   obtain ⟨lo, hi'⟩ := fz
   simp only [World.frozen?, hg, Bool.and_eq_false_iff, decide_eq_false_iff_not]
   unfold okMk at hfz
   simp only at hfz
   omega
  have hst : (store ((⟨g, o, none⟩ : Addr).add i) v).run P w = .ok () (w.setRow g (cur.setIfInBounds (o + i) v)) := by
   rw [hadd, run_store P w _ v _ (h1 v (by simp)), hcell]
   simp [hfro, setCell_eq_setRow w g (o + i) cur t fz v hg]
  have ih := run_storeCells_mk g o t fz rest (i + 1) (cur.setIfInBounds (o + i) v) (w.setRow g (cur.setIfInBounds (o + i) v)) (setRow_heap w g cur _ t _ hg) (by simpa using hfz) (by simp at hl ⊢; omega) (fun x hx => h1 x (by simp [hx]))
  simp only [storeCells, Sem.run_bind, hst, Result.andThen_ok, ih, setRow_setRow]
  congr 3
  have e := list_seg_step cur.toList (o + i) v rest (by simp at hl ⊢; omega)
  simpa [Array.toList_setIfInBounds, Nat.add_assoc] using e
theorem run_storeAt {t : TypeId} {b off : Nat} {cells c' : List PV} {us : List Value} {ty : TypeId} {p : PV} {u : Value} {mk : Nat × Nat} (h1 : w.heap[b]? = some (.cells us.toArray ty mk)) (hmk : okMk mk us.length) (h2 : cells.length ≤ us.length)
  (h3 : ∀ (i : Nat) (c : PV) (u : Value), cells[i]? = some c → us[i]? = some u → RepP F φ h c u ∧ u.oneCell' = true) (hp : storeB P t cells off p = some c') (hr : RepP F φ h p u) :
  ∃ vs : List Value, ((do Instr.storeAt t (.pointer (some ⟨b, off, none⟩)) u; pure .skip : Sem Next)).run P w = .ok .skip (w.setRow b vs.toArray) ∧ vs.length = us.length ∧ c'.length = cells.length ∧
   ∀ (i : Nat) (c : PV) (v : Value), c'[i]? = some c → vs[i]? = some v → RepP F φ h c v ∧ v.oneCell' = true := by
 unfold storeB at hp
 cases hpc : pcells p with
 | none => rw [hpc] at hp; cases hp
 | some vs =>
  rw [hpc] at hp
  simp only at hp
  split at hp
  ·rename_i hcond
   obtain ⟨hsz, hle⟩ := hcond
   cases hp
   obtain ⟨e1, e2⟩ := pcells_rep hpc hr
   have e1' : u.cells.size = vs.length := by simpa using e1
   have hst := run_storeCells_mk (P := P) b off ty mk u.cells.toList 0 us.toArray w h1 (by simpa using hmk) (by simp; omega) (fun v hv => by
    obtain ⟨i, hi, rfl⟩ := List.getElem_of_mem hv
    have hlt : i < vs.length := by rw [← e1]; exact hi
    exact (e2 i vs[i] _ (List.getElem?_eq_getElem hlt) (List.getElem?_eq_getElem hi)).2)
   obtain ⟨q1, q2⟩ := store_rep h2 h3 e1 e2 hle
   refine ⟨us.take off ++ u.cells.toList ++ us.drop (off + vs.length), ?_, q1, by simp only [List.length_append, List.length_take, List.length_drop]; omega, q2⟩
   simp only [Instr.storeAt, Instr.sureAddr, storeVar, Sem.run_bind, Sem.run_pure, Result.andThen_ok, run_sizeOf' hsz, e1', ne_eq, not_true_eq_false, if_false]
   rw [hst]
   simp [e1']
  ·cases hp

theorem sim_store (H : RH P C F φ h w) {t : TypeId} {id off : Nat} {cells c' : List PV} {p : PV} {u : Value} (hid : h id = .box cells) (hp : storeB P t cells off p = some c') (hr : RepP F φ h p u) :
  Sim P C h (((do Instr.storeAt t (.pointer (some ⟨(φ id).1, off, none⟩)) u; pure .skip : Sem Next)).run P w) (.t (.tup [])) [(id, .box c')] := by
 have hob := H.objs id
 rw [hid] at hob
 obtain ⟨us, ty, h1, h2, h3, h4⟩ := hob
 obtain ⟨vs, q1, q2, q3, q4⟩ := run_storeAt (P := P) h1 (okMk_zero _) (by omega) h3 hp hr
 exact ⟨F, φ, undef, _, .inr ⟨q1, rfl⟩, H.setBox hid vs (by omega) q4, .tup [] [] rfl (by simp)⟩
theorem sim_store_gptr (H : RH P C F φ h w) {t : TypeId} {id ver off e sz : Nat} {cells c' : List PV} {p : PV} {u ua : Value} (hid : h id = .grow ver cells e sz) (hu : RepP F φ h (.gptr id ver off) ua) (hp : storeB P t cells off p = some c') (hr : RepP F φ h p u) :
  Sim P C h (((do Instr.storeAt t ua u; pure .skip : Sem Next)).run P w) (.t (.tup [])) [(id, .grow ver c' e sz)] := by
 have hob := H.objs id
 rw [hid] at hob
 obtain ⟨us, ⟨mk, h1, hmk⟩, h2, h3, h4, h5, h6⟩ := hob
 obtain ⟨v, e', sz', a, g1, g2, rfl, g4⟩ := hu
 rw [hid] at g1; cases g1
 have := g4 rfl; subst this
 obtain ⟨vs, q1, q2, q3, q4⟩ := run_storeAt (P := P) h1 hmk h3 h5 hp hr
 exact ⟨F, φ, undef, _, .inr ⟨q1, rfl⟩, H.setGrow hid vs (by omega) (by omega) q4, .tup [] [] rfl (by simp)⟩

end Go.Pm

/- Part QmE. -/
namespace Go.Pm
open Go Go.RowKit

variable {P : Program} {C : Cx} {F F' : Fz} {φ φ' : Nat → Nat × Nat} {h h' : Hp} {w w' : World}

theorem run_cmp {op : BinOp} {a b : Int} {c : Bool} (hc : cmpT op a b = some c) : (Op.intCmp op a b).run P w = .ok (.bool c) w := by
 cases op <;> simp [cmpT] at hc <;> subst hc <;> simp [Op.intCmp]

theorem run_int {op : BinOp} {k : IntKind} {a b : Int} {x : TV} {xt : TypeId} (hx : binT P op xt (.int k a) (.int k b) = some x) :
  ∃ u, (binOp op xt (.int k a) (.int k b)).run P w = .ok u w ∧ RepT F x u := by
 have hcmp : ∀ op' : BinOp, (cmpT op' a b).map TV.bool = some x → ∃ u, (Op.intCmp op' a b).run P w = .ok u w ∧ RepT F x u := by
  intro op' h
  simp only [Option.map_eq_some_iff] at h
  obtain ⟨c, hc, rfl⟩ := h
  exact ⟨_, run_cmp hc, .bool c⟩
 cases op with
 | add => simp [binT, intT] at hx; subst hx; exact ⟨_, by simp [binOp, Op.intArith], .int _ _⟩
 | sub => simp [binT, intT] at hx; subst hx; exact ⟨_, by simp [binOp, Op.intArith], .int _ _⟩
 | mul => simp [binT, intT] at hx; subst hx; exact ⟨_, by simp [binOp, Op.intArith], .int _ _⟩
 | quo => simp [binT, intT] at hx; obtain ⟨hb, rfl⟩ := hx; exact ⟨_, by simp [binOp, Op.intDiv, hb], .int _ _⟩
 | rem => simp [binT, intT] at hx; obtain ⟨hb, rfl⟩ := hx; exact ⟨_, by simp [binOp, Op.intDiv, hb], .int _ _⟩
 | and => simp [binT, intT] at hx; subst hx; exact ⟨_, by simp [binOp, Op.intBits], .int _ _⟩
 | or => simp [binT, intT] at hx; subst hx; exact ⟨_, by simp [binOp, Op.intBits], .int _ _⟩
 | xor => simp [binT, intT] at hx; subst hx; exact ⟨_, by simp [binOp, Op.intBits], .int _ _⟩
 | andNot => simp [binT, intT] at hx; subst hx; exact ⟨_, by simp [binOp, Op.intBits], .int _ _⟩
 | shl => simp [binT, shiftT] at hx; obtain ⟨hb, rfl⟩ := hx; exact ⟨_, by simp [binOp, Op.shift, Int.not_lt.2 hb], .int _ _⟩
 | shr => simp [binT, shiftT] at hx; obtain ⟨hb, rfl⟩ := hx; exact ⟨_, by simp [binOp, Op.shift, Int.not_lt.2 hb], .int _ _⟩
 | eql => obtain ⟨u, h1, h2⟩ := hcmp .eql (by simpa [binT, intT] using hx); exact ⟨u, by simpa [binOp] using h1, h2⟩
 | neq => obtain ⟨u, h1, h2⟩ := hcmp .neq (by simpa [binT, intT] using hx); exact ⟨u, by simpa [binOp] using h1, h2⟩
 | lss => obtain ⟨u, h1, h2⟩ := hcmp .lss (by simpa [binT, intT] using hx); exact ⟨u, by simpa [binOp] using h1, h2⟩
 | leq => obtain ⟨u, h1, h2⟩ := hcmp .leq (by simpa [binT, intT] using hx); exact ⟨u, by simpa [binOp] using h1, h2⟩
 | gtr => obtain ⟨u, h1, h2⟩ := hcmp .gtr (by simpa [binT, intT] using hx); exact ⟨u, by simpa [binOp] using h1, h2⟩
 | geq => obtain ⟨u, h1, h2⟩ := hcmp .geq (by simpa [binT, intT] using hx); exact ⟨u, by simpa [binOp] using h1, h2⟩

theorem run_eqFields {d n : Nat} (ih : ∀ (t : TypeId) (x y : TV) (u v : Value) (b : Bool), eqT P n t x y = some b → RepT F x u → RepT F y v → (Op.equalIn d t u v).run P w = .ok b w)
  {xs ys : List TV} {us vs : List Value} (hx : RepL F xs us) (hx1 : ∀ (i : Nat) (u : Value), us[i]? = some u → u.oneCell' = true) (hy : RepL F ys vs) (hy1 : ∀ (i : Nat) (u : Value), vs[i]? = some u → u.oneCell' = true) :
  ∀ (fs : List Field) (b : Bool), eqFs P (eqT P n) xs ys fs = some b → (Op.eqFields d us.toArray vs.toArray fs).run P w = .ok b w
 | [], b, hb => by simp [eqFs] at hb; subst hb; simp [Op.eqFields]
 | f :: fs, b, hb => by
  simp only [eqFs] at hb
  simp only [Op.eqFields, Sem.run_ite]
  by_cases hf : f.name ≠ "_"
  ·rw [if_pos hf] at hb ⊢
   split at hb
   ·rename_i x y hpx hpy
    split at hb
    ·rename_i b1 b2 h1 h2
     simp only [Option.some.injEq] at hb; subst hb
     obtain ⟨u, hu, ru⟩ := part_rep (P := P) (w := w) hpx hx hx1
     obtain ⟨v, hv, rv⟩ := part_rep (P := P) (w := w) hpy hy hy1
     have e1 := ih f.type x y u v b1 h1 ru rv
     have e2 := run_eqFields ih hx hx1 hy hy1 fs b2 h2
     simp only [Sem.run_bind, hu, Result.andThen_ok, hv, e1, Sem.run_ite]
     cases b1 <;> simp [e2]
    ·cases hb
   ·cases hb
  ·rw [if_neg hf] at hb ⊢
   exact run_eqFields ih hx hx1 hy hy1 fs b hb

theorem run_eqArray {d n e sz : Nat} (ih : ∀ (t : TypeId) (x y : TV) (u v : Value) (b : Bool), eqT P n t x y = some b → RepT F x u → RepT F y v → (Op.equalIn d t u v).run P w = .ok b w)
  {xs ys : List TV} {us vs : List Value} (hx : RepL F xs us) (hx1 : ∀ (i : Nat) (u : Value), us[i]? = some u → u.oneCell' = true) (hy : RepL F ys vs) (hy1 : ∀ (i : Nat) (u : Value), vs[i]? = some u → u.oneCell' = true) :
  ∀ (k i : Nat) (b : Bool), eqAs P (eqT P n) xs ys e sz k i = some b →
   (forIn (m := Sem) (List.range' i k) ((none, ()) : Option Bool × Unit) (fun i (_ : Option Bool × Unit) => do
    if (!(← Op.equalIn d e (← part e us.toArray (i * sz)) (← part e vs.toArray (i * sz)))) = true then pure (ForInStep.done ((some false, ()) : Option Bool × Unit)) else pure (ForInStep.yield (none, ())))).run P w
    = .ok (if b then (none, ()) else (some false, ())) w
 | 0, i, b, hb => by simp [eqAs] at hb; subst hb; simp
 | k + 1, i, b, hb => by
  simp only [eqAs] at hb
  split at hb
  ·rename_i x y hpx hpy
   split at hb
   ·rename_i b1 b2 h1 h2
    simp only [Option.some.injEq] at hb; subst hb
    obtain ⟨u, hu, ru⟩ := part_rep (P := P) (w := w) hpx hx hx1
    obtain ⟨v, hv, rv⟩ := part_rep (P := P) (w := w) hpy hy hy1
    have e1 := ih e x y u v b1 h1 ru rv
    have e2 := run_eqArray ih hx hx1 hy hy1 k (i + 1) b2 h2
    simp only [List.range'_succ, List.forIn_cons, Sem.run_bind, hu, Result.andThen_ok, hv, e1, Sem.run_ite]
    cases b1
    ·simp
    ·simpa using e2
   ·cases hb
  ·cases hb

theorem run_equalIn {t : TypeId} {x y : TV} {u v : Value} {b : Bool} : ∀ (n d : Nat), n ≤ d → eqT P n t x y = some b → RepT F x u → RepT F y v → (Op.equalIn d t u v).run P w = .ok b w := by
 intro n
 induction n generalizing t x y u v b with
 | zero => intro d _ hb; simp [eqT] at hb
 | succ n ih =>
  intro d hd hb ru rv
  obtain ⟨d, rfl⟩ : ∃ d', d = d' + 1 := ⟨d - 1, by omega⟩
  have hd' : n ≤ d := by omega
  simp only [eqT] at hb
  split at hb
  ·rename_i a c ht; cases ru; cases rv; simp at hb; subst hb; simp [Op.equalIn, run_underlying' ht]
  ·rename_i k' a k'' c ht
   cases ru; cases rv
   split at hb
   ·rename_i hk; subst hk; simp at hb; subst hb; simp [Op.equalIn, run_underlying' ht]
   ·cases hb
  ·rename_i a c ht; cases ru; cases rv; simp at hb; subst hb; exact run_equalIn_string w d t _ _ ht
  ·rename_i ht; cases ru; cases rv; simp at hb; subst hb; simp [Op.equalIn, run_underlying' ht]
  ·rename_i ht; cases ru; cases rv; simp at hb; subst hb; simp [Op.equalIn, run_underlying' ht]
  ·rename_i ht; cases ru; cases rv; simp at hb; subst hb; simp [Op.equalIn, run_underlying' ht]
  ·rename_i fs xs ys ht
   cases ru with
   | agg _ us l1 o1 r1 =>
    cases rv with
    | agg _ vs l2 o2 r2 =>
     split at hb
     ·cases hb
     ·rename_i hst
      have hfs : P.fieldsOf t = fs := by simp [Program.fieldsOf, ht]
      rw [run_equalIn_struct w d t _ _ (by rw [hfs]; exact ht) (by simpa using hst), hfs]
      exact run_eqFields (fun t x y u v b hb ru rv => ih d hd' hb ru rv) ⟨l1, r1⟩ o1 ⟨l2, r2⟩ o2 fs.toList b hb
  ·rename_i len e xs ys ht
   cases ru with
   | agg _ us l1 o1 r1 =>
    cases rv with
    | agg _ vs l2 o2 r2 =>
     split at hb
     ·rename_i sz hsz
      have hloop := run_eqArray (P := P) (w := w) (e := e) (sz := sz) (fun t x y u v b hb ru rv => ih d hd' hb ru rv) ⟨l1, r1⟩ o1 ⟨l2, r2⟩ o2 len 0 b hb
      simp only [Op.equalIn, Sem.run_bind, run_underlying' ht, Result.andThen_ok, run_sizeOf' hsz]
      rw [Std.Legacy.Range.forIn_eq_forIn_range']
      simp only [Std.Legacy.Range.size, Nat.sub_zero, Nat.add_sub_cancel, Nat.div_one]
      rw [hloop]
      cases b <;> simp
     ·cases hb
  ·cases hb

theorem run_eqGuard {op : BinOp} {xt : TypeId} {x y : Operand} {u v : Value} (hu : u ≠ .nilIface) (ha : (∀ cs, u ≠ .agg cs) ∨ P.eqGuardType P.depth xt = false) : (eqGuard op xt x y u v).run P w = .ok () w := by
 cases u with
 | nilIface => exact absurd rfl hu
 | agg cs =>
  rcases ha with ha | ha
  ·exact absurd rfl (ha _)
  ·cases v <;> cases op <;> simp [eqGuard, ha]
 | _ => cases op <;> simp [eqGuard]

theorem sim_binOp (H : RH P C F φ h w) {op : BinOp} {xt : TypeId} {x y : Operand} {a b c : TV} {u v : Value} (hc : binT P op xt a b = some c) (ru : RepT F a u) (rv : RepT F b v) :
  Sim P C h (((do pure (Next.value (← (do eqGuard op xt x y u v; binOp op xt u v))) : Sem Next)).run P w) (.t c) [] := by
 suffices hs : (eqGuard op xt x y u v).run P w = .ok () w ∧ ∃ z, (binOp op xt u v).run P w = .ok z w ∧ RepT F c z by
  obtain ⟨h1, z, h2, h3⟩ := hs
  refine Sim.quiet H (u := z) ?_ h3
  simp only [Sem.run_bind, h1, Result.andThen_ok, h2, Sem.run_pure]
 have eqs : ∀ {r : Bool}, eqT P 20 xt a b = some r → (Op.equal xt u v).run P w = .ok r w := fun hr => run_equalIn 20 Op.maxDepth (by decide) hr ru rv
 unfold binT at hc
 split at hc
 ·cases ru; cases rv; rename_i k' n k'' m
  refine ⟨run_eqGuard (by simp) (.inl (by simp)), ?_⟩
  simp only [shiftT] at hc
  split at hc
  ·cases hc
  ·rename_i hb; simp at hc; subst hc; exact ⟨_, by simp [binOp, Op.shift, hb], .int _ _⟩
 ·cases ru; cases rv; rename_i k' n k'' m
  refine ⟨run_eqGuard (by simp) (.inl (by simp)), ?_⟩
  simp only [shiftT] at hc
  split at hc
  ·cases hc
  ·rename_i hb; simp at hc; subst hc; exact ⟨_, by simp [binOp, Op.shift, hb], .int _ _⟩
 ·cases ru; cases rv; rename_i op k' n k'' m hs1 hs2
  refine ⟨run_eqGuard (by simp) (.inl (by simp)), ?_⟩
  split at hc
  ·rename_i hk; subst hk
   refine run_int (F := F) (xt := xt) ?_
   cases op <;> simp [binT, hc] <;> first | exact hc | (exact absurd rfl (hs1 _ _ _ _ rfl rfl)) | skip
   all_goals simp [intT, cmpT] at hc
  ·cases hc
 ·rename_i xs ys
  split at hc
  ·cases hc
  ·rename_i hg
   simp only [Option.map_eq_some_iff] at hc
   obtain ⟨r, hr, rfl⟩ := hc
   have e := eqs hr
   cases ru; cases rv
   exact ⟨run_eqGuard (by simp) (.inr (by simpa using hg)), _, by simp [binOp, e], .bool _⟩
 ·rename_i xs ys
  split at hc
  ·cases hc
  ·rename_i hg
   simp only [Option.map_eq_some_iff] at hc
   obtain ⟨r, hr, rfl⟩ := hc
   have e := eqs hr
   cases ru; cases rv
   exact ⟨run_eqGuard (by simp) (.inr (by simpa using hg)), _, by simp [binOp, e], .bool _⟩
 ·simp only [Option.map_eq_some_iff] at hc
  obtain ⟨r, hr, rfl⟩ := hc
  have e := eqs hr
  cases ru; cases rv
  exact ⟨run_eqGuard (by simp) (.inl (by simp)), _, by simp [binOp, e], .bool _⟩
 ·simp only [Option.map_eq_some_iff] at hc
  obtain ⟨r, hr, rfl⟩ := hc
  have e := eqs hr
  cases ru; cases rv
  exact ⟨run_eqGuard (by simp) (.inl (by simp)), _, by simp [binOp, e], .bool _⟩
 ·simp only [Option.map_eq_some_iff] at hc
  obtain ⟨r, hr, rfl⟩ := hc
  have e := eqs hr
  cases ru; cases rv
  exact ⟨run_eqGuard (by simp) (.inl (by simp)), _, by simp [binOp, e], .bool _⟩
 ·simp only [Option.map_eq_some_iff] at hc
  obtain ⟨r, hr, rfl⟩ := hc
  have e := eqs hr
  cases ru; cases rv
  exact ⟨run_eqGuard (by simp) (.inl (by simp)), _, by simp [binOp, e], .bool _⟩
 ·simp only [Option.map_eq_some_iff] at hc
  obtain ⟨r, hr, rfl⟩ := hc
  have e := eqs hr
  cases ru; cases rv
  exact ⟨run_eqGuard (by simp) (.inl (by simp)), _, by simp [binOp, e], .bool _⟩
 ·simp only [Option.map_eq_some_iff] at hc
  obtain ⟨r, hr, rfl⟩ := hc
  have e := eqs hr
  cases ru; cases rv
  exact ⟨run_eqGuard (by simp) (.inl (by simp)), _, by simp [binOp, e], .bool _⟩
 all_goals try (cases ru; cases rv; simp at hc; subst hc; exact ⟨run_eqGuard (by simp) (.inl (by simp)), _, by simp [binOp, Op.stringOp], .bool _⟩)
 ·rename_i s1 s2
  cases ru; cases rv
  split at hc
  ·rename_i hle
   simp at hc; subst hc
   refine ⟨run_eqGuard (by simp) (.inl (by simp)), _, ?_, .str _⟩
   have : ¬ (((s1.size + s2.size : Nat) : Int) > IntKind.i64.max) := by simp [IntKind.max, IntKind.signed, IntKind.bits]; omega
   simp only [binOp, Op.stringOp]
   rw [if_neg this]; rfl
  ·cases hc
 ·cases hc

end Go.Pm

/- Part QmF. -/
namespace Go.Pm
open Go Go.RowKit

variable {P : Program} {C : Cx} {F F' : Fz} {φ φ' : Nat → Nat × Nat} {h h' : Hp} {w w' : World}

theorem sim_unOp (H : RH P C F φ h w) {op : UnOp} {a c : TV} {u : Value} (hc : unT op a = some c) (ru : RepT F a u) :
  Sim P C h (((do pure (Next.value (← Op.unary op u))) : Sem Next).run P w) (.t c) [] := by
 unfold unT at hc
 split at hc
 ·cases ru; simp at hc; subst hc
  exact Sim.quiet H (by simp [Op.unary, Op.intArith]) (RepT.int _ _)
 ·cases ru; simp at hc; subst hc
  exact Sim.quiet H (by simp [Op.unary]) (RepT.bool _)
 ·cases hc

theorem sim_convert (H : RH P C F φ h w) {src dst : TypeId} {k0 k k' : IntKind} {n : Int} (hd : kindO P dst = some k) (hs : P.underlying src = some (.int k')) :
  Sim P C h (((do pure (Next.value (← convert src dst (.int k0 n)))) : Sem Next).run P w) (.t (.int k (k.wrap n))) [] := by
 unfold kindO at hd
 split at hd
 ·rename_i k1 hk; cases hd
  exact Sim.quiet H (by simp [convert, run_underlying' hs, run_underlying' hk, Conv.intToInt]) (RepT.int _ _)
 ·cases hd

theorem sim_makeInterface (H : RH P C F φ h w) {t : TypeId} {d : TypeDesc} {x : TV} {u : Value} (hd : P.underlying t = some d) (hn : ∀ ms, d ≠ .interface ms) (ru : RepT F x u) :
  Sim P C h (((do pure (Next.value (← Instr.makeInterface t u))) : Sem Next).run P w) (.t (.ifc t x)) [] := by
 refine Sim.quiet H (u := .iface t u) ?_ (RepT.ifc t x u ru)
 have : P.concrete t = true := by
  unfold Program.concrete; rw [hd]; cases d <;> first | rfl | exact absurd rfl (hn _)
 simp [run_makeInterface w t u this]

theorem fieldO_some {s f o : Nat} {ft : TypeId} (hf : fieldO P s f = some (o, ft)) : ∃ fs fld, P.underlying s = some (.struct fs) ∧ fs[f]? = some fld ∧ fld.offset = o ∧ fld.type = ft := by
 unfold fieldO at hf
 split at hf
 ·rename_i fs hs
  simp only [Option.map_eq_some_iff] at hf
  obtain ⟨fld, h1, h2⟩ := hf
  simp at h2
  exact ⟨fs, fld, hs, h1, h2.1, h2.2⟩
 ·cases hf

theorem run_fieldAt {s f o : Nat} {ft : TypeId} {a : Addr} (hf : fieldO P s f = some (o, ft)) (hn : ¬ (szO P ft).getD 0 = 0) :
  (Instr.fieldAt s (.pointer (some a)) f).run P w = .ok (.pointer (some (a.add o))) w := by
 obtain ⟨fs, fld, h1, h2, rfl, rfl⟩ := fieldO_some hf
 cases hs : szO P fld.type with
 | none => rw [hs] at hn; simp at hn
 | some n =>
  rw [hs] at hn; simp at hn
  simp [Instr.fieldAt, run_underlying' h1, h2, Instr.sureAddr, fieldPlace, run_sizeOf' hs, hn]

theorem RepT.cptr_drop {cs : List TV} {a : Addr} (k : Nat) (hr : RepT F (.cptr cs) (.pointer (some a))) : RepT F (.cptr (cs.drop k)) (.pointer (some (a.add k))) := by
 cases hr with
 | cptr _ _ us hl hF hr =>
  refine .cptr _ _ (us.drop k) (by simp [hl]) (fun i u hu => ?_) (RepL.drop ⟨hl, hr⟩ k).2
  rw [List.getElem?_drop] at hu
  rw [add_add]; exact hF _ _ hu

theorem sim_fieldAddr_ptr (H : RH P C F φ h w) {s f o id off : Nat} {ft : TypeId} (hf : fieldO P s f = some (o, ft)) (hn : ¬ (szO P ft).getD 0 = 0) (hb : isBox h id) :
  Sim P C h (((do pure (Next.value (← Instr.fieldAt s (.pointer (some ⟨(φ id).1, off, none⟩)) f))) : Sem Next).run P w) (.ptr id (off + o)) [] := by
 refine Sim.quiet H (u := .pointer (some ⟨(φ id).1, off + o, none⟩)) ?_ ⟨hb, rfl⟩
 simp [run_fieldAt hf hn, add_plain]
theorem addr_add_spot {a : Addr} {b o n : Nat} (h : a = ⟨b, o, none⟩) : a.add n = ⟨b, o + n, none⟩ := by rw [h, add_plain]
theorem gptr_add {id ver off k : Nat} {u : Value} (hb : RepP F φ h (.gptr id ver off) u) : ∃ a, u = .pointer (some a) ∧ RepP F φ h (.gptr id ver (off + k)) (.pointer (some (a.add k))) := by
 obtain ⟨v, e, sz, a, g1, g2, rfl, g4⟩ := hb
 exact ⟨a, rfl, v, e, sz, _, g1, g2, rfl, fun e => addr_add_spot (g4 e)⟩
theorem sim_fieldAddr_gptr (H : RH P C F φ h w) {s f o id ver off : Nat} {ft : TypeId} {u : Value} (hf : fieldO P s f = some (o, ft)) (hn : ¬ (szO P ft).getD 0 = 0) (hb : RepP F φ h (.gptr id ver off) u) :
  Sim P C h (((do pure (Next.value (← Instr.fieldAt s u f))) : Sem Next).run P w) (.gptr id ver (off + o)) [] := by
 obtain ⟨a, rfl, h1⟩ := gptr_add (k := o) hb
 exact Sim.quiet H (by simp [run_fieldAt hf hn]) h1
theorem sim_fieldAddr_cptr (H : RH P C F φ h w) {s f o : Nat} {ft : TypeId} {cs : List TV} {u : Value} (hf : fieldO P s f = some (o, ft)) (hn : ¬ (szO P ft).getD 0 = 0) (hr : RepT F (.cptr cs) u) :
  Sim P C h (((do pure (Next.value (← Instr.fieldAt s u f))) : Sem Next).run P w) (.t (.cptr (cs.drop o))) [] := by
 have hr' := hr
 cases hr' with
 | cptr _ a us hl hF hrr =>
  refine Sim.quiet H (u := .pointer (some (a.add o))) ?_ (RepT.cptr_drop o hr)
  simp [run_fieldAt hf hn]

theorem sim_field (H : RH P C F φ h w) {s f o : Nat} {ft : TypeId} {cs : List TV} {u : Value} {x : TV} (hf : fieldO P s f = some (o, ft)) (hx : partT P ft cs o = some x) (hr : RepT F (.agg cs) u) :
  Sim P C h (((do pure (Next.value (← Instr.field s u f))) : Sem Next).run P w) (.t x) [] := by
 obtain ⟨fs, fld, h1, h2, rfl, rfl⟩ := fieldO_some hf
 cases hr with
 | agg _ us hl ho hrr =>
  obtain ⟨v, hv, rv⟩ := part_rep (P := P) (w := w) hx ⟨hl, hrr⟩ ho
  refine Sim.quiet H (u := v) ?_ rv
  simp [Instr.field, run_underlying' h1, h2, asAgg, hv]

theorem sim_field_cons (H : RH P C F φ h w) {s f o : Nat} {ft : TypeId} {p : PV} {cs : List PV} {u : Value} {x : PV} (hf : fieldO P s f = some (o, ft)) (hp : pcells p = some cs) (hx : loadB P ft cs o = some x) (hr : RepP F φ h p u) (hu : ∃ us, u = .agg us) :
  Sim P C h (((do pure (Next.value (← Instr.field s u f))) : Sem Next).run P w) x [] := by
 obtain ⟨fs, fld, h1, h2, rfl, rfl⟩ := fieldO_some hf
 obtain ⟨us, rfl⟩ := hu
 obtain ⟨e1, e2⟩ := pcells_rep hp hr
 simp only [Value.cells] at e1 e2
 have key : ∃ v, (part fld.type us fld.offset).run P w = .ok v w ∧ RepP F φ h x v := by
  unfold loadB at hx
  split at hx
  ·rename_i ha
   split at hx
   ·rename_i n hn
    split at hx
    ·rename_i hle
     cases hx
     refine ⟨.agg (us.extract fld.offset (fld.offset + n)), ?_, ?_⟩
     ·simp [part, run_isAgg' ha, run_sizeOf' hn]
     ·have := aggP_rep (F := F) (φ := φ) (h := h) (b := false) (ps := (cs.drop fld.offset).take n) (us := (us.toList.drop fld.offset).take n) (by simp only [List.length_take, List.length_drop, e1]) (fun i c u hc hu => by
       rw [List.getElem?_take] at hc hu
       split at hc
       ·rename_i hi
        rw [if_pos hi] at hu
        rw [List.getElem?_drop] at hc hu
        exact ⟨(e2 _ c u hc hu).1, fun _ => (e2 _ c u hc hu).2⟩
       ·cases hc)
      have e : (us.extract fld.offset (fld.offset + n)) = ((us.toList.drop fld.offset).take n).toArray := by
       apply Array.ext'; simp [List.take_drop]
      rw [e]; exact this
    ·cases hx
   ·cases hx
  ·rename_i ha
   have hlt : fld.offset < us.toList.length := by rw [e1]; exact (List.getElem?_eq_some_iff.1 hx).1
   refine ⟨us.toList[fld.offset], ?_, (e2 _ x _ hx (List.getElem?_eq_getElem hlt)).1⟩
   have : us[fld.offset]? = some us.toList[fld.offset] := by rw [← Array.getElem?_toList, List.getElem?_eq_getElem hlt]
   simp only [part, Sem.run_bind, run_isAgg' ha, Result.andThen_ok, Bool.false_eq_true, if_false, this, Sem.run_pure]
  ·cases hx
 obtain ⟨v, hv, rv⟩ := key
 refine Sim.quiet H (u := v) ?_ rv
 simp [Instr.field, run_underlying' h1, h2, asAgg, hv]

theorem arrayO_some {t n : Nat} {e : TypeId} (ha : arrayO P t = some (n, e)) : P.underlying t = some (.array n e) := by
 unfold arrayO at ha
 split at ha
 ·rename_i h1; simp at ha; rw [h1, ha.1, ha.2]
 ·cases ha
theorem sliceO_some {t : Nat} {e : TypeId} (ha : sliceO P t = some e) : P.underlying t = some (.slice e) := by
 unfold sliceO at ha
 split at ha
 ·rename_i h1; simp at ha; rw [h1, ha]
 ·cases ha

theorem run_indexAt_array {t n sz : Nat} {e : TypeId} {k : IntKind} {i : Int} {a : Addr} (ha : arrayO P t = some (n, e)) (hs : szO P e = some sz) (hi : 0 ≤ i ∧ i < n) :
  (Instr.indexAt t (.pointer (some a)) (.int k i)).run P w = .ok (.pointer (some (a.add (i.toNat * sz)))) w := by
 simp [Instr.indexAt, asIntOf, run_underlying' (arrayO_some ha), Instr.sureAddr, hi, run_sizeOf' hs]
theorem run_indexAt_slice {t n sz c : Nat} {e : TypeId} {k : IntKind} {i : Int} {a : Addr} (ha : sliceO P t = some e) (hs : szO P e = some sz) (hi : 0 ≤ i ∧ i < n) :
  (Instr.indexAt t (.slice (some a) n c) (.int k i)).run P w = .ok (.pointer (some (a.add (i.toNat * sz)))) w := by
 simp [Instr.indexAt, asIntOf, run_underlying' (sliceO_some ha), hi, run_sizeOf' hs]

theorem RepT.sl_drop {cs : List TV} {n : Nat} {f : Bool} {u : Value} (k : Nat) (hr : RepT F (.sl cs n f) u) : ∃ a cap, u = .slice (some a) n cap ∧ RepT F (.cptr (cs.drop k)) (.pointer (some (a.add k))) := by
 cases hr with
 | sl _ _ _ a cap us hl hF hr _ _ _ => exact ⟨a, cap, rfl, RepT.cptr_drop k (.cptr cs a us hl hF hr)⟩

theorem sim_indexAddr (H : RH P C F φ h w) {t : TypeId} {k : IntKind} {i : Int} {x v : PV} {u : Value} (hv : indexO P t x i = some v) (hr : RepP F φ h x u) :
  Sim P C h (((do pure (Next.value (← Instr.indexAt t u (.int k i)))) : Sem Next).run P w) v [] := by
 have slice_case : ∀ (cs : List TV) (n : Nat) (f : Bool) (e : TypeId), RepT F (.sl cs n f) u → sliceO P t = some e →
   (match szO P e with | some sz => if 0 ≤ i ∧ i < n then some (PV.t (.cptr (cs.drop (i.toNat * sz)))) else none | none => none) = some v →
   Sim P C h (((do pure (Next.value (← Instr.indexAt t u (.int k i)))) : Sem Next).run P w) v [] := by
  intro cs n f e hr hs hv
  split at hv
  ·rename_i sz hsz
   split at hv
   ·rename_i hi
    cases hv
    obtain ⟨a, cap, rfl, hp⟩ := hr.sl_drop (i.toNat * sz)
    exact Sim.quiet H (by simp [run_indexAt_slice hs hsz hi]) hp
   ·cases hv
  ·cases hv
 unfold indexO at hv
 split at hv
 ·rename_i id off
  obtain ⟨hb, rfl⟩ := hr
  split at hv
  ·rename_i n e ha
   split at hv
   ·rename_i sz hs
    split at hv
    ·rename_i hi; cases hv
     exact Sim.quiet H (u := .pointer (some ⟨(φ id).1, off + i.toNat * sz, none⟩)) (by simp [run_indexAt_array ha hs hi, add_plain]) ⟨hb, rfl⟩
    ·cases hv
   ·cases hv
  ·cases hv
 ·rename_i cs
  split at hv
  ·rename_i n e ha
   split at hv
   ·rename_i sz hs
    split at hv
    ·rename_i hi; cases hv
     have hr' : RepT F (.cptr cs) u := hr
     have hr2 := hr'
     cases hr2 with
     | cptr _ a us hl hF hrr =>
      exact Sim.quiet H (u := .pointer (some (a.add (i.toNat * sz)))) (by simp [run_indexAt_array ha hs hi]) (RepT.cptr_drop _ hr')
    ·cases hv
   ·cases hv
  ·cases hv
 ·rename_i id ver off
  split at hv
  ·rename_i n e ha
   split at hv
   ·rename_i sz hs
    split at hv
    ·rename_i hi; cases hv
     obtain ⟨a, rfl, h1⟩ := gptr_add (k := i.toNat * sz) hr
     exact Sim.quiet H (by simp [run_indexAt_array ha hs hi]) h1
    ·cases hv
   ·cases hv
  ·cases hv
 ·rename_i id ver sz o n full
  split at hv
  ·rename_i e hs
   split at hv
   ·rename_i hc
    cases hv
    obtain ⟨hsz, hi⟩ := hc
    obtain ⟨v, e', cap, a, g1, g2, rfl, g4, g5, g6, g7⟩ := hr
    refine Sim.quiet H (u := .pointer (some (a.add (i.toNat * sz)))) (by simp [run_indexAt_slice hs hsz hi]) ⟨v, e', sz, _, g1, g2, rfl, fun e => ?_⟩
    rw [addr_add_spot ((g7 e).2.1 (by omega)), Nat.add_mul]
   ·cases hv
  ·cases hv
 ·rename_i cs n id
  split at hv
  ·rename_i e hs
   rcases Nat.eq_zero_or_pos n with h0 | h0
   ·subst h0
    split at hv
    ·split at hv
     ·omega
     ·cases hv
    ·cases hv
   ·exact slice_case cs n false e (hr.2.1 h0) hs hv
  ·cases hv
 ·split at hv
  ·rename_i cs n f e ht hs
   exact slice_case cs n f e (PV.toT_rep ht hr) hs hv
  ·cases hv

theorem sim_index_agg (H : RH P C F φ h w) {t n sz : Nat} {e : TypeId} {k : IntKind} {i : Int} {cs : List TV} {x : TV} {u : Value} (ha : arrayO P t = some (n, e)) (hs : szO P e = some sz) (hi : 0 ≤ i ∧ i < n)
  (hx : partT P e cs (i.toNat * sz) = some x) (hr : RepT F (.agg cs) u) : Sim P C h (((do pure (Next.value (← Instr.index t u (.int k i)))) : Sem Next).run P w) (.t x) [] := by
 cases hr with
 | agg _ us hl ho hrr =>
  obtain ⟨v, hv, rv⟩ := part_rep (P := P) (w := w) hx ⟨hl, hrr⟩ ho
  refine Sim.quiet H (u := v) ?_ rv
  simp [Instr.index, asIntOf, run_underlying' (arrayO_some ha), hi, run_sizeOf' hs, hv]
theorem sim_index_str (H : RH P C F φ h w) {t : Nat} {k : IntKind} {i : Int} {s : ByteArray} (ht : P.underlying t = some .string) (hi : 0 ≤ i ∧ i < s.size) :
  Sim P C h (((do pure (Next.value (← Instr.index t (.string s) (.int k i)))) : Sem Next).run P w) (.t (.int .u8 (s.data.getD i.toNat 0).toNat)) [] := by
 refine Sim.quiet H (u := .int .u8 (s.data.getD i.toNat 0).toNat) ?_ (RepT.int _ _)
 have hlt : i.toNat < s.size := by omega
 have e : s[i.toNat]? = some (s.data.getD i.toNat 0) := by
  rw [getElem?_pos s i.toNat hlt]
  have hlt' : i.toNat < s.data.size := hlt
  simp only [Array.getD, hlt', dif_pos]
  rfl
 simp [Instr.index, asIntOf, run_underlying' ht, hi.1, e]

theorem boundO_some {x : Option PV} {d top b : Nat} (hb : boundO x d top = some b) : (x = none ∧ b = d) ∨ ∃ k i, x = some (.t (.int k i)) ∧ 0 ≤ i ∧ i ≤ top ∧ b = i.toNat := by
 unfold boundO at hb
 split at hb
 ·cases hb; exact .inl ⟨rfl, rfl⟩
 ·rename_i k i
  split at hb
  ·rename_i h1; cases hb; exact .inr ⟨k, i, rfl, h1.1, h1.2, rfl⟩
  ·cases hb
 ·cases hb
def RepOp (F : Fz) (φ : Nat → Nat × Nat) (h : Hp) (x : Option PV) (u : Option Value) : Prop :=
 match x, u with
 | none, none => True
 | some p, some v => RepP F φ h p v
 | _, _ => False
theorem boundO_val {x : Option PV} {u : Option Value} {d top b : Nat} (hb : boundO x d top = some b) (hr : RepOp F φ h x u) :
  (x = none ∧ u = none ∧ b = d) ∨ ∃ k i, x.isSome = true ∧ u = some (.int k i) ∧ 0 ≤ i ∧ i ≤ top ∧ b = i.toNat := by
 rcases boundO_some hb with ⟨rfl, rfl⟩ | ⟨k, i, rfl, h1, h2, h3⟩
 ·cases u with
  | none => exact .inl ⟨rfl, rfl, rfl⟩
  | some v => cases hr
 ·cases u with
  | none => cases hr
  | some v => cases hr; exact .inr ⟨k, i, rfl, rfl, h1, h2, h3⟩
theorem run_sliceBound {k : IntKind} {i : Int} {y : Nat} {c : BoundsCode} (h0 : 0 ≤ i) (h1 : i ≤ y) : (Instr.sliceBound (.int k i) y c).run P w = .ok i.toNat w := by
 simp [Instr.sliceBound, asIntOf, h0, h1]

theorem run_bounds {s : Bool} {len cap a b c : Nat} {lo hi mx : Option PV} {ul uh um : Option Value} (hl : RepOp F φ h lo ul) (hh : RepOp F φ h hi uh) (hm : RepOp F φ h mx um)
  (hb : boundO hi len len = some b) (hc : boundO mx len len = some c) (ha : boundO lo 0 b = some a) (hcap : len ≤ cap) (hmx : mx.isSome = true → c = b ∧ hi.isSome = true) :
  (Instr.sliceBounds s len cap ul uh um).run P w = .ok (a, b, if mx.isSome then c else cap) w := by
 rcases boundO_val hc hm with ⟨rfl, rfl, rfl⟩ | ⟨k3, i3, hs, rfl, m1, m2, rfl⟩
 ·rcases boundO_val hb hh with ⟨rfl, rfl, rfl⟩ | ⟨k2, i2, hs2, rfl, n1, n2, rfl⟩
  ·rcases boundO_val ha hl with ⟨rfl, rfl, rfl⟩ | ⟨k1, i1, hs1, rfl, p1, p2, rfl⟩
   ·simp [Instr.sliceBounds]
   ·simp [Instr.sliceBounds, run_sliceBound p1 p2]
  ·have n3 : i2 ≤ (cap : Int) := by omega
   rcases boundO_val ha hl with ⟨rfl, rfl, rfl⟩ | ⟨k1, i1, hs1, rfl, p1, p2, rfl⟩
   ·simp [Instr.sliceBounds, run_sliceBound n1 n3]
   ·simp [Instr.sliceBounds, run_sliceBound n1 n3, run_sliceBound p1 p2]
 ·obtain ⟨hcb, hhs⟩ := hmx hs
  have m3 : i3 ≤ (cap : Int) := by omega
  rcases boundO_val hb hh with ⟨rfl, rfl, rfl⟩ | ⟨k2, i2, hs2, rfl, n1, n2, rfl⟩
  ·cases hhs
  ·have n3 : i2 ≤ (i3.toNat : Int) := by omega
   rcases boundO_val ha hl with ⟨rfl, rfl, rfl⟩ | ⟨k1, i1, hs1, rfl, p1, p2, rfl⟩
   ·simp [Instr.sliceBounds, run_sliceBound m1 m3, run_sliceBound n1 n3, hs]
   ·simp [Instr.sliceBounds, run_sliceBound m1 m3, run_sliceBound n1 n3, run_sliceBound p1 p2, hs]

theorem boundO_le {x : Option PV} {d top b : Nat} (hd : d ≤ top) (hb : boundO x d top = some b) : b ≤ top := by
 rcases boundO_some hb with ⟨_, rfl⟩ | ⟨k, i, _, h1, h2, rfl⟩
 ·exact hd
 ·omega

theorem sim_slice (H : RH P C F φ h w) {t : TypeId} {x v : TV} {u : Value} {lo hi mx : Option PV} {ul uh um : Option Value} (hl : RepOp F φ h lo ul) (hh : RepOp F φ h hi uh) (hm : RepOp F φ h mx um)
  (hv : sliceX P t x lo hi mx = some v) (hr : RepT F x u) : Sim P C h (((do pure (Next.value (← Instr.sliceAt t u ul uh um))) : Sem Next).run P w) (.t v) [] := by
 unfold sliceX at hv
 split at hv
 ·rename_i e cs n f ht
  split at hv
  ·rename_i sz b c hsz hb hc
   split at hv
   ·rename_i a ha
    split at hv
    ·cases hv
    ·rename_i hcond
     split at hv
     ·rename_i hlen
      cases hv
      have hmx : mx.isSome = true → c = b ∧ hi.isSome = true := fun hs => by
       refine ⟨?_, ?_⟩
       ·rcases Nat.decEq c b with hne | he
        ·exact absurd ⟨hs, .inl hne⟩ hcond
        ·exact he
       ·cases hhi : hi with
        | none => exact absurd ⟨hs, .inr (by simp [hhi])⟩ hcond
        | some _ => rfl
      cases hr with
      | sl _ _ _ ad cap us hul hF hrr h1 h2 h3 =>
       have hbn : b ≤ n := boundO_le (Nat.le_refl _) hb
       have hab : a ≤ b := boundO_le (Nat.zero_le _) ha
       have hrun := run_bounds (P := P) (w := w) (s := true) hl hh hm hb hc ha h1 hmx
       have hmc : b ≤ (if mx.isSome = true then c else cap) := by
        split
        ·rename_i hs; rw [(hmx hs).1]; exact Nat.le_refl _
        ·omega
       have hmcap : (if mx.isSome = true then c else cap) ≤ cap := by
        split
        ·rename_i hs; rw [(hmx hs).1]; omega
        ·omega
       generalize hM : (if mx.isSome = true then c else cap) = M at hrun hmc hmcap
       have hR : RepL F ((cs.take (b * sz)).drop (a * sz)) ((us.take (b * sz)).drop (a * sz)) := (RepL.take ⟨hul, hrr⟩ _).drop _
       refine Sim.quiet H (u := .slice (some (if M = a then ad else ad.add (a * sz))) (b - a) (M - a)) ?_ ?_
       ·simp only [Sem.run_bind, Instr.sliceAt, run_underlying' ht, Result.andThen_ok, Instr.slice, hrun, run_sizeOf' hsz, Sem.run_pure]
        split <;> rfl
       ·refine .sl _ _ _ _ _ ((us.take (b * sz)).drop (a * sz)) hR.1 (fun i z hz => ?_) hR.2 (by omega) (fun hs => ?_) (by omega)
        ·rw [List.getElem?_drop, List.getElem?_take] at hz
         split at hz
         ·rename_i hlt
          have hne : ¬ M = a := by
           intro e
           have : b * sz ≤ a * sz := Nat.mul_le_mul_right _ (by omega)
           omega
          rw [if_neg hne, add_add]
          exact hF _ _ hz
         ·cases hz
        ·rw [← hM, if_pos hs, (hmx hs).1]
     ·cases hv
   ·cases hv
  ·cases hv
 ·rename_i e ht
  split at hv
  ·rename_i b a c sz hb ha hc hsz
   split at hv
   ·cases hv
   ·rename_i hcond
    cases hv
    cases hr with
    | nilSl =>
     have hb0 : b = 0 := Nat.le_zero.1 (boundO_le (Nat.le_refl _) hb)
     have hc0 : c = 0 := Nat.le_zero.1 (boundO_le (Nat.le_refl _) hc)
     subst hb0; subst hc0
     have ha0 : a = 0 := Nat.le_zero.1 (boundO_le (Nat.le_refl _) ha)
     subst ha0
     have hmx : mx.isSome = true → 0 = 0 ∧ hi.isSome = true := fun hs => ⟨rfl, by
      cases hhi : hi with
      | none => exact absurd ⟨hs, by simp [hhi]⟩ hcond
      | some _ => rfl⟩
     have hrun := run_bounds (P := P) (w := w) (s := true) (cap := 0) hl hh hm hb hc ha (Nat.le_refl _) hmx
     refine Sim.quiet H (u := .slice none 0 0) ?_ .nilSl
     simp only [Sem.run_bind, Instr.sliceAt, run_underlying' ht, Result.andThen_ok, Instr.slice, hrun, run_sizeOf' hsz, Sem.run_pure]
     simp
  ·cases hv
 ·rename_i s ht
  split at hv
  ·cases hv
  ·rename_i hmx
   split at hv
   ·rename_i b hb
    simp only [Option.map_eq_some_iff] at hv
    obtain ⟨a, ha, rfl⟩ := hv
    cases hr with
    | str =>
     have hmn : mx = none := by cases mx <;> simp at hmx ⊢
     subst hmn
     have hum : um = none := by cases um with | none => rfl | some _ => cases hm
     subst hum
     have hrun := run_bounds (P := P) (w := w) (s := false) (cap := s.size) (mx := none) (c := s.size) hl hh hm hb rfl ha (Nat.le_refl _) (by simp)
     refine Sim.quiet H (u := .string (s.extract a b)) ?_ (.str _)
     simp only [Sem.run_bind, Instr.sliceAt, run_underlying' ht, Result.andThen_ok, Instr.slice, Option.isSome_none, Bool.false_eq_true, if_false, hrun, Sem.run_pure]
   ·cases hv
 ·cases hv

theorem sim_sliceG (H : RH P C F φ h w) {t : TypeId} {id ver sz o n : Nat} {full : Bool} {v : PV} {u : Value} {lo hi mx : Option PV} {ul uh um : Option Value} (hl : RepOp F φ h lo ul) (hh : RepOp F φ h hi uh) (hm : RepOp F φ h mx um)
  (hv : sliceG P t id ver sz o n full lo hi mx = some v) (hr : RepP F φ h (.gsl id ver sz o n full) u) : Sim P C h (((do pure (Next.value (← Instr.sliceAt t u ul uh um))) : Sem Next).run P w) v [] := by
 unfold sliceG at hv
 split at hv
 ·rename_i e hs
  split at hv
  ·rename_i b c hb hc
   split at hv
   ·rename_i a ha
    split at hv
    ·rename_i hsz
     obtain ⟨vv, e', cap, ad, g1, g2, rfl, g4, g5, g6, g7⟩ := hr
     have hbn : b ≤ n := boundO_le (Nat.le_refl _) hb
     have hab : a ≤ b := boundO_le (Nat.zero_le _) ha
     have hmx : ∀ (q : PV), (if mx.isSome = true then (if c = b ∧ hi.isSome = true then some (PV.gsl id ver sz (o + a) (b - a) true) else none)
       else if full = true then (if b = n then some (.gsl id ver sz (o + a) (b - a) true) else none) else some (.gsl id ver sz (o + a) (b - a) false)) = some q → mx.isSome = true → c = b ∧ hi.isSome = true := fun q hq hs => by
      rw [if_pos hs] at hq
      split at hq
      ·assumption
      ·cases hq
     have hrun := run_bounds (P := P) (w := w) (s := true) hl hh hm hb hc ha g4 (hmx v hv)
     generalize hM : (if mx.isSome = true then c else cap) = M at hrun
     have hmc : b ≤ M ∧ M ≤ cap := by
      rw [← hM]
      split
      ·rename_i hs; have := hmx v hv hs; omega
      ·omega
     have hu : (((do pure (Next.value (← Instr.sliceAt t (.slice (some ad) n cap) ul uh um))) : Sem Next).run P w) = .ok (.value (.slice (some (if M = a then ad else ad.add (a * sz))) (b - a) (M - a))) w := by
      simp only [Sem.run_bind, Instr.sliceAt, run_underlying' (sliceO_some hs), Result.andThen_ok, Instr.slice, hrun, run_sizeOf' hsz, Sem.run_pure]
      split <;> rfl
     have fin : ∀ f : Bool, (f = true → M = b) → (f = false → full = false ∧ M = cap) → Sim P C h (((do pure (Next.value (← Instr.sliceAt t (.slice (some ad) n cap) ul uh um))) : Sem Next).run P w) (.gsl id ver sz (o + a) (b - a) f) [] := by
      intro f hf1 hf2
      refine Sim.quiet H hu ⟨vv, e', M - a, _, g1, g2, rfl, by omega, by omega, fun hf => by rw [hf1 hf], fun ev => ?_⟩
      obtain ⟨k1, k2, k3⟩ := g7 ev
      refine ⟨by omega, fun hpos => ?_, fun hf => ?_⟩
      ·rw [if_neg (by omega), addr_add_spot (k2 (by omega)), Nat.add_mul]
      ·obtain ⟨q1, q2⟩ := hf2 hf
       have := k3 q1; omega
     split at hv
     ·rename_i hs
      split at hv
      ·rename_i hcb
       cases hv
       exact fin true (fun _ => by rw [← hM, if_pos hs]; exact hcb.1) (fun e => by cases e)
      ·cases hv
     ·rename_i hs
      split at hv
      ·rename_i hf
       split at hv
       ·rename_i hb
        cases hv
        exact fin true (fun _ => by rw [← hM, if_neg hs, g6 hf, hb]) (fun e => by cases e)
       ·cases hv
      ·rename_i hf
       cases hv
       exact fin false (fun e => by cases e) (fun _ => ⟨by simpa using hf, by rw [← hM, if_neg hs]⟩)
    ·cases hv
   ·cases hv
  ·cases hv
 ·cases hv

end Go.Pm

/- Part QmG. -/
namespace Go.Pm
open Go Go.RowKit

variable {P : Program} {C : Cx} {F F' : Fz} {φ φ' : Nat → Nat × Nat} {h h' : Hp} {w w' : World}

theorem fold_set (off : Nat) : ∀ (vs : List Value) (k : Nat) (cs : Array Value), off + k + vs.length ≤ cs.size →
  (vs.zipIdx k).foldl (fun (cs : Array Value) (p : Value × Nat) => cs.setIfInBounds (off + p.2) p.1) cs = (cs.toList.take (off + k) ++ vs ++ cs.toList.drop (off + k + vs.length)).toArray
 | [], k, cs, _ => by simp
 | v :: vs, k, cs, hle => by
  simp only [List.zipIdx_cons, List.foldl_cons]
  rw [fold_set off vs (k + 1) _ (by simp at hle ⊢; omega)]
  have e := list_seg_step cs.toList (off + k) v vs (by simp at hle ⊢; omega)
  congr 1
  simpa [Array.toList_setIfInBounds, Nat.add_assoc] using e

def Ones (us : List Value) : Prop := ∀ (i : Nat) (u : Value), us[i]? = some u → u.oneCell' = true
theorem Ones.append {us vs : List Value} (h1 : Ones us) (h2 : Ones vs) : Ones (us ++ vs) := fun i u hu => by
 by_cases hi : i < us.length
 ·rw [List.getElem?_append_left hi] at hu; exact h1 _ _ hu
 ·rw [List.getElem?_append_right (by omega)] at hu; exact h2 _ _ hu
theorem Ones.take {us : List Value} (h1 : Ones us) (k : Nat) : Ones (us.take k) := fun i u hu => by
 rw [List.getElem?_take] at hu
 split at hu
 ·exact h1 _ _ hu
 ·cases hu
theorem Ones.drop {us : List Value} (h1 : Ones us) (k : Nat) : Ones (us.drop k) := fun i u hu => by
 rw [List.getElem?_drop] at hu; exact h1 _ _ hu

theorem fill_rep {place : Nat → Option (Nat × Nat)} : ∀ (parts : List (Nat × TV)) (vals : List (Nat × Value)) (cs cs' : List TV) (us : List Value),
  fillT place cs parts = some cs' → RepL F cs us → Ones us → vals.length = parts.length → (∀ (i : Nat) (p : Nat × TV) (v : Nat × Value), parts[i]? = some p → vals[i]? = some v → v.1 = p.1 ∧ RepT F p.2 v.2) →
  ∃ us', Instr.fill place us.toArray vals = some us'.toArray ∧ RepL F cs' us' ∧ Ones us'
 | [], vals, cs, cs', us, hf, hr, ho, hl, _ => by
  simp [fillT] at hf; subst hf
  have : vals = [] := List.eq_nil_of_length_eq_zero (by simpa using hl)
  subst this
  exact ⟨us, rfl, hr, ho⟩
 | (i, x) :: parts, [], cs, cs', us, _, _, _, hl, _ => by simp at hl
 | (i, x) :: parts, (j, v) :: vals, cs, cs', us, hf, hr, ho, hl, hp => by
  obtain ⟨e1, e2⟩ := hp 0 (i, x) (j, v) rfl rfl
  simp only at e1 e2; subst e1
  simp only [fillT] at hf
  split at hf
  ·cases hf
  ·rename_i off size hpl
   have hnt : ∀ vs, x ≠ .tup vs := by rintro vs rfl; simp at hf
   have hf' : (if x.cells.length ≠ size ∨ off + x.cells.length > cs.length then none else fillT place (cs.take off ++ x.cells ++ cs.drop (off + x.cells.length)) parts) = some cs' := by
    cases x <;> first | exact hf | exact absurd rfl (hnt _)
   split at hf'
   ·cases hf'
   ·rename_i hcond
    have hsz : x.cells.length = size := by
     rcases Nat.decEq x.cells.length size with hne | he
     ·exact absurd (.inl hne) hcond
     ·exact he
    have hle : off + x.cells.length ≤ cs.length := Nat.le_of_not_lt fun hlt => hcond (.inr hlt)
    obtain ⟨⟨c1, c2⟩, c3⟩ := RepT.cells e2 hnt
    have c1' : v.cells.size = x.cells.length := by simpa using c1
    have hus : us.length = cs.length := hr.1
    obtain ⟨us', g1, g2, g3⟩ := fill_rep parts vals _ cs' (us.take off ++ v.cells.toList ++ us.drop (off + x.cells.length)) hf' (((hr.take off).append ⟨c1, c2⟩).append (hr.drop _))
     (((ho.take off).append c3).append (ho.drop _)) (by simpa using hl) (fun i p v a b => hp (i + 1) p v (by simpa using a) (by simpa using b))
    refine ⟨us', ?_, g2, g3⟩
    simp only [Instr.fill, hpl]
    rw [if_neg (by simp only [List.size_toArray, ne_eq, Bool.or_eq_true, decide_eq_true_eq, c1', hus, hsz] at *; omega)]
    rw [← g1]
    congr 1
    have e := fold_set off v.cells.toList 0 us.toArray (by simp [c1', hus]; omega)
    simp only [Nat.add_zero] at e
    rw [← Array.foldl_toList, Array.toList_zipIdx]
    rw [e]
    simp [c1']

theorem partsO_some {ρp : Operand → PV} {ρv : Operand → Value} (hρ : ∀ x, RepP F φ h (ρp x) (ρv x)) {parts : Array (Nat × Operand)} {ps : List (Nat × TV)} (hp : partsO ρp parts = some ps) :
  ((parts.map fun (i, x) => (i, ρv x)).toList).length = ps.length ∧ ∀ (i : Nat) (p : Nat × TV) (v : Nat × Value), ps[i]? = some p → ((parts.map fun (i, x) => (i, ρv x)).toList)[i]? = some v → v.1 = p.1 ∧ RepT F p.2 v.2 := by
 obtain ⟨h1, h2⟩ := allO_some hp
 refine ⟨by simp [h1], fun i p v hpi hvi => ?_⟩
 simp only [Array.toList_map, List.getElem?_map, Option.map_eq_some_iff] at hvi
 obtain ⟨q, hq, rfl⟩ := hvi
 have e := h2 i q p hq hpi
 simp only [Option.map_eq_some_iff] at e
 obtain ⟨x, hx, rfl⟩ := e
 exact ⟨rfl, PV.toT_rep hx (hρ q.2)⟩

theorem run_places {fs : Array Field} {pl : List (Nat × Nat)} (hp : placesO P fs = some pl) :
  (fs.mapM (fun f => do pure (f.offset, ← sizeOf f.type)) : Sem (Array (Nat × Nat))).run P w = .ok pl.toArray w := by
 rw [Array.mapM_eq_mapM_toList]
 have key : ∀ (l : List Field) (pl : List (Nat × Nat)), allO (l.map fun f => (szO P f.type).map fun n => (f.offset, n)) = some pl →
   (l.mapM (fun f => do pure (f.offset, ← sizeOf f.type)) : Sem (List (Nat × Nat))).run P w = .ok pl w := by
  intro l
  induction l with
  | nil => intro pl hp; simp [allO] at hp; subst hp; simp
  | cons f l ih =>
   intro pl hp
   simp only [List.map_cons] at hp
   cases hn : szO P f.type with
   | none => rw [hn] at hp; simp [allO] at hp
   | some n =>
    rw [hn] at hp
    simp only [Option.map_some, allO, Option.map_eq_some_iff] at hp
    obtain ⟨pl', hp', rfl⟩ := hp
    simp only [List.mapM_cons, Sem.run_bind, run_sizeOf' hn, Result.andThen_ok, Sem.run_pure, ih pl' hp']
 have e := key fs.toList pl hp
 show ((Array.mk <$> (fs.toList.mapM (fun f => do pure (f.offset, ← sizeOf f.type)) : Sem (List (Nat × Nat)))) : Sem (Array (Nat × Nat))).run P w = _
 rw [Sem.run_map, e]
 rfl

theorem sim_build (H : RH P C F φ h w) {ρp : Operand → PV} {ρv : Operand → Value} (hρ : ∀ x, RepP F φ h (ρp x) (ρv x)) {t : TypeId} {parts : Array (Nat × Operand)} {ps : List (Nat × TV)} {x : TV}
  (hp : partsO ρp parts = some ps) (hx : buildO P t ps = some x) :
  Sim P C h (((do pure (Next.value (← Instr.build t (parts.map fun (i, x) => (i, ρv x))))) : Sem Next).run P w) (.t x) [] := by
 obtain ⟨hl, hps⟩ := partsO_some hρ hp
 unfold buildO at hx
 split at hx
 ·rename_i z fs hz hu
  split at hx
  ·rename_i pl hpl
   simp only [Option.map_eq_some_iff] at hx
   obtain ⟨cs, hcs, rfl⟩ := hx
   obtain ⟨i, zv, hi, hzz, hr, h1⟩ := zeroL_rep (F := F) hz
   obtain ⟨us', g1, g2, g3⟩ := fill_rep ps _ z cs zv.cells.toList hcs hr h1 hl hps
   refine Sim.quiet H (u := .agg us'.toArray) ?_ (.agg _ _ g2.1 g3 g2.2)
   have g1' : Instr.fill (fun x => pl[x]?) zv.cells (parts.map fun (i, x) => (i, ρv x)).toList = some us'.toArray := by simpa using g1
   simp only [Sem.run_bind, Instr.build, run_zeroValue' hi hzz, Result.andThen_ok, run_underlying' hu, run_places hpl, List.getElem?_toArray, g1', Sem.run_pure]
  ·cases hx
 ·rename_i z n e hz hu
  split at hx
  ·rename_i sz hsz
   simp only [Option.map_eq_some_iff] at hx
   obtain ⟨cs, hcs, rfl⟩ := hx
   obtain ⟨i, zv, hi, hzz, hr, h1⟩ := zeroL_rep (F := F) hz
   obtain ⟨us', g1, g2, g3⟩ := fill_rep ps _ z cs zv.cells.toList hcs hr h1 hl hps
   refine Sim.quiet H (u := .agg us'.toArray) ?_ (.agg _ _ g2.1 g3 g2.2)
   have g1' : Instr.fill (fun i => some (i * sz, sz)) zv.cells (parts.map fun (i, x) => (i, ρv x)).toList = some us'.toArray := by simpa using g1
   simp only [Sem.run_bind, Instr.build, run_zeroValue' hi hzz, Result.andThen_ok, run_underlying' hu, run_sizeOf' hsz, g1', Sem.run_pure]
  ·cases hx
 ·cases hx

def RepPs (F : Fz) (φ : Nat → Nat × Nat) (h : Hp) (cs : List PV) (us : List Value) : Prop := us.length = cs.length ∧ ∀ (i : Nat) (c : PV) (u : Value), cs[i]? = some c → us[i]? = some u → RepP F φ h c u ∧ u.oneCell' = true
theorem RepPs.append {cs ds : List PV} {us vs : List Value} (h1 : RepPs F φ h cs us) (h2 : RepPs F φ h ds vs) : RepPs F φ h (cs ++ ds) (us ++ vs) := by
 refine ⟨by simp [h1.1, h2.1], fun i c u hc hu => ?_⟩
 by_cases hi : i < cs.length
 ·rw [List.getElem?_append_left hi] at hc
  rw [List.getElem?_append_left (by rw [h1.1]; exact hi)] at hu
  exact h1.2 i c u hc hu
 ·rw [List.getElem?_append_right (by omega)] at hc
  rw [List.getElem?_append_right (by rw [h1.1]; omega), h1.1] at hu
  exact h2.2 _ c u hc hu
theorem RepPs.take {cs : List PV} {us : List Value} (h1 : RepPs F φ h cs us) (k : Nat) : RepPs F φ h (cs.take k) (us.take k) := by
 refine ⟨by simp [h1.1], fun i c u hc hu => ?_⟩
 rw [List.getElem?_take] at hc hu
 split at hc
 ·rename_i hi; rw [if_pos hi] at hu; exact h1.2 i c u hc hu
 ·cases hc
theorem RepPs.drop {cs : List PV} {us : List Value} (h1 : RepPs F φ h cs us) (k : Nat) : RepPs F φ h (cs.drop k) (us.drop k) := by
 refine ⟨by simp [h1.1], fun i c u hc hu => ?_⟩
 rw [List.getElem?_drop] at hc hu
 exact h1.2 _ c u hc hu
theorem fillP_rep {place : Nat → Option (Nat × Nat)} : ∀ (parts : List (Nat × PV)) (vals : List (Nat × Value)) (cs cs' : List PV) (us : List Value),
  fillP place cs parts = some cs' → RepPs F φ h cs us → vals.length = parts.length → (∀ (i : Nat) (p : Nat × PV) (v : Nat × Value), parts[i]? = some p → vals[i]? = some v → v.1 = p.1 ∧ RepP F φ h p.2 v.2) →
  ∃ us', Instr.fill place us.toArray vals = some us'.toArray ∧ RepPs F φ h cs' us'
 | [], vals, cs, cs', us, hf, hr, hl, _ => by
  simp [fillP] at hf; subst hf
  have : vals = [] := List.eq_nil_of_length_eq_zero (by simpa using hl)
  subst this
  exact ⟨us, rfl, hr⟩
 | (i, x) :: parts, [], cs, cs', us, _, _, hl, _ => by simp at hl
 | (i, x) :: parts, (j, v) :: vals, cs, cs', us, hf, hr, hl, hp => by
  obtain ⟨e1, e2⟩ := hp 0 (i, x) (j, v) rfl rfl
  simp only at e1 e2; subst e1
  simp only [fillP] at hf
  split at hf
  ·cases hf
  ·rename_i off size hpl
   split at hf
   ·cases hf
   ·rename_i xs hxs
    split at hf
    ·cases hf
    ·rename_i hcond
     have hsz : xs.length = size := by
      rcases Nat.decEq xs.length size with hne | he
      ·exact absurd (.inl hne) hcond
      ·exact he
     have hle : off + xs.length ≤ cs.length := Nat.le_of_not_lt fun hlt => hcond (.inr hlt)
     obtain ⟨c1, c2⟩ := pcells_rep hxs e2
     have c1' : v.cells.size = xs.length := by simpa using c1
     have hus : us.length = cs.length := hr.1
     obtain ⟨us', g1, g2⟩ := fillP_rep parts vals _ cs' (us.take off ++ v.cells.toList ++ us.drop (off + xs.length)) hf (((hr.take off).append ⟨c1, c2⟩).append (hr.drop _))
      (by simpa using hl) (fun i p v a b => hp (i + 1) p v (by simpa using a) (by simpa using b))
     refine ⟨us', ?_, g2⟩
     simp only [Instr.fill, hpl]
     rw [if_neg (by simp only [List.size_toArray, ne_eq, Bool.or_eq_true, decide_eq_true_eq, c1', hus, hsz] at *; omega)]
     rw [← g1]
     congr 1
     have e := fold_set off v.cells.toList 0 us.toArray (by simp [c1', hus]; omega)
     simp only [Nat.add_zero] at e
     rw [← Array.foldl_toList, Array.toList_zipIdx]
     rw [e]
     simp [c1']
theorem sim_buildP (H : RH P C F φ h w) {ρp : Operand → PV} {ρv : Operand → Value} (hρ : ∀ x, RepP F φ h (ρp x) (ρv x)) {t : TypeId} {parts : Array (Nat × Operand)} {cs : List PV}
  (hx : buildP P t (partsP ρp parts) = some cs) :
  Sim P C h (((do pure (Next.value (← Instr.build t (parts.map fun (i, x) => (i, ρv x))))) : Sem Next).run P w) (consP false cs) [] := by
 unfold buildP at hx
 split at hx
 ·rename_i z fs hz hu
  split at hx
  ·rename_i pl hpl
   obtain ⟨i, zv, hi, hzz, hr, h1⟩ := zeroL_rep (F := F) hz
   have hl : ((parts.map fun (i, x) => (i, ρv x)).toList).length = (partsP ρp parts).length := by simp [partsP]
   obtain ⟨us', g1, g2⟩ := fillP_rep (h := h) (φ := φ) (F := F) _ _ (z.map .t) cs zv.cells.toList hx ⟨by rw [List.length_map]; exact hr.1, fun i c u hc hu => by
    simp only [List.getElem?_map, Option.map_eq_some_iff] at hc
    obtain ⟨c', hc', rfl⟩ := hc
    exact ⟨hr.2 i c' u hc' hu, h1 i u hu⟩⟩ hl (fun i p v hp hv => by
     simp only [partsP, Array.toList_map, List.getElem?_map, Option.map_eq_some_iff] at hp hv
     obtain ⟨q, hq, rfl⟩ := hp
     obtain ⟨q', hq', rfl⟩ := hv
     rw [hq] at hq'; cases hq'
     exact ⟨rfl, hρ _⟩)
   have g1' : Instr.fill (fun x => pl[x]?) zv.cells (parts.map fun (i, x) => (i, ρv x)).toList = some us'.toArray := by simpa using g1
   refine ⟨F, φ, .agg us'.toArray, w, .inl ?_, H, ?_⟩
   ·simp only [Sem.run_bind, Instr.build, run_zeroValue' hi hzz, Result.andThen_ok, run_underlying' hu, run_places hpl, List.getElem?_toArray, g1', Sem.run_pure]
   ·exact consP_rep (b := false) g2.1 (fun i p u hp hu => ⟨(g2.2 i p u hp hu).1, fun _ => (g2.2 i p u hp hu).2⟩)
  ·cases hx
 ·cases hx

theorem RepT.row (us : List Value) {cs : List TV} (hr : RepL F cs us) (ho : Ones us) (hle : F.le (F.with w.heap.size us)) (n cap : Nat) (f : Bool) (h1 : n ≤ cap) (h2 : f = true → cap = n) (h3 : cap ≤ maxLen) :
  RepT (F.with w.heap.size us) (.sl cs n f) (.slice (some ⟨w.heap.size, 0, none⟩) n cap) :=
 .sl cs n f _ cap us hr.1 (fun i u hu => ⟨by rw [add_plain, Nat.zero_add, Fz.with_at]; exact hu, ho i u hu⟩) (hr.mono hle).2 h1 h2 h3

theorem fillT_len {place : Nat → Option (Nat × Nat)} : ∀ (parts : List (Nat × TV)) (cells : List TV) {cs : List TV}, fillT place cells parts = some cs → cs.length = cells.length
 | [], cells, cs, h => by simp [fillT] at h; rw [h]
 | (i, v) :: rest, cells, cs, h => by
  unfold fillT at h
  split at h
  ·cases h
  ·rename_i off size hp
   split at h
   ·cases h
   ·split at h
    ·cases h
    ·rename_i hc
     rw [fillT_len rest _ h]
     have : off + v.cells.length ≤ cells.length := by
      rcases Nat.lt_or_ge cells.length (off + v.cells.length) with h1 | h1
      ·exact absurd (.inr h1) hc
      ·exact h1
     simp only [List.length_append, List.length_take, List.length_drop]; omega
theorem run_buildSliceG {ρp : Operand → PV} {ρv : Operand → Value} (hρ : ∀ x, RepP F φ h (ρp x) (ρv x)) {t : TypeId} {len : Nat} {parts : Array (Nat × Operand)} {ps : List (Nat × TV)} {cs : List TV}
  (hp : partsO ρp parts = some ps) (hx : buildSliceO P t len ps = some cs) :
  ∃ (us' : List Value) (e : TypeId) (n : Nat), sliceO P t = some e ∧ szO P e = some n ∧ 0 < n ∧ cs.length = len * n ∧ len ≤ 100000 ∧ RepL F cs us' ∧ Ones us' ∧
   (((do pure (Next.value (← Instr.buildSlice t len (parts.map fun (i, x) => (i, ρv x))))) : Sem Next).run P w) = .ok (.value (.slice (some ⟨w.heap.size, 0, none⟩) len len)) (w.alloc (.cells us'.toArray e)) := by
 obtain ⟨hl, hps⟩ := partsO_some hρ hp
 unfold buildSliceO at hx
 split at hx
 ·rename_i e he
  split at hx
  ·rename_i n z hsz hz
   split at hx
   ·rename_i hcond
    obtain ⟨c1, c2, c3⟩ := hcond
    obtain ⟨i, zv, hi, hzz, hr, h1⟩ := zeroL_rep (F := F) hz
    have hzs : zv.cells.size = n := by have := hr.1; simp at this; omega
    let us0 : List Value := (List.range (len * n)).map fun i => zv.cells[i % n]!
    have hr0 : RepL F ((List.range (len * n)).map fun i => z.getD (i % n) .nilPtr) us0 := by
     refine ⟨by simp [us0], fun i c u hc hu => ?_⟩
     simp only [us0, List.getElem?_map, Option.map_eq_some_iff] at hc hu
     obtain ⟨a, ha, rfl⟩ := hc
     obtain ⟨b, hb, rfl⟩ := hu
     rw [ha] at hb; cases hb
     have hlt : a % n < n := Nat.mod_lt _ c3
     refine hr.2 (a % n) _ _ ?_ ?_
     ·rw [List.getD_eq_getElem?_getD, List.getElem?_eq_getElem (by omega)]; rfl
     ·rw [getElem!_pos zv.cells (a % n) (by omega)]; simp [hzs, hlt]
    have ho0 : Ones us0 := fun i u hu => by
     simp only [us0, List.getElem?_map, Option.map_eq_some_iff] at hu
     obtain ⟨b, hb, rfl⟩ := hu
     have hlt : b % n < n := Nat.mod_lt _ c3
     rw [getElem!_pos zv.cells (b % n) (by omega)]
     exact h1 (b % n) _ (by simp [hzs, hlt])
    obtain ⟨us', g1, g2, g3⟩ := fill_rep ps _ _ cs us0 hx hr0 ho0 hl hps
    have hlen : cs.length = len * n := by have := fillT_len ps _ hx; simpa using this
    refine ⟨us', e, n, he, hsz, c3, hlen, Nat.le_trans (Nat.le_mul_of_pos_right len c3) c1, g2, g3, ?_⟩
    have hnot : ¬ (len * n > 2 ^ 24) := by omega
    have g1' : Instr.fill (fun i => some (i * n, n)) us0.toArray (parts.map fun (i, x) => (i, ρv x)).toList = some us'.toArray := g1
    simp only [Sem.run_bind, Instr.buildSlice, run_underlying' (sliceO_some he), Result.andThen_ok, run_sizeOf' hsz, Sem.run_ite]
    rw [if_neg hnot]
    by_cases h0 : len * n = 0
    ·have eA : ((Array.range (len * n)).map ((#[] : Array Value)[· % (#[] : Array Value).size]!)) = us0.toArray := by
      apply Array.ext'; simp [us0, h0]
     rw [if_pos h0]
     simp only [Sem.run_bind, Sem.run_pure, Result.andThen_ok, eA, g1', newRow, run_newObj]
     rfl
    ·have eA : ((Array.range (len * n)).map (zv.cells[· % zv.cells.size]!)) = us0.toArray := by
      apply Array.ext'; simp [us0, hzs]
     rw [if_neg h0]
     simp only [Sem.run_bind, run_zeroValue' hi hzz, Sem.run_pure, Result.andThen_ok, eA, g1', newRow, run_newObj]
     rfl
   ·cases hx
  ·cases hx
 ·cases hx
theorem sim_buildSlice (H : RH P C F φ h w) {ρp : Operand → PV} {ρv : Operand → Value} (hρ : ∀ x, RepP F φ h (ρp x) (ρv x)) {t : TypeId} {len : Nat} {parts : Array (Nat × Operand)} {ps : List (Nat × TV)} {cs : List TV}
  (hp : partsO ρp parts = some ps) (hx : buildSliceO P t len ps = some cs) :
  Sim P C h (((do pure (Next.value (← Instr.buildSlice t len (parts.map fun (i, x) => (i, ρv x))))) : Sem Next).run P w) (.t (.sl cs len true)) [] := by
 obtain ⟨us', e, n, _, _, _, _, h5, g2, g3, hrun⟩ := run_buildSliceG (w := w) hρ hp hx
 exact ⟨_, φ, .slice (some ⟨w.heap.size, 0, none⟩) len len, _, .inl hrun, H.allocRow us' e, RepT.row us' g2 g3 (Fz.le_with H us') len len true (Nat.le_refl _) (fun _ => rfl) (by unfold maxLen; omega)⟩

def RepG (F : Fz) (φ : Nat → Nat × Nat) (h : Hp) (ps : List PV) (us : List Value) : Prop := us.length = ps.length ∧ ∀ (i : Nat) (p : PV) (u : Value), ps[i]? = some p → us[i]? = some u → RepP F φ h p u ∧ u.oneCell' = true
theorem RepG.of_t {cs : List TV} {us : List Value} (hr : RepL F cs us) (ho : Ones us) : RepG F φ h (cs.map .t) us :=
 ⟨by simpa using hr.1, fun i p u hp hu => by obtain ⟨x, hx, rfl⟩ := getElem?_map_t hp; exact ⟨hr.2 i x u hx hu, ho i u hu⟩⟩
theorem RepG.append {ps qs : List PV} {us vs : List Value} (a : RepG F φ h ps us) (b : RepG F φ h qs vs) : RepG F φ h (ps ++ qs) (us ++ vs) := by
 refine ⟨by simp [a.1, b.1], fun i q v h1 h2 => ?_⟩
 by_cases hi : i < ps.length
 ·rw [List.getElem?_append_left hi] at h1
  rw [List.getElem?_append_left (by rw [a.1]; exact hi)] at h2
  exact a.2 i q v h1 h2
 ·rw [List.getElem?_append_right (Nat.le_of_not_lt hi)] at h1
  rw [List.getElem?_append_right (by rw [a.1]; exact Nat.le_of_not_lt hi), a.1] at h2
  exact b.2 _ q v h1 h2
theorem RepG.toL {ps : List PV} {us : List Value} {xs : List TV} (hr : RepG F φ h ps us) (hx : allO (ps.map PV.toT) = some xs) : RepL F xs us ∧ Ones us := by
 obtain ⟨e1, e2⟩ := allO_some hx
 have hlt : ∀ (i : Nat) (u : Value), us[i]? = some u → i < ps.length := fun i u hu => by have := (List.getElem?_eq_some_iff.1 hu).1; have := hr.1; omega
 exact ⟨⟨by rw [hr.1, e1], fun i c u hc hu => PV.toT_rep (e2 i _ c (List.getElem?_eq_getElem (hlt i u hu)) hc) (hr.2 i _ u (List.getElem?_eq_getElem (hlt i u hu)) hu).1⟩,
  fun i u hu => (hr.2 i _ u (List.getElem?_eq_getElem (hlt i u hu)) hu).2⟩

theorem newGrowM (H : RH P C F φ h w) (mk : Nat × Nat) {rid : Nat} (hres : h rid = .res) {cs : List PV} {us rest : List Value} {n cap sz : Nat} {e : TypeId} (hr : RepG F φ h cs us) (hmk : okMk mk (us ++ rest).length) (hlen : us.length = n * sz) (hrest : us.length + rest.length = cap * sz) (hn : n ≤ cap) (hm : cap ≤ maxLen) (hsz : P.cellsOf e = sz) :
  RH P C F (upd φ rid (w.heap.size, cap)) (upo h rid (.grow 0 cs e sz)) (w.alloc (.cells (us ++ rest).toArray e mk)) ∧
   RepP F (upd φ rid (w.heap.size, cap)) (upo h rid (.grow 0 cs e sz)) (.gsl rid 0 sz 0 n false) (.slice (some ⟨w.heap.size, 0, none⟩) n cap) := by
 have hs := HStep.put (φ := φ) hres (w.heap.size, cap) (.grow 0 cs e sz)
 refine ⟨H.allocGrowM mk (us ++ rest) e cap cs hs hmk (by simpa using hrest) (by have := hr.1; simp; omega) hsz (fun i c u hc hu => ?_), 0, e, cap, _, by rw [upo_same]; rfl, Nat.le_refl _, rfl, hn, hm, fun e => (by cases e), fun _ => ?_⟩
 ·have hi : i < us.length := by have := (List.getElem?_eq_some_iff.1 hc).1; have := hr.1; omega
  rw [List.getElem?_append_left hi] at hu
  exact hr.2 i c u hc hu
 ·rw [upd_same]
  exact ⟨by simp, fun _ => by simp, fun _ => by simp⟩

theorem newGrow (H : RH P C F φ h w) {rid : Nat} (hres : h rid = .res) {cs : List PV} {us rest : List Value} {n cap sz : Nat} {e : TypeId} (hr : RepG F φ h cs us) (hlen : us.length = n * sz) (hrest : us.length + rest.length = cap * sz) (hn : n ≤ cap) (hm : cap ≤ maxLen) (hsz : P.cellsOf e = sz) :
  RH P C F (upd φ rid (w.heap.size, cap)) (upo h rid (.grow 0 cs e sz)) (w.alloc (.cells (us ++ rest).toArray e)) ∧
   RepP F (upd φ rid (w.heap.size, cap)) (upo h rid (.grow 0 cs e sz)) (.gsl rid 0 sz 0 n false) (.slice (some ⟨w.heap.size, 0, none⟩) n cap) := newGrowM H (0, 0) hres hr (okMk_zero _) hlen hrest hn hm hsz

theorem sim_buildSliceM (H : RH P C F φ h w) {ρp : Operand → PV} {ρv : Operand → Value} (hρ : ∀ x, RepP F φ h (ρp x) (ρv x)) {t : TypeId} {len sz rid : Nat} {e : TypeId} {parts : Array (Nat × Operand)} {ps : List (Nat × TV)} {cs : List TV}
  (hp : partsO ρp parts = some ps) (hx : buildSliceO P t len ps = some cs) (he : sliceO P t = some e) (hsz : szO P e = some sz) (hc : P.cellsOf e = sz) (hres : h rid = .res) :
  Sim P C h (((do pure (Next.value (← Instr.buildSlice t len (parts.map fun (i, x) => (i, ρv x))))) : Sem Next).run P w) (.gsl rid 0 sz 0 len false) [(rid, .grow 0 (cs.map .t) e sz)] := by
 obtain ⟨us', e', n, h1, h2, h3, h4, h5, g2, g3, hrun⟩ := run_buildSliceG (w := w) hρ hp hx
 rw [he] at h1; cases h1
 rw [hsz] at h2; cases h2
 have hl : us'.length = len * sz := by rw [g2.1, h4]
 obtain ⟨a, b⟩ := newGrow H (rest := []) hres (RepG.of_t (φ := φ) (h := h) g2 g3) hl (by simpa using hl) (Nat.le_refl _) (by unfold maxLen; omega) hc
 rw [List.append_nil] at a
 exact ⟨F, _, _, _, .inl hrun, a, b⟩

theorem fillP_len {place : Nat → Option (Nat × Nat)} : ∀ (parts : List (Nat × PV)) (cells : List PV) {cs : List PV}, fillP place cells parts = some cs → cs.length = cells.length
 | [], cells, cs, h => by simp [fillP] at h; rw [h]
 | (i, v) :: rest, cells, cs, h => by
  unfold fillP at h
  split at h
  ·cases h
  ·rename_i off size hp
   split at h
   ·cases h
   ·rename_i vs hv
    split at h
    ·cases h
    ·rename_i hc
     rw [fillP_len rest _ h]
     have : off + vs.length ≤ cells.length := by
      rcases Nat.lt_or_ge cells.length (off + vs.length) with h1 | h1
      ·exact absurd (.inr h1) hc
      ·exact h1
     simp only [List.length_append, List.length_take, List.length_drop]; omega
theorem sim_buildSliceP (H : RH P C F φ h w) {ρp : Operand → PV} {ρv : Operand → Value} (hρ : ∀ x, RepP F φ h (ρp x) (ρv x)) {t : TypeId} {len sz rid : Nat} {e : TypeId} {parts : Array (Nat × Operand)} {cs : List PV}
  (hx : buildSliceP P t len (partsP ρp parts) = some cs) (he : sliceO P t = some e) (hsz : szO P e = some sz) (hc : P.cellsOf e = sz) (hres : h rid = .res) :
  Sim P C h (((do pure (Next.value (← Instr.buildSlice t len (parts.map fun (i, x) => (i, ρv x))))) : Sem Next).run P w) (.gsl rid 0 sz 0 len false) [(rid, .grow 0 cs e sz)] := by
 unfold buildSliceP at hx
 rw [he] at hx
 simp only [hsz] at hx
 split at hx
 ·rename_i n z hsz' hz
  simp only [Option.some.injEq] at hsz'
  subst hsz'
  split at hx
  ·rename_i hcond
   obtain ⟨c1, c2, c3⟩ := hcond
   obtain ⟨i, zv, hi, hzz, hr, h1⟩ := zeroL_rep (F := F) hz
   have hzs : zv.cells.size = sz := by have := hr.1; simp at this; omega
   let us0 : List Value := (List.range (len * sz)).map fun i => zv.cells[i % sz]!
   have hr0 : RepL F ((List.range (len * sz)).map fun i => z.getD (i % sz) .nilPtr) us0 := by
    refine ⟨by simp [us0], fun i c u hc hu => ?_⟩
    simp only [us0, List.getElem?_map, Option.map_eq_some_iff] at hc hu
    obtain ⟨a, ha, rfl⟩ := hc
    obtain ⟨b, hb, rfl⟩ := hu
    rw [ha] at hb; cases hb
    have hlt : a % sz < sz := Nat.mod_lt _ c3
    refine hr.2 (a % sz) _ _ ?_ ?_
    ·rw [List.getD_eq_getElem?_getD, List.getElem?_eq_getElem (by omega)]; rfl
    ·rw [getElem!_pos zv.cells (a % sz) (by omega)]; simp [hzs, hlt]
   have ho0 : Ones us0 := fun i u hu => by
    simp only [us0, List.getElem?_map, Option.map_eq_some_iff] at hu
    obtain ⟨b, hb, rfl⟩ := hu
    have hlt : b % sz < sz := Nat.mod_lt _ c3
    rw [getElem!_pos zv.cells (b % sz) (by omega)]
    exact h1 (b % sz) _ (by simp [hzs, hlt])
   have hl : ((parts.map fun (i, x) => (i, ρv x)).toList).length = (partsP ρp parts).length := by simp [partsP]
   obtain ⟨us', g1, g2⟩ := fillP_rep (h := h) (φ := φ) (F := F) _ _ _ cs us0 hx (RepG.of_t hr0 ho0) hl (fun i p v hp hv => by
     simp only [partsP, Array.toList_map, List.getElem?_map, Option.map_eq_some_iff] at hp hv
     obtain ⟨q, hq, rfl⟩ := hp
     obtain ⟨q', hq', rfl⟩ := hv
     rw [hq] at hq'; cases hq'
     exact ⟨rfl, hρ _⟩)
   have hlen : cs.length = len * sz := by have := fillP_len _ _ hx; simpa using this
   have hul : us'.length = len * sz := by rw [g2.1, hlen]
   have hle : len ≤ 100000 := Nat.le_trans (Nat.le_mul_of_pos_right len c3) c1
   have hnot : ¬ (len * sz > 2 ^ 24) := by omega
   have g1' : Instr.fill (fun i => some (i * sz, sz)) us0.toArray (parts.map fun (i, x) => (i, ρv x)).toList = some us'.toArray := g1
   have hrun : (((do pure (Next.value (← Instr.buildSlice t len (parts.map fun (i, x) => (i, ρv x))))) : Sem Next).run P w) = .ok (.value (.slice (some ⟨w.heap.size, 0, none⟩) len len)) (w.alloc (.cells us'.toArray e)) := by
    simp only [Sem.run_bind, Instr.buildSlice, run_underlying' (sliceO_some he), Result.andThen_ok, run_sizeOf' hsz, Sem.run_ite]
    rw [if_neg hnot]
    by_cases h0 : len * sz = 0
    ·have eA : ((Array.range (len * sz)).map ((#[] : Array Value)[· % (#[] : Array Value).size]!)) = us0.toArray := by
      apply Array.ext'; simp [us0, h0]
     rw [if_pos h0]
     simp only [Sem.run_bind, Sem.run_pure, Result.andThen_ok, eA, g1', newRow, run_newObj]
     rfl
    ·have eA : ((Array.range (len * sz)).map (zv.cells[· % zv.cells.size]!)) = us0.toArray := by
      apply Array.ext'; simp [us0, hzs]
     rw [if_neg h0]
     simp only [Sem.run_bind, run_zeroValue' hi hzz, Sem.run_pure, Result.andThen_ok, eA, g1', newRow, run_newObj]
     rfl
   obtain ⟨a, b⟩ := newGrow H (rest := []) hres (show RepG F φ h cs us' from g2) hul (by simpa using hul) (Nat.le_refl _) (by unfold maxLen; omega) hc
   rw [List.append_nil] at a
   exact ⟨F, _, _, _, .inl hrun, a, b⟩
  ·cases hx
 ·cases hx

end Go.Pm

/- Part QmH. -/
namespace Go.Pm
open Go Go.RowKit

variable {P : Program} {C : Cx} {F F' : Fz} {φ φ' φ'' : Nat → Nat × Nat} {h h' h'' : Hp} {w w' : World}

theorem sim_newTok (H : RH P C F φ h w) {rid m cap : Nat} {e : TypeId} {ds : List TV} {us rest : List Value} (hs : HStep φ (upd φ rid (w.heap.size, cap)) h (upo h rid (.tok m e))) (hr : RepL F ds us) (ho : Ones us) (hlen : us.length = m * P.cellsOf e)
  (hrest : us.length + rest.length = cap * P.cellsOf e) (h0 : 0 < m) (h1 : m ≤ cap) (h2 : cap ≤ maxLen) {r : Result Next}
  (hrun : r = .ok (.value (.slice (some ⟨w.heap.size, 0, none⟩) m cap)) (w.drew.alloc (.cells (us ++ rest).toArray e))) :
  Sim P C h r (.own ds m rid) [(rid, .tok m e)] := by
 have H1 := H.drew
 have hle : F.le (F.with w.heap.size us) := Fz.le_with H1 us
 refine ⟨F.with w.heap.size us, upd φ rid (w.heap.size, cap), _, _, .inl hrun, H1.put _ _ hs hle (agree_with H1 us rest e) (fun a u hu hn => .inl (news_with (w := w.drew) us a u hu hn)) (Below.bel (below_alloc w.drew _)) (.inl (Nat.le_refl _)) ?_, fun e => (by omega), fun _ => ?_, m, e, upo_same _ _ _, Nat.le_refl _, fun _ _ => ?_⟩
 ·refine fun _ => ⟨us ++ rest, (0, 0), ?_, fun _ => ⟨rfl, ?_, ?_, fun i hi => ?_⟩⟩
  ·rw [upd_same]; exact alloc_new w.drew _
  ·rw [upd_same, List.length_append]; exact hrest
  ·rw [upd_same]; exact h1
  ·rw [upd_same, Fz.with_at]; exact List.getElem?_eq_none (by omega)
 ·exact RepT.row (w := w) us hr ho hle m cap false h1 (by simp) h2
 ·rw [upd_same]

theorem run_len {t : TypeId} {x : TV} {u : Value} {n : Int} {ty : TypeId} {ts : Array TypeId} (hn : lenO P t x = some n) (hr : RepT F x u) (ht : ts[0]? = some t) : (Builtin.len_ ts ty #[u]).run P w = .ok (.int .i64 n) w := by
 unfold lenO at hn
 split at hn
 ·rename_i e cs k f hu; cases hr; simp at hn; subst hn; simp [Builtin.len_, ht, run_underlying' hu, goInt]
 ·rename_i e hu; cases hr; simp at hn; subst hn; simp [Builtin.len_, ht, run_underlying' hu, goInt]
 ·rename_i s hu; cases hr; simp at hn; subst hn; simp [Builtin.len_, ht, run_underlying' hu, goInt]
 ·rename_i k e hu; simp at hn; subst hn; simp [Builtin.len_, ht, run_underlying' hu, goInt]
 ·cases hn

theorem allO_toT {l : List PV} {vs : List Value} {xs : List TV} (hx : allO (l.map PV.toT) = some xs) (hl : vs.length = l.length) (hr : ∀ (i : Nat) (p : PV) (u : Value), l[i]? = some p → vs[i]? = some u → RepP F φ h p u) : RepL F xs vs := by
 obtain ⟨h1, h2⟩ := allO_some hx
 refine ⟨by omega, fun i c u hc hu => ?_⟩
 have hi : i < l.length := by have := (List.getElem?_eq_some_iff.1 hc).1; omega
 have hp : l[i]? = some l[i] := List.getElem?_eq_getElem hi
 exact PV.toT_rep (h2 i _ c hp hc) (hr i _ u hp hu)

theorem fold_none {f : TV → TV → Option TV} : ∀ (l : List TV), l.foldl (fun acc y => match acc with | some x => f x y | none => none) (none : Option TV) = none
 | [] => rfl
 | _ :: l => fold_none l

theorem run_minmax {f : Value → Value → Sem Value} {g : TV → TV → Option TV} (hfg : ∀ (x y z : TV) (u v : Value), g x y = some z → RepT F x u → RepT F y v → ∃ q, (f u v).run P w = .ok q w ∧ RepT F z q) :
  ∀ (l : List TV) (vs : List Value) (x z : TV) (u : Value), l.foldl (fun acc y => match acc with | some x => g x y | none => none) (some x) = some z → RepT F x u → RepL F l vs →
   ∃ q, (vs.foldlM f u).run P w = .ok q w ∧ RepT F z q
 | [], vs, x, z, u, hz, hu, hr => by
  have : vs = [] := List.eq_nil_of_length_eq_zero (by simpa using hr.1)
  subst this
  simp at hz; subst hz
  exact ⟨u, by simp, hu⟩
 | y :: l, [], x, z, u, _, _, hr => by have := hr.1; simp at this
 | y :: l, v :: vs, x, z, u, hz, hu, hr => by
  simp only [List.foldl_cons] at hz
  cases hg : g x y with
  | none => rw [hg, fold_none] at hz; cases hz
  | some x' =>
   rw [hg] at hz
   obtain ⟨q, hq, rq⟩ := hfg x y x' u v hg hu (hr.2 0 y v rfl rfl)
   obtain ⟨q', hq', rq'⟩ := run_minmax hfg l vs x' z q hz rq ⟨by have := hr.1; simpa using this, fun i c u a b => hr.2 (i + 1) c u (by simpa using a) (by simpa using b)⟩
   exact ⟨q', by simp only [List.foldlM_cons, Sem.run_bind, hq, Result.andThen_ok, hq'], rq'⟩

theorem run_min {ts : Array TypeId} {ty : TypeId} {xs : List TV} {vs : List Value} {z : TV} (hz : minO xs = some z) (hr : RepL F xs vs) : ∃ q, (Builtin.min_ ts ty vs.toArray).run P w = .ok q w ∧ RepT F z q := by
 cases xs with
 | nil => simp [minO] at hz
 | cons x xs =>
  cases vs with
  | nil => have := hr.1; simp at this
  | cons u vs =>
   simp only [minO] at hz
   refine run_minmax (f := Builtin.min2) (g := min2T) (fun x y z u v hg hu hv => ?_) xs vs x z u hz (hr.2 0 x u rfl rfl) ⟨by have := hr.1; simpa using this, fun i c u a b => hr.2 (i + 1) c u (by simpa using a) (by simpa using b)⟩
   unfold min2T at hg
   split at hg
   ·cases hu; cases hv
    split at hg
    ·rename_i k a k' b hk; simp at hg; subst hg; subst hk
     refine ⟨.int k (if b < a then b else a), by simp [Builtin.min2], ?_⟩
     have e : (if b < a then b else a) = min a b := by rw [Int.min_def]; split <;> split <;> omega
     rw [e]; exact .int _ _
    ·cases hg
   ·cases hg
theorem run_max {ts : Array TypeId} {ty : TypeId} {xs : List TV} {vs : List Value} {z : TV} (hz : maxO xs = some z) (hr : RepL F xs vs) : ∃ q, (Builtin.max_ ts ty vs.toArray).run P w = .ok q w ∧ RepT F z q := by
 cases xs with
 | nil => simp [maxO] at hz
 | cons x xs =>
  cases vs with
  | nil => have := hr.1; simp at this
  | cons u vs =>
   simp only [maxO] at hz
   refine run_minmax (f := Builtin.max2) (g := max2T) (fun x y z u v hg hu hv => ?_) xs vs x z u hz (hr.2 0 x u rfl rfl) ⟨by have := hr.1; simpa using this, fun i c u a b => hr.2 (i + 1) c u (by simpa using a) (by simpa using b)⟩
   unfold max2T at hg
   split at hg
   ·cases hu; cases hv
    split at hg
    ·rename_i k a k' b hk; simp at hg; subst hg; subst hk
     refine ⟨.int k (if b > a then b else a), by simp [Builtin.max2], ?_⟩
     have e : (if b > a then b else a) = max a b := by rw [Int.max_def]; split <;> split <;> omega
     rw [e]; exact .int _ _
    ·cases hg
   ·cases hg

theorem srcO_some {sz m : Nat} {x : TV} {ds : List TV} {u : Value} (hs : srcO sz x = some (ds, m)) (hr : RepT F x u) :
  (u = .slice none 0 0 ∧ ds = [] ∧ m = 0) ∨ ∃ a c us, u = .slice (some a) m c ∧ us.length = m * sz ∧ RepL F ds us ∧ Ones us ∧ ∀ (i : Nat) (v : Value), us[i]? = some v → F (a.add i) = some v := by
 unfold srcO at hs
 split at hs
 ·cases hr; simp at hs; exact .inl ⟨rfl, hs.1, hs.2.symm⟩
 ·split at hs
  ·rename_i hlen
   simp at hs; obtain ⟨rfl, rfl⟩ := hs
   cases hr with
   | sl _ _ _ a cap us hl hF hrr h1 h2 h3 => exact .inr ⟨a, cap, us, rfl, by omega, ⟨hl, hrr⟩, fun i u hu => (hF i u hu).2, fun i v hv => (hF i v hv).1⟩
  ·cases hs
 ·cases hs

theorem smallO_some {e : TypeId} {sz by_ : Nat} (hs : smallO P e = some (sz, by_)) : ∃ i z, P.info? e = some i ∧ i.zero = some z ∧ i.size = sz ∧ z.cells.size = sz ∧ 0 < sz ∧ i.bytes = by_ ∧ 0 < by_ ∧ P.cellsOf e = sz := by
 unfold smallO at hs
 split at hs
 ·rename_i i hi
  split at hs
  ·rename_i z hz
   split at hs
   ·rename_i hc
    simp at hs; obtain ⟨rfl, rfl⟩ := hs
    exact ⟨i, z, hi, hz, rfl, hc.2.1, hc.1, rfl, hc.2.2, by simp [Program.cellsOf, hi]⟩
   ·cases hs
  ·cases hs
 ·cases hs

theorem append_none_run {t ty e : TypeId} {i : TypeInfo} (ht : P.underlying t = some (.slice e)) (hi : P.info? e = some i) (b : Option Addr) (n c : Nat) (hnc : n ≤ c) (x : Value) (hx : x = .slice none 0 0 ∨ ∃ a k, x = .slice (some a) 0 k) :
  (Builtin.append_ #[t, t] ty #[.slice b n c, x]).run P w = .ok (.slice b n c) w := by
 rcases hx with rfl | ⟨a, k, rfl⟩
 ·cases b <;> simp [Builtin.append_, run_underlying' ht, sizeOf, typeInfo, hi, Builtin.lenOf, hnc, Builtin.firstCells, storeCells]
 ·have := run_firstCells_some (P := P) w i.size 0 a 0 k [] (by simp) (by simp)
  cases b <;> simp [Builtin.append_, run_underlying' ht, sizeOf, typeInfo, hi, Builtin.lenOf, hnc, this, storeCells]

theorem sim_append_room (H : RH P C F φ h w) {id n m : Nat} {e : TypeId} {cs ds : List TV} {news us : List Value} (hid : h id = .tok n e)
  (hcs : RepL F cs us) (hous : Ones us) (hlus : us.length = n * P.cellsOf e) (hFus : ∀ (i : Nat) (v : Value), us[i]? = some v → F ⟨(φ id).1, i, none⟩ = some v)
  (hr : RepL F ds news) (ho : Ones news) (hlen : news.length = m * P.cellsOf e) (hn0 : 0 < n) (hm : 0 < m) (hroom : n + m ≤ (φ id).2) (hmax : (φ id).2 ≤ maxLen) {r : Result Next}
  (hrun : ∀ cur : List Value, w.heap[(φ id).1]? = some (.cells cur.toArray e (0, 0)) →
   r = .ok (.value (.slice (some ⟨(φ id).1, 0, none⟩) (n + m) (φ id).2)) (w.setRow (φ id).1 (cur.take (n * P.cellsOf e) ++ news ++ cur.drop (n * P.cellsOf e + news.length)).toArray)) :
  Sim P C h r (.own (cs ++ ds) (n + m) id) [(id, .tok (n + m) e)] := by
 have hob := H.objs id
 rw [hid] at hob
 obtain ⟨cur, mk, h1, hmk⟩ := hob hn0
 obtain ⟨rfl, h2, h3, h4⟩ := hmk (by omega)
 have hlv : (h id).live = true := by rw [hid]; simpa [PO.live] using hn0
 have hpre : cur.take (n * P.cellsOf e) = us := by
  have hsz : (φ id).2 * P.cellsOf e ≥ n * P.cellsOf e := Nat.mul_le_mul_right _ h3
  apply List.ext_getElem?
  intro i
  rw [List.getElem?_take]
  by_cases hi : i < n * P.cellsOf e
  ·rw [if_pos hi]
   have hiu : i < us.length := by omega
   have e1 := H.agree _ _ (hFus i us[i] (List.getElem?_eq_getElem hiu))
   rw [look_at h1] at e1
   rw [e1, List.getElem?_eq_getElem hiu]
  ·rw [if_neg hi, List.getElem?_eq_none (by omega)]
 have hnew : us ++ news ++ cur.drop (n * P.cellsOf e + news.length) = cur.take (n * P.cellsOf e) ++ news ++ cur.drop (n * P.cellsOf e + news.length) := by rw [hpre]
 let rest := cur.drop (n * P.cellsOf e + news.length)
 have hsame : (w.setRow (φ id).1 (us ++ news ++ rest).toArray).heap[(φ id).1]? = some (.cells (us ++ news ++ rest).toArray e (0, 0)) := setRow_heap w _ _ _ _ _ h1
 have hmul : (n + m) * P.cellsOf e = n * P.cellsOf e + m * P.cellsOf e := Nat.add_mul _ _ _
 have hcap : (n + m) * P.cellsOf e ≤ (φ id).2 * P.cellsOf e := Nat.mul_le_mul_right _ hroom
 let F1 : Fz := F.with (φ id).1 (us ++ news)
 have hle : F.le F1 := by
  intro a u hu
  show Fz.with F _ _ a = some u
  unfold Fz.with
  split
  ·rename_i hc
   obtain ⟨b, o, s⟩ := a
   simp only at hc; obtain ⟨rfl, rfl⟩ := hc
   by_cases ho' : o < n * P.cellsOf e
   ·have hiu : o < us.length := by omega
    have e1 := hFus o us[o] (List.getElem?_eq_getElem hiu)
    rw [hu] at e1; cases e1
    rw [List.getElem?_append_left hiu, List.getElem?_eq_getElem hiu]
   ·rw [h4 o (by omega)] at hu; cases hu
  ·exact hu
 have hRL : RepL F1 (cs ++ ds) (us ++ news) := (hcs.append hr).mono hle
 have hst : HStep φ (upd φ id (φ id)) h (upo h id (.tok (n + m) e)) := HStep.one (φ id) (by rw [hid]; exact ⟨n + m, rfl, by omega, fun _ => rfl⟩)
 refine ⟨F1, upd φ id (φ id), .slice (some ⟨(φ id).1, 0, none⟩) (n + m) (φ id).2, w.setRow (φ id).1 (us ++ news ++ rest).toArray, .inl ?_, H.put _ _ hst hle (fun a u hu => ?_) (fun a u hu hn => ?_) (bel_setRow w _ _ ⟨rfl, hlv⟩) (.inr ⟨rfl, hlv⟩) ?_, fun e => (by omega), fun _ => ?_, n + m, e, upo_same _ _ _, Nat.le_refl _, fun _ _ => by rw [upd_same]⟩
 ·rw [hrun cur h1, ← hnew]
 ·have hu' : Fz.with F _ _ a = some u := hu
  unfold Fz.with at hu'
  split at hu'
  ·rename_i hc
   obtain ⟨b, o, s⟩ := a
   simp only at hc hu'; obtain ⟨rfl, rfl⟩ := hc
   rw [look_at hsame, List.getElem?_append_left (List.getElem?_eq_some_iff.1 hu').1]; exact hu'
  ·rename_i hc
   have hcell := H.agree _ _ hu'
   have hbne : a.block ≠ (φ id).1 := by
    intro e'
    obtain ⟨b, o, s⟩ := a
    simp only at e'; subst e'
    cases s with
    | none => exact hc ⟨rfl, rfl⟩
    | some s => simp [look, h1] at hcell
   rw [look_same (setRow_other w _ _ _ hbne)]; exact hcell
 ·have hu' : Fz.with F _ _ a = some u := hu
  unfold Fz.with at hu'
  split at hu'
  ·rename_i hc; exact .inr ⟨hc.1, hlv⟩
  ·rw [hn] at hu'; cases hu'
 ·refine fun _ => ⟨us ++ news ++ rest, (0, 0), ?_, fun _ => ⟨rfl, ?_, ?_, fun i hi => ?_⟩⟩
  ·rw [upd_same]; exact hsame
  ·rw [upd_same]; simp only [rest, List.length_append, List.length_drop]; omega
  ·rw [upd_same]; exact hroom
  ·rw [upd_same]
   show Fz.with F _ _ _ = none
   rw [Fz.with_at]; exact List.getElem?_eq_none (by simp only [List.length_append]; omega)
 ·refine .sl _ _ _ _ _ (us ++ news) hRL.1 (fun i u hu => ⟨?_, (hous.append ho) i u hu⟩) hRL.2 hroom (by simp) hmax
  rw [add_plain, Nat.zero_add]
  show Fz.with F _ _ _ = some u
  rw [Fz.with_at]; exact hu

theorem run_lenG {t : TypeId} {e : TypeId} {n cap : Nat} {a : Option Addr} {ty : TypeId} {ts : Array TypeId} (hs : sliceO P t = some e) (ht : ts[0]? = some t) : (Builtin.len_ ts ty #[.slice a n cap]).run P w = .ok (.int .i64 n) w := by
 simp [Builtin.len_, ht, run_underlying' (sliceO_some hs), goInt]

theorem RepP.slice_of {id ver sz o n : Nat} {full : Bool} {u : Value} (hr : RepP F φ h (.gsl id ver sz o n full) u) : ∃ a cap, u = .slice (some a) n cap ∧ n ≤ cap ∧ cap ≤ maxLen := by
 obtain ⟨v, e, cap, a, h1, h2, h3, h4, h5, _⟩ := hr; exact ⟨a, cap, h3, h4, h5⟩

theorem srcG_some (H : RH P C F φ h w) {sz m : Nat} {x : PV} {ds : List PV} {u : Value} (hs : srcG sz x h = some (ds, m)) (hr : RepP F φ h x u) :
  (u = .slice none 0 0 ∧ ds = [] ∧ m = 0) ∨ ∃ a c us, u = .slice (some a) m c ∧ us.length = m * sz ∧ RepG F φ h ds us ∧ ∀ (i : Nat) (v : Value), us[i]? = some v → w.cell? (a.add i) = some v := by
 have plain : ∀ y : TV, x.toT = some y → srcO sz y = some ((ds.map fun p => (p.toT).getD .nilSl), m) → ds = (ds.map fun p => (p.toT).getD .nilSl).map .t →
   (u = .slice none 0 0 ∧ ds = [] ∧ m = 0) ∨ ∃ a c us, u = .slice (some a) m c ∧ us.length = m * sz ∧ RepG F φ h ds us ∧ ∀ (i : Nat) (v : Value), us[i]? = some v → w.cell? (a.add i) = some v := by
  intro y hy hsy hds
  rcases srcO_some hsy (PV.toT_rep hy hr) with ⟨h1, h2, h3⟩ | ⟨a, c, us, h1, h2, h3, h4, h5⟩
  ·exact .inl ⟨h1, by rw [hds, h2]; rfl, h3⟩
  ·refine .inr ⟨a, c, us, h1, h2, ?_, fun i v hv => look_cell (H.agree _ _ (h5 i v hv)) (h4 i v hv)⟩
   rw [hds]; exact RepG.of_t h3 h4
 have other : (x.toT.bind fun x => (srcO sz x).map fun r => (r.1.map PV.t, r.2)) = some (ds, m) → (u = .slice none 0 0 ∧ ds = [] ∧ m = 0) ∨ ∃ a c us, u = .slice (some a) m c ∧ us.length = m * sz ∧ RepG F φ h ds us ∧ ∀ (i : Nat) (v : Value), us[i]? = some v → w.cell? (a.add i) = some v := by
  intro hs
  simp only [Option.bind_eq_some_iff, Option.map_eq_some_iff] at hs
  obtain ⟨y, hy, r, hr', he⟩ := hs
  obtain ⟨r1, r2⟩ := r
  simp only [Prod.mk.injEq] at he
  obtain ⟨rfl, rfl⟩ := he
  have e : ((r1.map PV.t).map fun p => (p.toT).getD .nilSl) = r1 := by
   rw [List.map_map]
   have : ((fun p : PV => (p.toT).getD .nilSl) ∘ PV.t) = id := by funext z; rfl
   rw [this, List.map_id]
  exact plain y hy (by rw [e]; exact hr') (by rw [e])
 unfold srcG at hs
 split at hs
 ·rename_i id ver sz' o n full
  simp only [Option.bind_eq_some_iff] at hs
  obtain ⟨cells, hc, hs⟩ := hs
  split at hs
  ·rename_i hcond
   obtain ⟨rfl, hle⟩ := hcond
   simp only [Option.some.injEq, Prod.mk.injEq] at hs
   obtain ⟨rfl, hnm⟩ := hs
   subst hnm
   obtain ⟨us, e, sz2, g0, ⟨_, g1⟩, g2, g3, g4, g5⟩ := row_at H hc
   obtain ⟨v, e', cap, a, k1, k2, rfl, k4, k5, k6, k7⟩ := hr
   rw [g0] at k1; cases k1
   obtain ⟨q1, q2, q3⟩ := k7 rfl
   have hmul : (o + n) * sz' = o * sz' + n * sz' := Nat.add_mul _ _ _
   refine .inr ⟨a, cap, (us.drop (o * sz')).take (n * sz'), rfl, by simp only [List.length_take, List.length_drop]; omega, ⟨by simp only [List.length_take, List.length_drop]; omega, fun i p z hp hz => ?_⟩, fun i z hz => ?_⟩
   ·rw [List.getElem?_take] at hp hz
    split at hp
    ·rename_i hi
     rw [if_pos hi] at hz
     rw [List.getElem?_drop] at hp hz
     exact g5 _ p z hp hz
    ·cases hp
   ·rw [List.getElem?_take] at hz
    split at hz
    ·rename_i hi
     rw [List.getElem?_drop] at hz
     have : 0 < cap := by
      rcases Nat.eq_zero_or_pos n with h0 | h0
      ·subst h0; omega
      ·omega
     rw [addr_add_spot (q2 this), cell_at g1]; exact hz
    ·cases hz
  ·cases hs
 ·exact other hs

theorem roomy_le {n b : Nat} (hb : 0 < b) (h : roomy n b) : n ≤ 140737488355328 := by
 unfold roomy at h
 exact Nat.le_trans (Nat.le_mul_of_pos_right n hb) h

theorem rest_len {w : World} {z : Value} {sz need old k : Nat} {e : TypeId} (hz : z.cells.size = sz) (hk : k = need * sz) :
  k + (Builtin.zeroCells z.cells (grownCap w need old e - need)).toList.length = grownCap w need old e * sz := by
 have hge := grownCap_ge w need old e
 rw [Array.length_toList, size_zeroCells, hz, hk, ← Nat.add_mul]
 congr 1; omega

theorem sim_fresh (H : RH P C F φ h w) {mu : Bool} {cs : List PV} {n cap sz rid : Nat} {e : TypeId} {v : PV} {W : Wr} {us rest : List Value} (hx : freshO mu cs n e sz rid = some (v, W)) (hres : h rid = .res) (hr : RepG F φ h cs us)
  (hlen : us.length = n * sz) (hrest : us.length + rest.length = cap * sz) (hn0 : 0 < n) (hn : n ≤ cap) (hm : cap ≤ maxLen) (hsz : P.cellsOf e = sz) {r : Result Next}
  (hrun : r = .ok (.value (.slice (some ⟨w.heap.size, 0, none⟩) n cap)) (w.drew.alloc (.cells (us ++ rest).toArray e))) : Sim P C h r v W := by
 unfold freshO at hx
 split at hx
 ·cases hx
  obtain ⟨a, b⟩ := newGrow H.drew hres hr hlen hrest hn hm hsz
  exact ⟨F, _, _, _, .inl hrun, a, b⟩
 ·simp only [Option.map_eq_some_iff] at hx
  obtain ⟨xs, hxs, he⟩ := hx
  simp only [Prod.mk.injEq] at he
  obtain ⟨rfl, rfl⟩ := he
  obtain ⟨h1, h2⟩ := hr.toL hxs
  exact sim_newTok H (HStep.put hres _ _) h1 h2 (by rw [hsz]; exact hlen) (by rw [hsz]; exact hrest) hn0 hn hm hrun

theorem growIs_eq {o : PO} {v e sz : Nat} {cells : List PV} (hg : growIs o v e sz = some cells) : o = .grow v cells e sz := by
 unfold growIs at hg
 split at hg
 ·split at hg
  ·rename_i hc; obtain ⟨rfl, rfl, rfl⟩ := hc; cases hg; rfl
  ·cases hg
 ·cases hg
theorem RepG.drop_take {ps : List PV} {us : List Value} (hr : ∀ (i : Nat) (p : PV) (u : Value), ps[i]? = some p → us[i]? = some u → RepP F φ h p u ∧ u.oneCell' = true) (hl : ps.length ≤ us.length) {a k : Nat} (hle : a + k ≤ ps.length) :
  RepG F φ h ((ps.drop a).take k) ((us.drop a).take k) := by
 refine ⟨by simp only [List.length_take, List.length_drop]; omega, fun i p u hp hu => ?_⟩
 rw [List.getElem?_take] at hp hu
 split at hp
 ·rename_i hi
  rw [if_pos hi] at hu
  rw [List.getElem?_drop] at hp hu
  exact hr _ p u hp hu
 ·cases hp

theorem sim_bytesF (H : RH P C F φ h w) {src dst e : TypeId} {s : ByteArray} (hs : P.underlying src = some .string) (hd : sliceO P dst = some e) (he : kindO P e = some .u8) (hle : s.size ≤ 140737488355328) :
  Sim P C h (((do pure (Next.value (← convert src dst (.string s)))) : Sem Next).run P w) (.t (.sl (bytesT s) s.size false)) [] := by
 have he' : P.underlying e = some (.int .u8) := by
  unfold kindO at he
  split at he
  ·rename_i k hk; cases he; exact hk
  ·cases he
 have hrow : bytesRow s (grownCap w s.size 0 e) = (s.data.toList.map (fun b : UInt8 => Value.int .u8 b.toNat) ++ (Array.replicate (grownCap w s.size 0 e - s.size) (Value.int .u8 0)).toList).toArray := by
  unfold bytesRow
  apply Array.ext'
  simp
 have hrun := run_bytes_of_string w src dst e s hs (sliceO_some hd) he'
 rw [hrow] at hrun
 have lift : ∀ {x : Sem Value} {u : Value} {w' : World}, x.run P w = .ok u w' → ((do pure (Next.value (← x))) : Sem Next).run P w = .ok (.value u) w' := fun hx => by
  simp only [Sem.run_bind, hx, Result.andThen_ok, Sem.run_pure]
 have hrun2 := lift hrun
 refine ⟨F.with w.heap.size (s.data.toList.map (fun b : UInt8 => Value.int .u8 b.toNat)), φ, _, _, .inl hrun2,
  H.drew.grow (Fz.le_with H.drew _) (agree_withF H.drew _ _ _ _) (news_with (w := w.drew) _) (below_alloc w.drew _), ?_⟩
 refine RepT.row (w := w) _ ⟨by simp [bytesT], fun i c u hc hu => ?_⟩ (fun i u hu => ?_) (Fz.le_with H _) _ _ _ (grownCap_ge _ _ _ _) (fun e => by cases e) (grownCap_le_maxLen _ _ _ _ (by unfold maxLen; omega))
 ·simp only [bytesT, List.getElem?_map, Option.map_eq_some_iff] at hc hu
  obtain ⟨b, hb, rfl⟩ := hc
  obtain ⟨b', hb', rfl⟩ := hu
  rw [hb] at hb'; cases hb'
  exact .int _ _
 ·simp only [List.getElem?_map, Option.map_eq_some_iff] at hu
  obtain ⟨b, _, rfl⟩ := hu
  rfl

theorem sim_bytesM (H : RH P C F φ h w) {src dst e : TypeId} {s : ByteArray} {rid : Nat} (hs : P.underlying src = some .string) (hd : sliceO P dst = some e) (he : kindO P e = some .u8) (hco : P.cellsOf e = 1) (hle : s.size ≤ 140737488355328) (hres : h rid = .res) :
  Sim P C h (((do pure (Next.value (← convert src dst (.string s)))) : Sem Next).run P w) (.gsl rid 0 1 0 s.size false) [(rid, .grow 0 ((bytesT s).map .t) e 1)] := by
 have he' : P.underlying e = some (.int .u8) := by
  unfold kindO at he
  split at he
  ·rename_i k hk; cases he; exact hk
  ·cases he
 have hrow : bytesRow s (grownCap w s.size 0 e) = (s.data.toList.map (fun b : UInt8 => Value.int .u8 b.toNat) ++ (Array.replicate (grownCap w s.size 0 e - s.size) (Value.int .u8 0)).toList).toArray := by
  unfold bytesRow
  apply Array.ext'
  simp
 have hrun := run_bytes_of_string w src dst e s hs (sliceO_some hd) he'
 rw [hrow] at hrun
 have lift : ∀ {x : Sem Value} {u : Value} {w' : World}, x.run P w = .ok u w' → ((do pure (Next.value (← x))) : Sem Next).run P w = .ok (.value u) w' := fun hx => by
  simp only [Sem.run_bind, hx, Result.andThen_ok, Sem.run_pure]
 have hrun2 := lift hrun
 have hge := grownCap_ge w s.size 0 e
 have hsz : s.data.toList.length = s.size := by rw [Array.length_toList]; rfl
 have hL : RepL F (bytesT s) (s.data.toList.map (fun b : UInt8 => Value.int .u8 b.toNat)) := ⟨by simp [bytesT], fun i c u hc hu => by
  simp only [bytesT, List.getElem?_map, Option.map_eq_some_iff] at hc hu
  obtain ⟨b, hb, rfl⟩ := hc
  obtain ⟨b', hb', rfl⟩ := hu
  rw [hb] at hb'; cases hb'
  exact .int _ _⟩
 have hO : Ones (s.data.toList.map (fun b : UInt8 => Value.int .u8 b.toNat)) := fun i u hu => by
  simp only [List.getElem?_map, Option.map_eq_some_iff] at hu
  obtain ⟨b, _, rfl⟩ := hu
  rfl
 obtain ⟨a, b⟩ := newGrowM (n := s.size) (cap := grownCap w s.size 0 e) (rest := (Array.replicate (grownCap w s.size 0 e - s.size) (Value.int .u8 0)).toList) (sz := 1) (e := e) H.drew
  ((s.data.toList.map (fun b : UInt8 => Value.int .u8 b.toNat) ++ (Array.replicate (grownCap w s.size 0 e - s.size) (Value.int .u8 0)).toList).toArray.size, (s.data.toList.map (fun b : UInt8 => Value.int .u8 b.toNat) ++ (Array.replicate (grownCap w s.size 0 e - s.size) (Value.int .u8 0)).toList).toArray.size + 1)
  hres (RepG.of_t (φ := φ) (h := h) hL hO) (fun _ => Nat.le_of_eq List.size_toArray.symm) (by rw [List.length_map, hsz, Nat.mul_one]) (by simp only [List.length_map, hsz, Array.length_toList, Array.size_replicate]; omega) hge (grownCap_le_maxLen _ _ _ _ (by unfold maxLen; omega)) hco
 exact ⟨F, _, _, _, .inl hrun2, a, b⟩

theorem sim_text (H : RH P C F φ h w) {src dst : TypeId} {x v : PV} {u : Value} {W : Wr} (hp : textO P src dst (srcG 1 x h) = some (v, W)) (hr : RepP F φ h x u) :
  Sim P C h (((do pure (Next.value (← convert src dst u))) : Sem Next).run P w) v W := by
 unfold textO at hp
 split at hp
 ·rename_i ds m hsrc
  split at hp
  ·rename_i e hs hd
   split at hp
   ·rename_i he
    have he' : P.underlying e = some (.int .u8) := by
     unfold kindO at he
     split at he
     ·rename_i k hk; cases he; exact hk
     ·cases he
    simp only [Option.map_eq_some_iff, Prod.mk.injEq] at hp
    obtain ⟨ns, hns, rfl, rfl⟩ := hp
    rcases srcG_some H hsrc hr with ⟨rfl, rfl, rfl⟩ | ⟨a, c, us, rfl, h2, h3, h4⟩
    ·simp [allO] at hns
     subst hns
     have := run_convert_bytes_nil (P := P) w src e (sliceO_some hs) he' 0 0 dst hd
     exact Sim.quiet H (by simp only [Sem.run_bind, this, Result.andThen_ok, Sem.run_pure]; rfl) (RepT.str _)
    ·obtain ⟨e1, e2⟩ := allO_some hns
     have hus : us = ns.map (Value.int .u8) := by
      apply List.ext_getElem?
      intro i
      rcases Nat.lt_or_ge i ds.length with hi | hi
      ·have hd' := List.getElem?_eq_getElem hi
       have hn : i < ns.length := by rw [e1]; exact hi
       have hu : i < us.length := by rw [h3.1]; exact hi
       have hnn := List.getElem?_eq_getElem hn
       have huu := List.getElem?_eq_getElem hu
       have q := e2 i _ _ hd' hnn
       have r := (h3.2 i _ _ hd' huu).1
       rw [huu, List.getElem?_map, hnn]
       simp only [Option.map_some, Option.some.injEq]
       unfold numP at q
       split at q
       ·rename_i n hq; cases q; rw [hq] at r; revert r; generalize us[i] = z; intro r; cases r; rfl
       ·cases q
      ·rw [List.getElem?_eq_none (by rw [h3.1]; exact hi), List.getElem?_eq_none (by rw [List.length_map, e1]; exact hi)]
     have hm : m = ns.length := by have := h3.1; omega
     have hl := run_loadCells_list (P := P) w a us h4
     rw [hus] at hl
     rw [List.length_map] at hl
     have hb := run_bytesToString (P := P) w a ns.length c ns hl
     rw [foldl_push_bytes] at hb
     have := run_convert_bytes_string (P := P) w src dst e (some a) ns.length c (sliceO_some hs) he' hd
     rw [hb] at this
     subst hm
     refine Sim.quiet H (u := .string (strOfNums ns)) ?_ (RepT.str _)
     simp only [Sem.run_bind, this, Result.andThen_ok, Sem.run_pure]
     simp [strOfNums, ByteArray.empty, ByteArray.emptyWithCapacity]
     rfl
   ·cases hp
  ·cases hp
 ·cases hp

end Go.Pm
