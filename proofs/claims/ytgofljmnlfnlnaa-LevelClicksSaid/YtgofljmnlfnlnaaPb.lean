/- Plain: numbers and lists, as the small helpers reckon them. -/
import Derived.Test.YtgofljmnlfnlnaaQmZ
namespace Go.Oc
open Go Go.Pm

/-- A number that an int can hold. -/
def In64 (n : Int) : Prop := -9223372036854775808 ≤ n ∧ n ≤ 9223372036854775807
theorem wrap_id {n : Int} (h : In64 n) : IntKind.i64.wrap n = n := wrap_in h.1 h.2

def inB (n lo hi : Int) : Bool := decide (lo ≤ n) && decide (n ≤ hi)
theorem inB_iff {n lo hi : Int} : inB n lo hi = true ↔ lo ≤ n ∧ n ≤ hi := by simp [inB]

structure Span where
  lo : Int
  hi : Int
  deriving DecidableEq
def Span.cs (s : Span) : List TV := [.int .i64 s.lo, .int .i64 s.hi]
def Span.t (s : Span) : TV := .agg s.cs
def spannedB (s : Span) (lo hi : Int) : Bool := decide (lo ≤ s.lo) && decide (s.lo ≤ s.hi) && decide (s.hi ≤ hi)
def widerS (s : Span) (n : Int) (first : Bool) : Span := if first then ⟨n, n⟩ else ⟨min s.lo n, max s.hi n⟩
def chosen (lo hi n : Int) : Int := if lo ≥ hi then lo else if 9223372036854775807 < hi - lo + 1 then min (max n lo) hi else lo + n % (hi - lo + 1)
theorem chosen_mem {lo hi : Int} (n : Int) (h : lo ≤ hi) : lo ≤ chosen lo hi n ∧ chosen lo hi n ≤ hi := by
  unfold chosen
  split
  · omega
  · split
    · omega
    · have h1 := Int.emod_nonneg n (show hi - lo + 1 ≠ 0 by omega)
      have h2 := Int.emod_lt_of_pos n (show 0 < hi - lo + 1 by omega)
      omega
theorem chosen_low {lo hi : Int} (n : Int) (h : ¬ lo ≤ hi) : chosen lo hi n = lo := by
  unfold chosen; rw [if_pos (by omega)]

/-- A list of ints, as cells. -/
def ints (l : List Int) : List TV := l.map (TV.int .i64)
theorem ints_at {l : List Int} {k : Nat} {x : Int} (h : l[k]? = some x) : (ints l).drop (k * 1) = .int .i64 x :: ints (l.drop (k + 1)) := by
  unfold ints
  rw [Nat.mul_one, ← List.map_drop]
  have hk := (List.getElem?_eq_some_iff.1 h).1
  rw [List.drop_eq_getElem_cons hk, List.map_cons]
  congr 2
  exact (List.getElem?_eq_some_iff.1 h).2
theorem ints_inj : ∀ {a b : List Int}, ints a = ints b → a = b
  | [], [], _ => rfl
  | x :: a, y :: b, h => by
    simp only [ints, List.map_cons, List.cons.injEq, TV.int.injEq, true_and] at h
    rw [h.1, ints_inj (a := a) (b := b) h.2]
  | [], _ :: _, h => by simp [ints] at h
  | _ :: _, [], h => by simp [ints] at h
theorem ints_len (l : List Int) : (ints l).length = l.length := by simp [ints]
noncomputable def unints (cs : List TV) : Option (List Int) := open Classical in if h : ∃ l, cs = ints l then some h.choose else none
theorem unints_eq (l : List Int) : unints (ints l) = some l := by
  have h : ∃ l', ints l = ints l' := ⟨l, rfl⟩
  unfold unints
  rw [dif_pos h]
  congr 1
  exact (ints_inj h.choose_spec).symm

/-- Lists of structs. -/
theorem flat_at {α : Type} (c : α → List TV) {n : Nat} (hc : ∀ x, (c x).length = n) : ∀ {l : List α} {k : Nat} {x : α}, l[k]? = some x → (l.flatMap c).drop (k * n) = c x ++ (l.drop (k + 1)).flatMap c
  | [], k, x, h => by simp at h
  | y :: l, 0, x, h => by simp at h; subst h; simp
  | y :: l, k + 1, x, h => by
    simp at h
    have := flat_at c hc h
    simp only [List.flatMap_cons, List.drop_succ_cons, Nat.add_mul, Nat.one_mul]
    rw [Nat.add_comm, List.drop_append, hc y]
    simp [List.drop_eq_nil_of_le, hc y, this]
theorem flat_len {α : Type} (c : α → List TV) {n : Nat} (hc : ∀ x, (c x).length = n) (l : List α) : (l.flatMap c).length = l.length * n := by
  induction l with
  | nil => simp
  | cons x l ih => simp only [List.flatMap_cons, List.length_append, hc, ih, List.length_cons, Nat.add_mul]; omega
theorem flat_inj {α : Type} {c : α → List TV} {n : Nat} (hc : ∀ x, (c x).length = n) (hn : 0 < n) (hi : ∀ x y, c x = c y → x = y) : ∀ {a b : List α}, a.flatMap c = b.flatMap c → a = b
  | [], [], _ => rfl
  | x :: a, y :: b, h => by
    simp only [List.flatMap_cons] at h
    have h1 := List.append_inj h (by rw [hc, hc])
    rw [hi x y h1.1, flat_inj hc hn hi h1.2]
  | [], y :: b, h => by have := congrArg List.length h; simp [hc] at this; omega
  | x :: a, [], h => by have := congrArg List.length h; simp [hc] at this; omega
noncomputable def unflat {α : Type} (c : α → List TV) (cs : List TV) : Option (List α) := open Classical in if h : ∃ l, cs = l.flatMap c then some h.choose else none
theorem unflat_eq {α : Type} {c : α → List TV} {n : Nat} (hc : ∀ x, (c x).length = n) (hn : 0 < n) (hi : ∀ x y, c x = c y → x = y) (l : List α) : unflat c (l.flatMap c) = some l := by
  have h : ∃ l' : List α, l.flatMap c = l'.flatMap c := ⟨l, rfl⟩
  unfold unflat
  rw [dif_pos h]
  congr 1
  exact (flat_inj hc hn hi h.choose_spec).symm
theorem unflat_some {α : Type} {c : α → List TV} {cs : List TV} {l : List α} (h : unflat c cs = some l) : cs = l.flatMap c := by
  unfold unflat at h
  split at h
  · rename_i hc; cases h; exact hc.choose_spec
  · cases h
theorem unints_some {cs : List TV} {l : List Int} (h : unints cs = some l) : cs = ints l := by
  unfold unints at h
  split at h
  · rename_i hc; cases h; exact hc.choose_spec
  · cases h

/-- A row of structs. -/
def IsRow {α : Type} (c : α → List TV) (s : TV) (l : List α) : Prop := (s = .nilSl ∧ l = []) ∨ ∃ full, s = .sl (l.flatMap c) l.length full
noncomputable def rowL {α : Type} (un : List TV → Option (List α)) : TV → Option (List α)
  | .nilSl => un []
  | .sl cs n _ => match un cs with
    | some l => if n = l.length then some l else none
    | none => none
  | _ => none
attribute [go_sem] rowL
theorem rowL_some {α : Type} {c : α → List TV} {un : List TV → Option (List α)} (h0 : un [] = some []) (hu : ∀ {cs l}, un cs = some l → cs = l.flatMap c) {s : TV} {l : List α} (h : rowL un s = some l) : IsRow c s l := by
  unfold rowL at h
  split at h
  · rw [h0] at h; cases h; exact .inl ⟨rfl, rfl⟩
  · split at h
    · rename_i l' hl
      split at h
      · rename_i hn
        cases h
        have := hu hl
        subst this; subst hn
        exact .inr ⟨_, rfl⟩
      · cases h
    · cases h
  · cases h
theorem IsRow.ne {α : Type} {c : α → List TV} {s : TV} {l : List α} (h : IsRow c s l) (hl : 1 ≤ l.length) : ∃ full, s = .sl (l.flatMap c) l.length full := by
  rcases h with ⟨_, rfl⟩ | h
  · simp at hl
  · exact h

theorem get_lt {α : Type} {l : List α} {k : Nat} (h : (k : Int) < (l.length : Int)) : ∃ x, l[k]? = some x := ⟨l[k]'(by omega), List.getElem?_eq_getElem (by omega)⟩
theorem take_all {α : Type} (p : α → Bool) {l : List α} {k : Nat} {x : α} (h : l[k]? = some x) : (l.take (k + 1)).all p = ((l.take k).all p && p x) := by
  rw [List.take_add_one, h]; simp
theorem take_snoc {α : Type} {l : List α} {k : Nat} {x : α} (h : l[k]? = some x) : l.take (k + 1) = l.take k ++ [x] := by
  rw [List.take_add_one, h]; rfl
theorem all_of_take {α : Type} {p : α → Bool} {l : List α} {k : Nat} (h : (l.take k).all p = false) : l.all p = false := by
  rw [← List.take_append_drop k l, List.all_append, h]; rfl

/-- May the first list stand before the second one? -/
def before : List Int → List Int → Bool
  | [], [] => false
  | [], _ :: _ => true
  | _ :: _, [] => false
  | x :: a, y :: b => if x < y then true else if y < x then false else before a b
def risingB : Int → List Int → Int → Bool
  | _, [], _ => true
  | lo, x :: l, hi => decide (lo ≤ x) && decide (x < hi) && risingB (x + 1) l hi
/-- The numbers of a set, below another one. -/
def members (set below : Nat) : List Int := ((List.range below).filter set.testBit).map Int.ofNat
end Go.Oc
