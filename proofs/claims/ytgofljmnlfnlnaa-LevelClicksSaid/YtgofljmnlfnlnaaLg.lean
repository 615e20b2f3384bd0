/- Level, plain, 4: which readings are taken. -/
import Derived.Test.YtgofljmnlfnlnaaLq
namespace Go.Oc
open Go Go.Pm

structure Tk where
  b0 : Bool
  b1 : Bool
  b2 : Bool
  b3 : Bool
  b4 : Bool
  b5 : Bool
  b6 : Bool
  b7 : Bool
  deriving DecidableEq
def Tk.none : Tk := ⟨false, false, false, false, false, false, false, false⟩
def Tk.at (T : Tk) : Nat → Bool
  | 0 => T.b0 | 1 => T.b1 | 2 => T.b2 | 3 => T.b3 | 4 => T.b4 | 5 => T.b5 | 6 => T.b6 | 7 => T.b7 | _ => false
def Tk.set (T : Tk) (i : Nat) : Tk := ⟨T.b0 || i == 0, T.b1 || i == 1, T.b2 || i == 2, T.b3 || i == 3, T.b4 || i == 4, T.b5 || i == 5, T.b6 || i == 6, T.b7 || i == 7⟩
theorem lt8 {i : Nat} (h : i < 8) : i = 0 ∨ i = 1 ∨ i = 2 ∨ i = 3 ∨ i = 4 ∨ i = 5 ∨ i = 6 ∨ i = 7 := by omega
theorem Tk.at_set (T : Tk) {i : Nat} (hi : i < 8) (j : Nat) : (T.set i).at j = (T.at j || i == j) := by
  by_cases hj : j < 8
  · rcases lt8 hj with rfl | rfl | rfl | rfl | rfl | rfl | rfl | rfl <;> rfl
  · have : (i == j) = false := by simp; omega
    rw [this]
    unfold Tk.at
    split <;> first | omega | rfl
def sel (l : List Mk) (T : Tk) (k : Nat) : List Mk := ((List.range k).filter T.at).filterMap (l[·]?)
def idx (T : Tk) (k : Nat) : List Int := ((List.range k).filter T.at).map Int.ofNat
theorem sel_t {l : List Mk} {T : Tk} {k : Nat} {x : Mk} (h : T.at k = true) (hx : l[k]? = some x) : sel l T (k + 1) = sel l T k ++ [x] := by
  simp [sel, List.range_succ, List.filter_append, h, hx]
theorem sel_f {l : List Mk} {T : Tk} {k : Nat} (h : T.at k = false) : sel l T (k + 1) = sel l T k := by
  simp [sel, List.range_succ, List.filter_append, h]
theorem idx_t {T : Tk} {k : Nat} (h : T.at k = true) : idx T (k + 1) = idx T k ++ [(k : Int)] := by
  simp [idx, List.range_succ, List.filter_append, h]
theorem idx_f {T : Tk} {k : Nat} (h : T.at k = false) : idx T (k + 1) = idx T k := by
  simp [idx, List.range_succ, List.filter_append, h]
/-- How many are taken. -/
def cntT (T : Tk) (k : Nat) : Nat := ((List.range k).filter T.at).length
theorem cnt_t {T : Tk} {k : Nat} (h : T.at k = true) : cntT T (k + 1) = cntT T k + 1 := by
  simp [cntT, List.range_succ, List.filter_append, h]
theorem cnt_f {T : Tk} {k : Nat} (h : T.at k = false) : cntT T (k + 1) = cntT T k := by
  simp [cntT, List.range_succ, List.filter_append, h]
theorem idx_len (T : Tk) (k : Nat) : (idx T k).length = cntT T k := by simp [idx, cntT]
theorem cnt_le (T : Tk) : ∀ k, cntT T k ≤ k
  | 0 => by simp [cntT]
  | k + 1 => by
    have := cnt_le T k
    cases h : T.at k
    · rw [cnt_f h]; omega
    · rw [cnt_t h]; omega
theorem sel_len {l : List Mk} {T : Tk} : ∀ {k : Nat}, k ≤ l.length → (sel l T k).length = cntT T k
  | 0, _ => by simp [sel, cntT]
  | k + 1, h => by
    have ih := sel_len (l := l) (T := T) (k := k) (by omega)
    cases ht : T.at k
    · rw [sel_f ht, cnt_f ht, ih]
    · rw [sel_t ht (List.getElem?_eq_getElem (by omega)), cnt_t ht]; simp [ih]
theorem cnt_pos {T : Tk} {n i : Nat} (hi : i < n) (h : T.at i = true) : 0 < cntT T n := by
  unfold cntT
  exact List.length_pos_of_mem (List.mem_filter.2 ⟨List.mem_range.2 hi, h⟩)
theorem sel_ok {l : List Mk} {T : Tk} {k : Nat} (h : mksOk l = true) : mksOk (sel l T k) = true := by
  simp only [mksOk, List.all_eq_true] at h ⊢
  intro x hx
  obtain ⟨i, _, hi⟩ := List.mem_filterMap.1 hx
  exact h x (List.mem_of_getElem? hi)
/-- Those that are taken, as a row of numbers. -/
def leafO (T : Tk) (n : Nat) : TV := .sl (ints (idx T n)) (idx T n).length false
/-- The search: found, and what was looked at last. -/
def chooseS (v : Vial) (l : List Mk) : Nat → Tk → Nat → TV → Bool × TV
  | 0, T, _, _ => (!(tilts v (sel l T l.length)).is, leafO T l.length)
  | m + 1, T, fr, o => (List.range' fr (l.length - fr)).foldl (fun acc i => if acc.1 then acc else chooseS v l m (T.set i) (i + 1) acc.2) (false, o)
def chooseTo (v : Vial) (l : List Mk) (m : Nat) (T : Tk) (fr : Nat) (o : TV) (j : Nat) : Bool × TV := (List.range' fr j).foldl (fun acc i => if acc.1 then acc else chooseS v l m (T.set i) (i + 1) acc.2) (false, o)
theorem chooseS_succ (v : Vial) (l : List Mk) (m : Nat) (T : Tk) (fr : Nat) (o : TV) : chooseS v l (m + 1) T fr o = chooseTo v l m T fr o (l.length - fr) := rfl
theorem chooseTo_succ {v : Vial} {l : List Mk} {m : Nat} {T : Tk} {fr : Nat} {o : TV} {j : Nat} (h : (chooseTo v l m T fr o j).1 = false) :
    chooseTo v l m T fr o (j + 1) = chooseS v l m (T.set (fr + j)) (fr + j + 1) (chooseTo v l m T fr o j).2 := by
  unfold chooseTo at h ⊢
  rw [List.range'_1_concat, List.foldl_append]
  simp only [List.foldl_cons, List.foldl_nil]
  rw [if_neg (by rw [h]; simp)]
theorem chooseTo_stop {v : Vial} {l : List Mk} {m : Nat} {T : Tk} {fr : Nat} {o : TV} {j : Nat} (h : (chooseTo v l m T fr o j).1 = true) : ∀ d, chooseTo v l m T fr o (j + d) = chooseTo v l m T fr o j
  | 0 => rfl
  | d + 1 => by
    have ih := chooseTo_stop h d
    rw [← Nat.add_assoc]
    unfold chooseTo at h ih ⊢
    rw [List.range'_1_concat, List.foldl_append, ih]
    simp only [List.foldl_cons, List.foldl_nil]
    rw [if_pos h]
theorem ints_snoc (l : List Int) (x : Int) : ints (l ++ [x]) = ints l ++ [.int .i64 x] := by simp [ints]
/-- What False has come to behind so many sizes. -/
def falseTo (v : Vial) (l : List Mk) : Nat → Bool × TV
  | 0 => (false, .nilSl)
  | k + 1 => if (falseTo v l k).1 then falseTo v l k else chooseS v l (k + 1) Tk.none 0 (falseTo v l k).2
theorem falseTo_stop {v : Vial} {l : List Mk} {k : Nat} (h : (falseTo v l k).1 = true) : ∀ d, falseTo v l (k + d) = falseTo v l k
  | 0 => rfl
  | d + 1 => by
    have ih := falseTo_stop h d
    rw [← Nat.add_assoc, falseTo, ih, if_pos h]
theorem falseTo_next {v : Vial} {l : List Mk} {k : Nat} (h : (falseTo v l k).1 = false) : falseTo v l (k + 1) = chooseS v l (k + 1) Tk.none 0 (falseTo v l k).2 := by
  rw [falseTo, if_neg (by rw [h]; simp)]
/-- What False hands back. -/
def falseP (v : Vial) (l : List Rd) : TV × Int :=
  if asked v l = 0 then (if (tilts v (l.map mid)).is then (.nilSl, 4) else ((falseTo v (l.map mid) l.length).2, 0)) else (.nilSl, asked v l)
end Go.Oc
