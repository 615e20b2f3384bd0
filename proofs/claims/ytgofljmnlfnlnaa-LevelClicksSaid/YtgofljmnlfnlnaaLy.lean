/- Level, plain, 2: the zeros, one after the other. -/
import Derived.Test.YtgofljmnlfnlnaaLp
namespace Go.Oc
open Go Go.Pm

theorem fold_le {w z : Int} : ∀ (l : List Mk) (s : Span), s.lo ≤ (l.foldl (inS w z) s).lo ∧ (l.foldl (inS w z) s).hi ≤ s.hi
  | [], s => ⟨Int.le_refl _, Int.le_refl _⟩
  | m :: l, s => by
    have := fold_le (w := w) (z := z) l (inS w z s m)
    simp only [List.foldl_cons]
    have h1 : s.lo ≤ (inS w z s m).lo := by simp only [inS]; omega
    have h2 : (inS w z s m).hi ≤ s.hi := by simp only [inS]; omega
    omega
theorem withinS_take {w z : Int} (l : List Mk) (i : Nat) : (withinS w (l.take i) z).lo ≤ (withinS w l z).lo ∧ (withinS w l z).hi ≤ (withinS w (l.take i) z).hi := by
  have := fold_le (w := w) (z := z) (l.drop i) (withinS w (l.take i) z)
  have e : withinS w l z = (l.drop i).foldl (inS w z) (withinS w (l.take i) z) := by
    unfold withinS; rw [← List.foldl_append, List.take_append_drop]
  rw [e]; exact this
theorem withinS_snoc {w z : Int} {l : List Mk} {i : Nat} {x : Mk} (h : l[i]? = some x) : withinS w (l.take (i + 1)) z = inS w z (withinS w (l.take i) z) x := by
  unfold withinS; rw [take_snoc h, List.foldl_append]; rfl
/-- How many zeros so far can be. -/
def cz (v : Vial) (l : List Mk) (k : Nat) : Nat := (zerosOf v l (range v.z0 k)).length
theorem cz_zero (v : Vial) (l : List Mk) : cz v l 0 = 0 := rfl
theorem cz_out {v : Vial} {l : List Mk} {k : Nat} (h : ¬ (withinS v.wr l (v.z0 + k)).lo ≤ (withinS v.wr l (v.z0 + k)).hi) : cz v l (k + 1) = cz v l k := by
  unfold cz; rw [range_succ, zerosOf_snoc, foundZ, if_neg h, List.append_nil]
theorem cz_in {v : Vial} {l : List Mk} {k : Nat} (h : (withinS v.wr l (v.z0 + k)).lo ≤ (withinS v.wr l (v.z0 + k)).hi) : cz v l (k + 1) = cz v l k + 1 := by
  unfold cz; rw [range_succ, zerosOf_snoc, foundZ, if_pos h]; simp
theorem range_take (a : Int) (n k : Nat) (h : k ≤ n) : ∃ r, range a n = range a k ++ r := by
  refine ⟨(range a n).drop k, ?_⟩
  have e : range a k = (range a n).take k := by
    unfold range; rw [← List.map_take, List.take_range, Nat.min_eq_left h]
  rw [e, List.take_append_drop]
theorem zerosOf_append (v : Vial) (l : List Mk) (a b : List Int) : zerosOf v l (a ++ b) = zerosOf v l a ++ zerosOf v l b := by
  unfold zerosOf; rw [List.filterMap_append]
theorem zerosOf_at {v : Vial} {l : List Mk} {k : Nat} (h : (withinS v.wr l (v.z0 + k)).lo ≤ (withinS v.wr l (v.z0 + k)).hi) (hk : k < (v.z1 - v.z0 + 1).toNat) :
    (zerosOf v l (allZ v))[cz v l k]? = some (v.z0 + k, withinS v.wr l (v.z0 + k)) := by
  obtain ⟨r, hr⟩ := range_take v.z0 (v.z1 - v.z0 + 1).toNat (k + 1) (by omega)
  unfold allZ
  rw [hr, range_succ, zerosOf_append, zerosOf_snoc, foundZ, if_pos h, List.append_assoc]
  unfold cz
  simp
theorem cz_le {v : Vial} {l : List Mk} {k : Nat} (hk : k ≤ (v.z1 - v.z0 + 1).toNat) : cz v l k ≤ (zerosOf v l (allZ v)).length := by
  obtain ⟨r, hr⟩ := range_take v.z0 (v.z1 - v.z0 + 1).toNat k hk
  unfold allZ cz
  rw [hr, zerosOf_append]; simp
theorem cz_all (v : Vial) (l : List Mk) : cz v l (v.z1 - v.z0 + 1).toNat = (zerosOf v l (allZ v)).length := rfl
/-- What is known of the tilt behind so many readings. -/
def pS (w z : Int) (l : List Mk) (i : Nat) : Span := if i = 0 then ⟨0, 0⟩ else withinS w (l.take i) z
theorem pS_one {w z : Int} {l : List Mk} {x : Mk} (hw : 0 ≤ w ∧ w ≤ 8) (hz : 0 ≤ z ∧ z ≤ 400) (hx : 0 ≤ x.at' ∧ x.at' ≤ 400) (h : l[0]? = some x) : withinS w (l.take 1) z = ⟨outM x z - w, outM x z + w⟩ := by
  rw [withinS_snoc h]
  simp only [List.take_zero, withinS, List.foldl_nil, inS, Span.mk.injEq]
  simp only [outM]
  split <;> omega
end Go.Oc
