/- Level, plain, 3: gains, faults, choices. -/
import Derived.Test.YtgofljmnlfnlnaaLy
namespace Go.Oc
open Go Go.Pm

theorem tiltStep_bound {v : Vial} (hv : v.ok = true) {x : TZ} {y : Int × Span} (hx : -5000000 ≤ x.tilt.lo ∧ x.tilt.lo ≤ 5000000 ∧ -5000000 ≤ x.tilt.hi ∧ x.tilt.hi ≤ 5000000) (h1 : -10000 ≤ y.2.lo ∧ y.2.lo ≤ 10000) (h2 : -10000 ≤ y.2.hi ∧ y.2.hi ≤ 10000) :
    -5000000 ≤ (tiltStep v x y).tilt.lo ∧ (tiltStep v x y).tilt.lo ≤ 5000000 ∧ -5000000 ≤ (tiltStep v x y).tilt.hi ∧ (tiltStep v x y).tilt.hi ≤ 5000000 := by
  have hv' := Vial.ok_iff.1 hv
  have p1 := mulB (a := y.2.lo) (b := v.v0) (by omega) (by omega)
  have p2 := mulB (a := y.2.lo) (b := v.v1) (by omega) (by omega)
  have p3 := mulB (a := y.2.hi) (b := v.v0) (by omega) (by omega)
  have p4 := mulB (a := y.2.hi) (b := v.v1) (by omega) (by omega)
  unfold tiltStep leastP mostP
  split <;> simp only <;> omega
theorem tiltsOf_bound {v : Vial} (hv : v.ok = true) : ∀ {ys : List (Int × Span)} {x : TZ}, (-5000000 ≤ x.tilt.lo ∧ x.tilt.lo ≤ 5000000 ∧ -5000000 ≤ x.tilt.hi ∧ x.tilt.hi ≤ 5000000) → (∀ y ∈ ys, (-10000 ≤ y.2.lo ∧ y.2.lo ≤ 10000) ∧ (-10000 ≤ y.2.hi ∧ y.2.hi ≤ 10000)) →
    -5000000 ≤ (ys.foldl (tiltStep v) x).tilt.lo ∧ (ys.foldl (tiltStep v) x).tilt.lo ≤ 5000000 ∧ -5000000 ≤ (ys.foldl (tiltStep v) x).tilt.hi ∧ (ys.foldl (tiltStep v) x).tilt.hi ≤ 5000000
  | [], x, h, _ => h
  | y :: ys, x, h, hy => tiltsOf_bound hv (ys := ys) (x := tiltStep v x y) (tiltStep_bound hv h (hy y List.mem_cons_self).1 (hy y List.mem_cons_self).2) fun z hz => hy z (List.mem_cons_of_mem _ hz)
theorem zerosOf_mem {v : Vial} {l : List Mk} {y : Int × Span} (h : y ∈ zerosOf v l (allZ v)) : y.2 = withinS v.wr l y.1 ∧ y.2.lo ≤ y.2.hi ∧ v.z0 ≤ y.1 ∧ y.1 ≤ v.z1 := by
  unfold zerosOf allZ range at h
  simp only [List.mem_filterMap, List.mem_map, List.mem_range] at h
  obtain ⟨z, ⟨k, hk, rfl⟩, h⟩ := h
  split at h
  · rename_i hle; cases h; exact ⟨rfl, hle, by simp only; omega, by simp only; omega⟩
  · cases h
theorem tilts_bound {v : Vial} {l : List Mk} (hv : v.ok = true) (hm : mksOk l = true) : -5000000 ≤ (tilts v l).tilt.lo ∧ (tilts v l).tilt.lo ≤ 5000000 ∧ -5000000 ≤ (tilts v l).tilt.hi ∧ (tilts v l).tilt.hi ≤ 5000000 := by
  have hv' := Vial.ok_iff.1 hv
  refine tiltsOf_bound hv (by simp) fun y hy => ?_
  obtain ⟨h1, h2, h3, h4⟩ := zerosOf_mem hy
  have hb := withinS_bound (w := v.wr) (z := y.1) (by omega) (by omega) (l := l) (s := ⟨-10000, 10000⟩) hm (by simp)
  have hwi : withinS v.wr l y.1 = l.foldl (inS v.wr y.1) ⟨-10000, 10000⟩ := rfl
  rw [← hwi, ← h1] at hb
  omega
theorem tiltStep_is (v : Vial) (x : TZ) (y : Int × Span) : (tiltStep v x y).is = true := by unfold tiltStep; split <;> rfl
theorem fold_is (v : Vial) : ∀ (ys : List (Int × Span)) (x : TZ), (ys.foldl (tiltStep v) x).is = (x.is || !ys.isEmpty)
  | [], x => by simp
  | y :: ys, x => by rw [List.foldl_cons, fold_is v ys]; simp [tiltStep_is]
theorem fold_le2 {v : Vial} (hv : v.ok = true) : ∀ (ys : List (Int × Span)) (x : TZ), x.is = true → x.tilt.lo ≤ x.tilt.hi → (∀ y ∈ ys, y.2.lo ≤ y.2.hi) → (ys.foldl (tiltStep v) x).tilt.lo ≤ (ys.foldl (tiltStep v) x).tilt.hi
  | [], x, _, h, _ => h
  | y :: ys, x, hi, h, hy => by
    refine fold_le2 hv ys _ (tiltStep_is v x y) ?_ fun z hz => hy z (List.mem_cons_of_mem _ hz)
    unfold tiltStep
    rw [if_pos hi]
    simp only; omega
theorem tilts_le {v : Vial} {l : List Mk} (hv : v.ok = true) (h : (tilts v l).is = true) : (tilts v l).tilt.lo ≤ (tilts v l).tilt.hi := by
  unfold tilts tiltsOf at *
  have hz : ∀ y ∈ zerosOf v l (allZ v), y.2.lo ≤ y.2.hi := fun y hy => (zerosOf_mem hy).2.1
  generalize zerosOf v l (allZ v) = ys at *
  cases ys with
  | nil => simp at h
  | cons y ys =>
    rw [List.foldl_cons]
    refine fold_le2 hv ys _ (tiltStep_is _ _ _) ?_ fun z hz' => hz z (List.mem_cons_of_mem _ hz')
    unfold tiltStep
    simp only [Bool.false_eq_true, if_false]
    exact least_most hv (hz y List.mem_cons_self)
theorem tilts_no {v : Vial} {l : List Mk} (h : (tilts v l).is = false) : tilts v l = ⟨⟨0, 0⟩, ⟨0, 0⟩, false⟩ := by
  unfold tilts tiltsOf at *
  rw [fold_is] at h
  simp only [Bool.false_or, Bool.not_eq_false', List.isEmpty_iff] at h
  rw [h]; rfl

/-- How wide a tilt is. -/
def wideT (x : TZ) : Int := x.tilt.hi - x.tilt.lo
def gainStep (v : Vial) (l : List Mk) (tu : Bool) (g : Option Int) (a : Int) : Option Int :=
  if (tilts v (l ++ [⟨a, tu⟩])).is then some (match g with | none => wideT (tilts v (l ++ [⟨a, tu⟩])) | some n => max n (wideT (tilts v (l ++ [⟨a, tu⟩])))) else g
/-- The gain behind so many middles. -/
def gainTo (v : Vial) (l : List Mk) (tu : Bool) (k : Nat) : Option Int := (range 0 k).foldl (gainStep v l tu) none
def gainOf (v : Vial) (l : List Mk) (tu : Bool) : Option Int := gainTo v l tu (2 * v.marks + 1).toNat
theorem gainTo_succ (v : Vial) (l : List Mk) (tu : Bool) (k : Nat) : gainTo v l tu (k + 1) = gainStep v l tu (gainTo v l tu k) k := by
  unfold gainTo; rw [range_succ, List.foldl_append]; simp
/-- What Next hands back. -/
def nextP (v : Vial) (l : List Rd) : Bool × Int × Int :=
  if asked v l = 0 then
    if l.length = 8 then (false, 0, 6)
    else if (tilts v (l.map mid)).is then
      (match gainOf v (l.map mid) false, gainOf v (l.map mid) true with
        | none, none => (false, 0, 0)
        | some d, none => (false, d, 0)
        | none, some t => (true, t, 0)
        | some d, some t => if t < d then (true, t, 0) else (false, d, 0))
    else (false, 0, 33)
  else (false, 0, asked v l)

def faultStep (v : Vial) (m : Int) (a : Int) : Int := if inB a v.l1 (2 * v.marks - v.l1) && (tilts v [⟨a, false⟩]).is then max m (wideT (tilts v [⟨a, false⟩])) else m
def faultTo (v : Vial) (k : Nat) : Int := (range 0 k).foldl (faultStep v) 0
def faultOf (v : Vial) : Int := faultTo v (2 * v.marks + 1).toNat
theorem faultTo_succ (v : Vial) (k : Nat) : faultTo v (k + 1) = faultStep v (faultTo v k) k := by
  unfold faultTo; rw [range_succ, List.foldl_append]; simp
theorem faultTo_bound {v : Vial} (hv : v.ok = true) : ∀ k : Nat, k ≤ 401 → 0 ≤ faultTo v k ∧ faultTo v k ≤ 10000000
  | 0, _ => by simp [faultTo, range]
  | k + 1, h => by
    have ih := faultTo_bound hv k (by omega)
    rw [faultTo_succ]
    unfold faultStep
    split
    · have := tilts_bound (l := [⟨k, false⟩]) hv (by simp [mksOk, inB]; omega)
      unfold wideT; omega
    · exact ih
/-- Does a vial do for a wish? -/
def doesP (v : Vial) (rg fl : Int) : Bool := decide (min (v.z0 - v.l1) (2 * v.marks - v.l1 - v.z1) ≥ 0) && decide (rg ≤ v.v0 * min (v.z0 - v.l1) (2 * v.marks - v.l1 - v.z1)) && decide (faultOf v ≤ fl)
end Go.Oc
