/- Level, plain: vials, readings, middles. -/
import Derived.Test.YtgofljmnlfnlnaaPb
namespace Go.Oc
open Go Go.Pm

structure Vial where
  marks : Int
  l0 : Int
  l1 : Int
  v0 : Int
  v1 : Int
  z0 : Int
  z1 : Int
  wr : Int
  deriving DecidableEq
def Vial.cs (v : Vial) : List TV := [.int .i64 v.marks, .int .i64 v.l0, .int .i64 v.l1, .int .i64 v.v0, .int .i64 v.v1, .int .i64 v.z0, .int .i64 v.z1, .int .i64 v.wr]
def Vial.t (v : Vial) : TV := .agg v.cs
def Vial.ok (v : Vial) : Bool := inB v.marks 10 200 && spannedB ⟨v.l0, v.l1⟩ 1 v.marks && spannedB ⟨v.v0, v.v1⟩ 1 500 && spannedB ⟨v.z0, v.z1⟩ 0 (2 * v.marks) && inB v.wr 0 8
theorem Vial.ok_iff {v : Vial} : v.ok = true ↔ (10 ≤ v.marks ∧ v.marks ≤ 200) ∧ (1 ≤ v.l0 ∧ v.l0 ≤ v.l1 ∧ v.l1 ≤ v.marks) ∧ (1 ≤ v.v0 ∧ v.v0 ≤ v.v1 ∧ v.v1 ≤ 500) ∧ (0 ≤ v.z0 ∧ v.z0 ≤ v.z1 ∧ v.z1 ≤ 2 * v.marks) ∧ 0 ≤ v.wr ∧ v.wr ≤ 8 := by
  simp only [Vial.ok, inB, spannedB, Bool.and_eq_true, decide_eq_true_eq]
  constructor
  · rintro ⟨⟨⟨⟨a, b, c⟩, d, e⟩, f, g⟩, h⟩; simp_all
  · rintro ⟨a, b, c, d, e⟩; simp_all

structure Rd where
  left : Int
  right : Int
  turned : Bool
  deriving DecidableEq
def Rd.cs (r : Rd) : List TV := [.int .i64 r.left, .int .i64 r.right, .bool r.turned]
def unRds : List TV → Option (List Rd)
  | [] => some []
  | .int .i64 a :: .int .i64 b :: .bool c :: r => (unRds r).map (⟨a, b, c⟩ :: ·)
  | _ => none
theorem unRds_eq : ∀ l : List Rd, unRds (l.flatMap Rd.cs) = some l
  | [] => rfl
  | x :: l => by simp [Rd.cs, unRds, unRds_eq l]
theorem unRds_some : ∀ {cs : List TV} {l : List Rd}, unRds cs = some l → cs = l.flatMap Rd.cs := by
  intro cs
  induction cs using unRds.induct with
  | case1 => intro l h; simp [unRds] at h; subst h; rfl
  | case2 a b c r ih =>
    intro l h
    simp only [unRds, Option.map_eq_some_iff] at h
    obtain ⟨l', h1, rfl⟩ := h
    rw [ih h1]; rfl
  | case3 r h1 h2 =>
    intro l h
    unfold unRds at h
    split at h
    · exact absurd rfl h1
    · exact absurd rfl (h2 _ _ _ _)
    · cases h
attribute [go_sem] unRds_eq

structure Mk where
  at' : Int
  tu : Bool
  deriving DecidableEq
def Mk.cs (m : Mk) : List TV := [.int .i64 m.at', .bool m.tu]
def unMks : List TV → Option (List Mk)
  | [] => some []
  | .int .i64 a :: .bool c :: r => (unMks r).map (⟨a, c⟩ :: ·)
  | _ => none
theorem unMks_eq : ∀ l : List Mk, unMks (l.flatMap Mk.cs) = some l
  | [] => rfl
  | x :: l => by simp [Mk.cs, unMks, unMks_eq l]
theorem unMks_some : ∀ {cs : List TV} {l : List Mk}, unMks cs = some l → cs = l.flatMap Mk.cs := by
  intro cs
  induction cs using unMks.induct with
  | case1 => intro l h; simp [unMks] at h; subst h; rfl
  | case2 a c r ih =>
    intro l h
    simp only [unMks, Option.map_eq_some_iff] at h
    obtain ⟨l', h1, rfl⟩ := h
    rw [ih h1]; rfl
  | case3 r h1 h2 =>
    intro l h
    unfold unMks at h
    split at h
    · exact absurd rfl h1
    · exact absurd rfl (h2 _ _ _)
    · cases h
attribute [go_sem] unMks_eq

/-- Is a reading one of a valid vial? -/
def rdOk (v : Vial) (x : Rd) : Bool := inB x.left 0 v.marks && inB x.right (x.left + 1) v.marks && inB (x.right - x.left) (v.l0 - v.wr) (v.l1 + v.wr)
def rdsOk (v : Vial) (l : List Rd) : Bool := inB l.length 1 8 && l.all (rdOk v)
def mid (r : Rd) : Mk := ⟨r.left + r.right, r.turned⟩
/-- The error of a vial and readings. -/
def asked (v : Vial) (l : List Rd) : Int := if v.ok = false then 30 else if rdsOk v l = false then 31 else 0
def mksOk (l : List Mk) : Bool := l.all fun m => inB m.at' 0 400
theorem mksOk_mid {v : Vial} {l : List Rd} (hv : v.ok = true) (h : rdsOk v l = true) : mksOk (l.map mid) = true := by
  simp only [rdsOk, mksOk, Bool.and_eq_true, List.all_eq_true, List.mem_map, forall_exists_index, and_imp, forall_apply_eq_imp_iff₂] at h ⊢
  intro r hr
  have := h.2 r hr
  have hm := (Vial.ok_iff.1 hv).1
  simp only [rdOk, inB, Bool.and_eq_true, decide_eq_true_eq] at this
  show inB (r.left + r.right) 0 400 = true
  rw [inB_iff]; omega

/-- How many half marks a middle is out, with a zero. -/
def outM (m : Mk) (z : Int) : Int := if m.tu then z - m.at' else m.at' - z
def inS (w z : Int) (s : Span) (m : Mk) : Span := ⟨max s.lo (outM m z - w), min s.hi (outM m z + w)⟩
/-- Between how many half marks the tilt is, by middles, with a zero. -/
def withinS (w : Int) (l : List Mk) (z : Int) : Span := l.foldl (inS w z) ⟨-10000, 10000⟩
theorem withinS_bound {w z : Int} (hw : 0 ≤ w ∧ w ≤ 8) (hz : 0 ≤ z ∧ z ≤ 400) : ∀ {l : List Mk} {s : Span}, mksOk l = true → (-10000 ≤ s.lo ∧ s.lo ≤ 10000 ∧ -10000 ≤ s.hi ∧ s.hi ≤ 10000) →
    -10000 ≤ (l.foldl (inS w z) s).lo ∧ (l.foldl (inS w z) s).lo ≤ 10000 ∧ -10000 ≤ (l.foldl (inS w z) s).hi ∧ (l.foldl (inS w z) s).hi ≤ 10000
  | [], _, _, h => h
  | m :: l, s, h, hs => by
    simp only [mksOk, List.all_cons, Bool.and_eq_true, inB, decide_eq_true_eq] at h
    refine withinS_bound hw hz (l := l) h.2 ?_
    simp only [inS, outM]
    split <;> omega

/-- Ends of products. -/
def leastP (v : Vial) (lo : Int) : Int := min (lo * v.v0) (lo * v.v1)
def mostP (v : Vial) (hi : Int) : Int := max (hi * v.v0) (hi * v.v1)
/-- The zeros of a list that can be, each with what the tilt is then, in half marks. -/
def zerosOf (v : Vial) (l : List Mk) (zs : List Int) : List (Int × Span) := zs.filterMap fun z => let s := withinS v.wr l z; if s.lo ≤ s.hi then some (z, s) else none
def range (a : Int) (n : Nat) : List Int := (List.range n).map fun (k : Nat) => a + (k : Int)
def allZ (v : Vial) : List Int := range v.z0 (v.z1 - v.z0 + 1).toNat
/-- The tilt, the zero, and whether there is one. -/
structure TZ where
  tilt : Span
  zero : Span
  is : Bool
  deriving DecidableEq
def TZ.t (x : TZ) : TV := .tup [x.tilt.t, x.zero.t, .bool x.is]
def tiltStep (v : Vial) (x : TZ) (y : Int × Span) : TZ :=
  if x.is then ⟨⟨min x.tilt.lo (leastP v y.2.lo), max x.tilt.hi (mostP v y.2.hi)⟩, ⟨x.zero.lo, y.1⟩, true⟩
  else ⟨⟨leastP v y.2.lo, mostP v y.2.hi⟩, ⟨y.1, y.1⟩, true⟩
def tiltsOf (v : Vial) (xs : List (Int × Span)) : TZ := xs.foldl (tiltStep v) ⟨⟨0, 0⟩, ⟨0, 0⟩, false⟩
def tilts (v : Vial) (l : List Mk) : TZ := tiltsOf v (zerosOf v l (allZ v))

theorem range_succ (a : Int) (n : Nat) : range a (n + 1) = range a n ++ [a + n] := by simp [range, List.range_succ]
def foundZ (v : Vial) (l : List Mk) (z : Int) : List (Int × Span) := if (withinS v.wr l z).lo ≤ (withinS v.wr l z).hi then [(z, withinS v.wr l z)] else []
theorem zerosOf_snoc (v : Vial) (l : List Mk) (zs : List Int) (z : Int) : zerosOf v l (zs ++ [z]) = zerosOf v l zs ++ foundZ v l z := by
  unfold zerosOf foundZ
  rw [List.filterMap_append]
  congr 1
  simp only [List.filterMap_cons, List.filterMap_nil]
  split <;> rename_i h <;> split at h <;> simp_all
/-- The tilt after so many zeros. -/
def tiltsTo (v : Vial) (l : List Mk) (k : Nat) : TZ := tiltsOf v (zerosOf v l (range v.z0 k))
theorem tiltsTo_zero (v : Vial) (l : List Mk) : tiltsTo v l 0 = ⟨⟨0, 0⟩, ⟨0, 0⟩, false⟩ := rfl
theorem tiltsTo_out {v : Vial} {l : List Mk} {k : Nat} (h : ¬ (withinS v.wr l (v.z0 + k)).lo ≤ (withinS v.wr l (v.z0 + k)).hi) : tiltsTo v l (k + 1) = tiltsTo v l k := by
  unfold tiltsTo
  rw [range_succ, zerosOf_snoc, foundZ, if_neg h, List.append_nil]
theorem tiltsTo_in {v : Vial} {l : List Mk} {k : Nat} (h : (withinS v.wr l (v.z0 + k)).lo ≤ (withinS v.wr l (v.z0 + k)).hi) : tiltsTo v l (k + 1) = tiltStep v (tiltsTo v l k) (v.z0 + k, withinS v.wr l (v.z0 + k)) := by
  unfold tiltsTo
  rw [range_succ, zerosOf_snoc, foundZ, if_pos h]
  unfold tiltsOf
  rw [List.foldl_append]; rfl
theorem tiltsTo_low {v : Vial} {l : List Mk} : ∀ {k : Nat}, (tiltsTo v l k).is = true → (tiltsTo v l k).zero.lo ≤ v.z0 + k ∧ (tiltsTo v l k).zero.hi ≤ v.z0 + k ∧ v.z0 ≤ (tiltsTo v l k).zero.lo ∧ (tiltsTo v l k).zero.lo ≤ (tiltsTo v l k).zero.hi
  | 0, h => by rw [tiltsTo_zero] at h; cases h
  | k + 1, h => by
    by_cases hin : (withinS v.wr l (v.z0 + k)).lo ≤ (withinS v.wr l (v.z0 + k)).hi
    · rw [tiltsTo_in hin]
      unfold tiltStep
      split
      · rename_i hi; have := tiltsTo_low hi; simp only; omega
      · simp only; omega
    · rw [tiltsTo_out hin] at h ⊢
      have := tiltsTo_low h; omega
theorem mulB {a b : Int} (ha : -10000 ≤ a ∧ a ≤ 10000) (hb : 0 ≤ b ∧ b ≤ 500) : -5000000 ≤ a * b ∧ a * b ≤ 5000000 := by
  have h1 := Int.mul_le_mul_of_nonneg_right ha.1 hb.1
  have h2 := Int.mul_le_mul_of_nonneg_right ha.2 hb.1
  omega
theorem least_most {v : Vial} (hv : v.ok = true) {lo hi : Int} (h : lo ≤ hi) : leastP v lo ≤ mostP v hi := by
  have hv' := Vial.ok_iff.1 hv
  have := Int.mul_le_mul_of_nonneg_right (c := v.v0) h (by omega)
  unfold leastP mostP; omega
theorem rdsOk_len {v : Vial} {l : List Rd} (h : rdsOk v l = true) : 1 ≤ l.length ∧ l.length ≤ 8 := by
  simp only [rdsOk, inB, Bool.and_eq_true, decide_eq_true_eq] at h; omega
theorem asked_zero {v : Vial} {l : List Rd} (h : asked v l = 0) : v.ok = true ∧ rdsOk v l = true := by
  unfold asked at h
  cases hv : v.ok <;> cases hr : rdsOk v l <;> simp [hv, hr] at h ⊢
/-- What Tilt hands back. -/
structure TE where
  tilt : Span
  zero : Span
  e : Int
  deriving DecidableEq
def TE.t (x : TE) : TV := .tup [x.tilt.t, x.zero.t, .int .i64 x.e]
def tiltR (v : Vial) (l : List Rd) : TE :=
  if asked v l = 0 then (if (tilts v (l.map mid)).is then ⟨(tilts v (l.map mid)).tilt, (tilts v (l.map mid)).zero, 0⟩ else ⟨⟨0, 0⟩, ⟨0, 0⟩, 33⟩)
  else ⟨⟨0, 0⟩, ⟨0, 0⟩, asked v l⟩
theorem tilts_to (v : Vial) (l : List Mk) : tilts v l = tiltsTo v l (v.z1 - v.z0 + 1).toNat := rfl
end Go.Oc
